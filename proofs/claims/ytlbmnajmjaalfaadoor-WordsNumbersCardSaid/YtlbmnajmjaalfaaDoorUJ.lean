/- The line of words: what Join writes, and that Split reads it back. Conditions: as each states. -/
import Derived.Test.YtlbmnajmjaalfaaDoorUW
namespace Go.Proofs.YtlbmnajmjaalfaaDoor.U
set_option linter.unusedSimpArgs false
set_option linter.unusedVariables false
open Go.RowKit Go.Proofs.YtlbmnajmjaalfaaDoor.P Go.Proofs.YtlbmnajmjaalfaaDoorW.PrintWords Go.Proofs.YtlbmnajmjaalfaaDoorW.PrintLast Go.Proofs.YtlbmnajmjaalfaaDoorW.PrintMore Go.Proofs.YtlbmnajmjaalfaaDoorW.Mine

def esc (c : Int) : List Int := if c = 34 ∨ c = 92 then [92, c] else if c = 10 then [92, 110] else if c = 13 then [92, 114] else [c]
def escs (l : List Int) : List Int := (l.map esc).flatten
def bareL (l : List Int) : Bool := l.all wsimple && !l.isEmpty
/-- A word as it is written. -/
def wordL (l : List Int) : List Int := if bareL l = true then l else 34 :: (escs l ++ [34])
def wlineL : List (List Int) → List Int
  | [] => []
  | [w] => wordL w
  | w :: v :: l => wordL w ++ 32 :: wlineL (v :: l)
theorem escs_cons (c : Int) (l : List Int) : escs (c :: l) = esc c ++ escs l := by simp [escs]
theorem escs_nil : escs [] = [] := rfl
theorem escs_append (a b : List Int) : escs (a ++ b) = escs a ++ escs b := by simp [escs]
theorem esc_len (c : Int) : 1 ≤ (esc c).length ∧ (esc c).length ≤ 2 := by
  unfold esc; split
  · simp
  split
  · simp
  split <;> simp
theorem escs_len : ∀ l : List Int, l.length ≤ (escs l).length ∧ (escs l).length ≤ 2 * l.length
  | [] => by simp [escs]
  | c :: l => by
    have := escs_len l
    have := esc_len c
    rw [escs_cons, List.length_append, List.length_cons]
    omega
theorem wordL_len (l : List Int) : l.length ≤ (wordL l).length ∧ (wordL l).length ≤ 2 * l.length + 2 := by
  unfold wordL
  have := escs_len l
  split
  · omega
  · simp; omega

/-! ### reading back -/
theorem qword_esc (c : Int) (rest acc : List Int) (hc : c ≠ 0 ∨ True) : qword (esc c ++ rest) acc = qword rest (acc ++ [c]) := by
  unfold esc
  by_cases h34 : c = 34
  · subst h34
    rw [if_pos (.inl rfl)]
    rw [List.cons_append, List.cons_append, List.nil_append, qword.eq_def]
    simp [wmeaning]
  by_cases h92 : c = 92
  · subst h92
    rw [if_pos (.inr rfl)]
    rw [List.cons_append, List.cons_append, List.nil_append, qword.eq_def]
    simp [wmeaning]
  rw [if_neg (by omega)]
  by_cases h10 : c = 10
  · subst h10
    rw [if_pos rfl, List.cons_append, List.cons_append, List.nil_append, qword.eq_def]
    simp [wmeaning]
  by_cases h13 : c = 13
  · subst h13
    rw [if_neg (by decide), if_pos rfl, List.cons_append, List.cons_append, List.nil_append, qword.eq_def]
    simp [wmeaning]
  rw [if_neg h10, if_neg h13, List.cons_append, List.nil_append, qword.eq_def]
  simp [h34, h92, h10, h13]
theorem qword_escs : ∀ (l rest acc : List Int), qword (escs l ++ 34 :: rest) acc = some (acc ++ l, rest)
  | [], rest, acc => by rw [escs_nil, List.nil_append, qword.eq_def]; simp
  | c :: l, rest, acc => by
    rw [escs_cons, List.append_assoc, qword_esc c _ _ (.inr trivial), qword_escs l rest]
    simp
theorem takeWhile_all (l rest : List Int) (h : l.all wsimple = true) (hr : rest = [] ∨ ∃ r, rest = 32 :: r) : (l ++ rest).takeWhile wsimple = l ∧ (l ++ rest).dropWhile wsimple = rest := by
  induction l with
  | nil =>
    rcases hr with rfl | ⟨r, rfl⟩
    · simp
    · have hs : wsimple 32 = false := by decide
      simp [hs]
  | cons c l ih =>
    simp only [List.all_cons, Bool.and_eq_true] at h
    obtain ⟨h1, h2⟩ := ih h.2
    simp [h.1, h1, h2]
theorem wsplit_word (l rest : List Int) (acc : List ByteArray) (hr : rest = [] ∨ ∃ r, rest = 32 :: r) : wsplit (wordL l ++ rest) 0 [] acc = after rest (acc ++ [strOfNums l]) := by
  unfold wordL
  cases hb : bareL l with
  | true =>
    rw [if_pos rfl]
    unfold bareL at hb
    simp only [Bool.and_eq_true] at hb
    obtain ⟨h1, h2⟩ := takeWhile_all l rest hb.1 hr
    rw [wsplit_begin]
    cases l with
    | nil => simp at hb
    | cons c cs =>
      have hc : wsimple c = true := by
        have := hb.1
        simp only [List.all_cons, Bool.and_eq_true] at this
        exact this.1
      have h34 : c ≠ 34 := by rintro rfl; exact absurd hc (by decide)
      simp only [List.cons_append] at h1 h2 ⊢
      rw [if_neg h34, if_pos hc, h1, h2]
  | false =>
    rw [if_neg (by decide), wsplit_begin]
    simp only [List.cons_append, if_true, List.append_assoc, List.nil_append, qword_escs]
theorem after_space (r : List Int) (out : List ByteArray) : after (32 :: r) out = wsplit r 0 [] out := by simp [after]
theorem wsplit_wline : ∀ (l : List (List Int)) (acc : List ByteArray), l ≠ [] → wsplit (wlineL l) 0 [] acc = fin (acc ++ l.map strOfNums)
  | [], _, h => absurd rfl h
  | [w], acc, _ => by
    have := wsplit_word w [] acc (.inl rfl)
    rw [List.append_nil] at this
    simp only [wlineL, this, after, List.map_cons, List.map_nil]
  | w :: v :: l, acc, _ => by
    rw [wlineL, wsplit_word w _ acc (.inr ⟨_, rfl⟩), after_space, wsplit_wline (v :: l) _ (by simp)]
    simp

/-! ### what Join computes -/
def Bts (l : List ByteArray) : List (List Int) := l.map bytesOf
def jline (l : List ByteArray) : List Int := wlineL (Bts l)
def big (l : List ByteArray) : Bool := l.any fun w => decide (4096 < w.size)
theorem big_nil : big [] = false := rfl
theorem big_cons (w : ByteArray) (l : List ByteArray) : big (w :: l) = (decide (4096 < w.size) || big l) := rfl
theorem big_mem {l : List ByteArray} (h : big l = true) : ∃ w ∈ l, 4096 < w.size := by
  unfold big at h
  obtain ⟨w, hw, h⟩ := List.any_eq_true.1 h
  exact ⟨w, hw, by simpa using h⟩
def joinP (l : List ByteArray) : ByteArray × Int := if 64 < l.length ∨ big l = true ∨ 4096 < (jline l).length then (⟨#[]⟩, 3) else (strOfNums (jline l), 0)
theorem wlineL_len : ∀ (l : List (List Int)), (∀ w ∈ l, w.length ≤ (wlineL l).length)
  | [], w, h => by cases h
  | [w], v, h => by
    simp only [List.mem_singleton] at h
    subst h
    exact (wordL_len _).1
  | w :: v :: l, x, h => by
    rw [wlineL, List.length_append, List.length_cons]
    rcases List.mem_cons.1 h with rfl | h
    · have := (wordL_len x).1; omega
    · have := wlineL_len (v :: l) x h; omega
theorem joinP_eq (l : List ByteArray) : joinP l = if 64 < l.length ∨ 4096 < (jline l).length then (⟨#[]⟩, 3) else (strOfNums (jline l), 0) := by
  unfold joinP
  by_cases h : 64 < l.length ∨ 4096 < (jline l).length
  · rw [if_pos h, if_pos (by rcases h with h | h; exact .inl h; exact .inr (.inr h))]
  · rw [if_neg h, if_neg]
    rintro (h1 | h1 | h1)
    · exact h (.inl h1)
    · obtain ⟨w, hw, h1⟩ := big_mem h1
      have := wlineL_len (Bts l) (bytesOf w) (List.mem_map_of_mem hw)
      rw [bytesOf_length] at this
      exact h (.inr (by unfold jline; omega))
    · exact h (.inr h1)

theorem bare_l0 (s : ByteArray) (hs : s.size ≤ 4294967296) : ∀ (d i : Nat), i + d = s.size → Ev (fun k => words_bare.l0 k s (s.size : Int) i) (((bytesOf s).drop i).all wsimple && (s.size != 0)) := by
  intro d
  induction d with
  | zero =>
    intro i hi
    refine Ev.mk 1 (fun k hk => ?_)
    obtain ⟨k, rfl⟩ : ∃ m, k = m + 1 := ⟨k - 1, by omega⟩
    simp only [words_bare.l0]
    rw [if_neg (by omega), drop_end s i (by omega)]
    congr 1
    simp only [List.all_nil, Bool.true_and]
    by_cases h : s.size = 0
    · rw [toList_nil.2 h]; simp [h]
    · have h2 : s.toList ≠ [] := fun e => h (toList_nil.1 e)
      rw [bne_iff_ne.2 h2, bne_iff_ne.2 h]
  | succ d ih =>
    intro i hi
    rw [drop_cons s i (by omega)]
    obtain ⟨K, hK⟩ := ih (i + 1) (by omega)
    dsimp only at hK
    refine Ev.mk (K + 1) (fun k hk => ?_)
    obtain ⟨k, rfl⟩ : ∃ m, k = m + 1 := ⟨k - 1, by omega⟩
    simp only [words_bare.l0]
    rw [if_pos (by omega), if_pos (by omega), if_pos (by omega), wsimple_eq]
    simp only [Option.bind_some]
    cases hc : wsimple (bt s (i : Int)) with
    | true => rw [if_pos rfl, wrap_succ i (by omega), hK k (by omega)]; simp [hc]
    | false => simp [hc]
theorem bytesOf_nil_iff (s : ByteArray) : bytesOf s = [] ↔ s.size = 0 := by
  constructor
  · intro h; rw [← bytesOf_length, h]; rfl
  · intro h; exact List.eq_nil_of_length_eq_zero (by rw [bytesOf_length]; exact h)
theorem bare_f (s : ByteArray) (hs : s.size ≤ 4294967296) : Ev (fun k => words_bare.f k s) (bareL (bytesOf s)) := by
  obtain ⟨K, hK⟩ := bare_l0 s hs s.size 0 (by omega)
  dsimp only at hK
  refine Ev.mk K (fun k hk => ?_)
  unfold words_bare.f
  have h := hK k hk
  rw [Int.natCast_zero] at h
  rw [h]
  congr 1
  unfold bareL
  rw [List.drop_zero]
  congr 1
  by_cases h : s.size = 0
  · rw [(bytesOf_nil_iff s).2 h, h]; rfl
  · cases hb : bytesOf s with
    | nil => exact absurd ((bytesOf_nil_iff s).1 hb) h
    | cons _ _ => simpa using h
theorem write_l0 (s : ByteArray) (hs : s.size ≤ 4294967296) : ∀ (d i : Nat) (acc : List Int), i + d = s.size → acc.length + 2 * (s.size - i) < 140737488355300 →
    Ev (fun k => words_write.l0 k acc s (s.size : Int) i) (acc ++ escs ((bytesOf s).drop i) ++ [34]) := by
  intro d
  induction d with
  | zero =>
    intro i acc hi hl
    refine Ev.mk 1 (fun k hk => ?_)
    obtain ⟨k, rfl⟩ : ∃ m, k = m + 1 := ⟨k - 1, by omega⟩
    simp only [words_write.l0]
    rw [if_neg (by omega), if_pos (by omega), drop_end s i (by omega), escs_nil, List.append_nil]
  | succ d ih =>
    intro i acc hi hl
    rw [drop_cons s i (by omega), escs_cons]
    have hel := esc_len (bt s (i : Int))
    obtain ⟨K, hK⟩ := ih (i + 1) (acc ++ esc (bt s (i : Int))) (by omega) (by rw [List.length_append]; omega)
    dsimp only at hK
    have e2 : acc ++ (esc (bt s (i : Int)) ++ escs ((bytesOf s).drop (i + 1))) ++ [34] = acc ++ esc (bt s (i : Int)) ++ escs ((bytesOf s).drop (i + 1)) ++ [34] := by simp
    rw [e2]
    refine Ev.mk (K + 2) (fun k hk => ?_)
    obtain ⟨k, rfl⟩ : ∃ m, k = m + 2 := ⟨k - 2, by omega⟩
    rw [← hK k (by omega)]
    simp only [words_write.l0]
    rw [if_pos (by omega), if_pos (by omega), if_pos (by omega)]
    by_cases h34 : bt s (i : Int) = 34
    · rw [if_pos h34]
      simp only [words_write.j1, h34, beq_self_eq_true, if_true, Option.bind_some]
      rw [if_pos (by simp; omega), wrap_succ i (by omega)]
      simp [esc]
    rw [if_neg h34]
    by_cases h92 : bt s (i : Int) = 92
    · simp only [words_write.j1, h92, beq_self_eq_true, if_true, Option.bind_some]
      rw [if_pos (by simp; omega), wrap_succ i (by omega)]
      simp [esc]
    have hb : (bt s (i : Int) == 92) = false := beq_eq_false_iff_ne.mpr h92
    simp only [words_write.j1, hb, Bool.false_eq_true, if_false]
    by_cases h10 : bt s (i : Int) = 10
    · rw [if_pos h10]
      simp only [Option.bind_some]
      rw [if_pos (by simp; omega), wrap_succ i (by omega), h10]
      simp [esc]
    rw [if_neg h10]
    by_cases h13 : bt s (i : Int) = 13
    · rw [if_pos h13]
      simp only [Option.bind_some]
      rw [if_pos (by simp; omega), wrap_succ i (by omega), h13]
      simp [esc]
    rw [if_neg h13, if_pos (by omega), wrap_succ i (by omega)]
    simp [esc, h34, h92, h10, h13]
theorem write_f (acc : List Int) (s : ByteArray) (hs : s.size ≤ 4294967296) (hl : acc.length + 2 * s.size < 140737488355200) : Ev (fun k => words_write.f k acc s) (acc ++ wordL (bytesOf s)) := by
  obtain ⟨K, hK⟩ := bare_f s hs
  obtain ⟨K', hK'⟩ := write_l0 s hs s.size 0 (acc ++ [34]) (by omega) (by simp; omega)
  dsimp only at hK hK'
  refine Ev.mk (K + K') (fun k hk => ?_)
  unfold words_write.f
  rw [hK k (by omega)]
  simp only [Option.bind_some]
  unfold wordL
  cases hb : bareL (bytesOf s) with
  | true => rw [if_pos rfl, if_pos rfl, if_pos (by omega)]
  | false =>
    simp only [Bool.false_eq_true, if_false]
    rw [if_pos (by omega)]
    have h := hK' k (by omega)
    rw [Int.natCast_zero] at h
    rw [h]
    simp
/-- What a list of words adds to what has been written. -/
def jl (first : Bool) : List ByteArray → List Int
  | [] => []
  | w :: l => (if first then [] else [32]) ++ wordL (bytesOf w) ++ jl false l
theorem jl_true : ∀ l : List ByteArray, jl true l = jline l
  | [] => rfl
  | [w] => by simp [jl, jline, Bts, wlineL]
  | w :: v :: l => by
    have ih := jl_true (v :: l)
    have e : jl false (v :: l) = 32 :: jl true (v :: l) := by simp [jl]
    unfold jl
    rw [e, ih]
    simp [jline, Bts, wlineL]
theorem rdOf_nat (l : List ByteArray) (i : Nat) (h : i < l.length) : rdOf ByteArray.empty l (i : Int) = l[i] := by
  simp [rdOf, List.getD_eq_getElem?_getD, h]
theorem join_l0 (l : List ByteArray) (hl : l.length ≤ 64) : ∀ (d i : Nat) (acc : List Int), i + d = l.length → acc.length ≤ 8200 * i →
    Ev (fun k => words_Join.l0 k acc l (l.length : Int) i) (if big (l.drop i) = true ∨ 4096 < (acc ++ jl (i == 0) (l.drop i)).length then (⟨#[]⟩, 3) else (strOfNums (acc ++ jl (i == 0) (l.drop i)), 0)) := by
  intro d
  induction d with
  | zero =>
    intro i acc hi ha
    have e : l.drop i = [] := List.drop_eq_nil_of_le (by omega)
    rw [e]
    refine Ev.mk 1 (fun k hk => ?_)
    obtain ⟨k, rfl⟩ : ∃ m, k = m + 1 := ⟨k - 1, by omega⟩
    simp only [words_Join.l0]
    rw [if_neg (by omega)]
    simp only [jl, List.append_nil, big_nil, Bool.false_eq_true, false_or]
    by_cases h : 4096 < acc.length
    · rw [if_pos h, if_pos (by omega)]
    · rw [if_neg h, if_neg (by omega)]
  | succ d ih =>
    intro i acc hi ha
    have hlt : i < l.length := by omega
    rw [List.drop_eq_getElem_cons hlt]
    have hrd := rdOf_nat l i hlt
    by_cases hbig : 4096 < (l[i]).size
    · rw [if_pos (.inl (by rw [big_cons]; simp [hbig]))]
      refine Ev.mk 1 (fun k hk => ?_)
      obtain ⟨k, rfl⟩ : ∃ m, k = m + 1 := ⟨k - 1, by omega⟩
      simp only [words_Join.l0]
      rw [if_pos (by omega), if_pos (by omega), if_pos (by omega), hrd]
      split
      · rw [if_pos (by omega), if_pos (by omega)]
      · rw [if_pos (by omega)]
    have hwl := wordL_len (bytesOf l[i])
    rw [bytesOf_length] at hwl
    have step : ∀ (pre : List Int), pre.length ≤ 1 → (i == 0) = true ∧ pre = [] ∨ (i == 0) = false ∧ pre = [32] →
        Ev (fun k => (words_write.f k (acc ++ pre) l[i]).bind fun t => words_Join.l0 k t l (l.length : Int) (wrap64 ((i : Int) + 1))) (if big (l[i] :: l.drop (i + 1)) = true ∨ 4096 < (acc ++ jl (i == 0) (l[i] :: l.drop (i + 1))).length then (⟨#[]⟩, 3) else (strOfNums (acc ++ jl (i == 0) (l[i] :: l.drop (i + 1))), 0)) := by
      intro pre hp hpre
      have hw := write_f (acc ++ pre) l[i] (by omega) (by rw [List.length_append]; omega)
      have hi2 := ih (i + 1) (acc ++ pre ++ wordL (bytesOf l[i])) (by omega) (by rw [List.length_append, List.length_append]; omega)
      have ej : acc ++ jl (i == 0) (l[i] :: l.drop (i + 1)) = acc ++ pre ++ wordL (bytesOf l[i]) ++ jl (i + 1 == 0) (l.drop (i + 1)) := by
        have h0 : (i + 1 == 0) = false := by simp
        rw [h0]
        rcases hpre with ⟨h1, h2⟩ | ⟨h1, h2⟩
        · rw [h1, h2]; simp [jl]
        · rw [h1, h2]; simp [jl]
      rw [ej]
      have em : big (l[i] :: l.drop (i + 1)) = big (l.drop (i + 1)) := by rw [big_cons]; simp [hbig]
      rw [em]
      refine Ev.bind hw ?_
      rw [wrap_succ i (by omega)]
      exact hi2
    by_cases h0 : i = 0
    · obtain ⟨K, hK⟩ := step [] (by simp) (.inl ⟨by simp [h0], rfl⟩)
      dsimp only at hK
      refine Ev.mk (K + 1) (fun k hk => ?_)
      obtain ⟨k, rfl⟩ : ∃ m, k = m + 1 := ⟨k - 1, by omega⟩
      rw [← hK k (by omega)]
      simp only [words_Join.l0]
      rw [if_pos (by omega), if_pos (by omega), if_pos (by omega), hrd, if_neg (by omega), if_neg (by omega), List.append_nil]
    · obtain ⟨K, hK⟩ := step [32] (by simp) (.inr ⟨by simpa using h0, rfl⟩)
      dsimp only at hK
      refine Ev.mk (K + 1) (fun k hk => ?_)
      obtain ⟨k, rfl⟩ : ∃ m, k = m + 1 := ⟨k - 1, by omega⟩
      rw [← hK k (by omega)]
      simp only [words_Join.l0]
      rw [if_pos (by omega), if_pos (by omega), if_pos (by omega), hrd, if_pos (by omega), if_pos (by omega), if_neg (by omega)]
theorem join_f (l : List ByteArray) : Ev (fun k => words_Join.f k l) (joinP l) := by
  unfold joinP
  by_cases h : 64 < l.length
  · rw [if_pos (.inl h)]
    refine Ev.mk 0 (fun k _ => ?_)
    unfold words_Join.f
    rw [if_pos (by omega)]
  · obtain ⟨K, hK⟩ := join_l0 l (by omega) l.length 0 [] (by omega) (by simp)
    dsimp only at hK
    refine Ev.mk K (fun k hk => ?_)
    unfold words_Join.f
    rw [if_neg (by omega)]
    have h2 := hK k hk
    rw [Int.natCast_zero] at h2
    rw [h2]
    simp only [List.drop_zero, List.nil_append, beq_self_eq_true, jl_true, h, false_or]
end Go.Proofs.YtlbmnajmjaalfaaDoor.U
