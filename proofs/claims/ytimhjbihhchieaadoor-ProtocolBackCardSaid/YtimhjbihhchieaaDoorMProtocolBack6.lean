/- Texts of this claim, one after the other: the calculus V and the functions' contracts. Conditions: as each states. -/
import Derived.Test.YtimhjbihhchieaaDoorMProtocolBack5
import Derived.Lib.ItoaLen
import Derived.Lib.ItoaMem
import Derived.Laws.Strings
import Derived.Laws.Entries
namespace Go.V
set_option linter.unusedSimpArgs false
set_option linter.unusedVariables false
open Go

def bytesOf (s : ByteArray) : List Int := s.data.toList.map fun b => (b.toNat : Int)
theorem nums_eq (s : ByteArray) : numsOfStr s = bytesOf s := rfl
theorem bytesOf_length (s : ByteArray) : (bytesOf s).length = s.size := by simp [bytesOf]
/-- A whole number as the machine keeps it. -/
def wrap64 (n : Int) : Int := (n + 9223372036854775808) % 18446744073709551616 - 9223372036854775808
def mn (a b : Int) : Int := if b < a then b else a
def bt (s : ByteArray) (i : Int) : Int := (((ByteArray.data s).toList.getD i.toNat 0).toNat : Int)
theorem drop_cons (a0 : ByteArray) (k : Nat) (h : k < a0.size) : (bytesOf a0).drop k = bt a0 (k : Int) :: (bytesOf a0).drop (k + 1) := by
  have hl : k < (bytesOf a0).length := by rw [bytesOf_length]; exact h
  rw [List.drop_eq_getElem_cons hl]
  congr 1
  have hl' : k < a0.data.toList.length := by rw [Array.length_toList]; exact h
  simp only [bytesOf, List.getElem_map, bt, Int.toNat_natCast, List.getD_eq_getElem?_getD, List.getElem?_eq_getElem hl', Option.getD_some]
theorem bt_byte (s : ByteArray) (i : Int) : 0 ≤ bt s i ∧ bt s i < 256 := by
  have := ((ByteArray.data s).toList.getD i.toNat 0).toNat_lt
  unfold bt
  omega
theorem bytes_cons (s : ByteArray) (h : 0 < s.size) : bytesOf s = bt s 0 :: (bytesOf s).drop 1 := by
  have := drop_cons s 0 h
  simpa using this
def wsimple (c : Int) : Bool := decide (32 < c) && decide (c < 127) && (c != 34) && (c != 92)
def wmeaning (c : Int) : Int × Bool := if c = 34 then (34, true) else if c = 92 then (92, true) else if c = 110 then (10, true) else if c = 114 then (13, true) else (0, false)
def wtake (s : Int) (word : List Int) (words : List ByteArray) (c : Int) : Bool × Int × List Int × List ByteArray :=
  if s = 0 then (if c = 34 then (true, 2, word, words) else (wsimple c, 1, word ++ [c], words))
  else if s = 1 then (if c = 32 then (true, 0, [], words ++ [strOfNums word]) else (wsimple c, 1, word ++ [c], words))
  else if s = 4 then (if c = 32 then (true, 0, [], words ++ [strOfNums word]) else (false, 4, word ++ [c], words))
  else if s = 2 then (if c = 34 then (true, 4, word, words) else if c = 92 then (true, 3, word, words) else if c = 10 then (false, 2, word, words) else if c = 13 then (false, 2, word, words) else (true, 2, word ++ [c], words))
  else ((wmeaning c).2, 2, word ++ [(wmeaning c).1], words)
def wsplit : List Int → Int → List Int → List ByteArray → List ByteArray × Int
  | [], s, word, words => if s = 1 ∨ s = 4 then (if 64 < (words ++ [strOfNums word]).length then ([], 3) else (words ++ [strOfNums word], 0)) else ([], 5)
  | c :: cs, s, word, words => if (wtake s word words c).1 = true then wsplit cs (wtake s word words c).2.1 (wtake s word words c).2.2.1 (wtake s word words c).2.2.2 else ([], 5)
def splitP (a0 : ByteArray) : List ByteArray × Int :=
  if 4096 < a0.size then ([], 3) else if a0.size = 0 then ([], 0) else wsplit (bytesOf a0) 0 [] []

theorem toList_data (s : ByteArray) : s.toList = s.data.toList := ByteArray.toList_eq s
theorem ba_ext {s t : ByteArray} (h : s.data.toList = t.data.toList) : s = t := by
  cases s; cases t; simp at h; simp [h]
theorem toList_inj {s t : ByteArray} : s.toList = t.toList ↔ s = t := by
  constructor
  · intro h; rw [toList_data, toList_data] at h; exact ba_ext h
  · rintro rfl; rfl
theorem toList_nil {s : ByteArray} : s.toList = ([] : List UInt8) ↔ s.size = 0 := by
  rw [toList_data]
  constructor
  · intro h
    have : s.data.toList.length = 0 := by rw [h]; rfl
    simpa using this
  · intro h
    exact List.eq_nil_of_length_eq_zero (by simpa using h)
theorem bytesOf_inj {s t : ByteArray} (h : bytesOf s = bytesOf t) : s = t := by
  apply ba_ext
  unfold bytesOf at h
  have key : ∀ (l m : List UInt8), (l.map fun b : UInt8 => (b.toNat : Int)) = (m.map fun b : UInt8 => (b.toNat : Int)) → l = m := by
    intro l
    induction l with
    | nil => intro m hm; cases m with
      | nil => rfl
      | cons _ _ => simp at hm
    | cons x l ih => intro m hm; cases m with
      | nil => simp at hm
      | cons y m =>
        simp only [List.map_cons, List.cons.injEq] at hm
        have h1 : x.toNat = y.toNat := by omega
        rw [UInt8.toNat_inj.1 h1, ih m hm.2]
  exact key _ _ h
theorem bytesOf_range (s : ByteArray) : ∀ x ∈ bytesOf s, 0 ≤ x ∧ x < 256 := by
  intro x hx
  unfold bytesOf at hx
  obtain ⟨b, _, rfl⟩ := List.mem_map.1 hx
  have := b.toNat_lt
  omega
theorem bytesOf_strOf (xs : List Int) (h : ∀ x ∈ xs, 0 ≤ x ∧ x < 256) : bytesOf (strOfNums xs) = xs := by
  unfold bytesOf strOfNums
  simp only [List.map_map]
  conv => rhs; rw [← List.map_id xs]
  apply List.map_congr_left
  intro x hx
  have := h x hx
  simp only [Function.comp]
  rw [UInt8.toNat_ofNat']
  show ((x.toNat % 2 ^ 8 : Nat) : Int) = x
  omega
theorem strOf_bytesOf (s : ByteArray) : strOfNums (bytesOf s) = s := bytesOf_inj (bytesOf_strOf _ (bytesOf_range s))
theorem bytesOf_append (a b : ByteArray) : bytesOf (a ++ b) = bytesOf a ++ bytesOf b := by
  unfold bytesOf
  rw [← List.map_append, ByteArray.data_append, Array.toList_append]
theorem bytesOf_extract (s : ByteArray) (a b : Nat) : bytesOf (s.extract a b) = ((bytesOf s).take b).drop a := by
  unfold bytesOf
  rw [← List.map_take, ← List.map_drop]
  congr 1
  rw [ByteArray.data_extract, Array.toList_extract, List.extract_eq_take_drop, List.drop_take]
theorem bytesOf_mk (xs : List UInt8) : bytesOf ⟨xs.toArray⟩ = xs.map fun b => (b.toNat : Int) := rfl
theorem wrap_succ (k : Nat) (h : k < 9223372036854775807) : wrap64 ((k : Int) + 1) = ((k + 1 : Nat) : Int) := by
  unfold wrap64
  omega
theorem wrap_id (z : Int) (h : -9223372036854775808 ≤ z) (h' : z ≤ 9223372036854775807) : wrap64 z = z := by
  unfold wrap64
  omega
theorem u64_wrap (z : Int) : IntKind.u64.wrap z = z % 18446744073709551616 := by
  unfold IntKind.wrap
  simp [IntKind.signed, IntKind.bits]
theorem u64_id (z : Int) (h : 0 ≤ z) (h' : z < 18446744073709551616) : IntKind.u64.wrap z = z := by
  rw [u64_wrap]; omega
theorem drop_end (a0 : ByteArray) (k : Nat) (h : a0.size ≤ k) : (bytesOf a0).drop k = [] := List.drop_eq_nil_of_le (by rw [bytesOf_length]; exact h)
/-- A quoted word behind its first quote: the word, and what is left behind the last one. -/
def qword : List Int → List Int → Option (List Int × List Int)
  | [], _ => none
  | c :: cs, acc => if c = 34 then some (acc, cs) else if c = 10 then none else if c = 13 then none else if c = 92 then
      (match cs with | [] => none | x :: cs' => if (wmeaning x).2 = true then qword cs' (acc ++ [(wmeaning x).1]) else none) else qword cs (acc ++ [c])
theorem qword_len : ∀ (n : Nat) (bs acc w r : List Int), bs.length ≤ n → qword bs acc = some (w, r) → r.length < bs.length ∧ r = bs.drop (bs.length - r.length) := by
  intro n
  induction n with
  | zero => intro bs acc w r hn h; cases bs with
    | nil => simp [qword] at h
    | cons _ _ => simp at hn
  | succ n ih =>
    intro bs acc w r hn h
    cases bs with
    | nil => simp [qword] at h
    | cons c cs =>
      have hdrop : ∀ (m : List Int), r.length < m.length → r = m.drop (m.length - r.length) → m.length ≤ cs.length → (∃ p, cs = p ++ m) → r.length < (c :: cs).length ∧ r = (c :: cs).drop ((c :: cs).length - r.length) := by
        intro m h1 h2 h3 ⟨p, hp⟩
        refine ⟨by simp; omega, ?_⟩
        rw [hp]
        have e : (c :: (p ++ m)).length - r.length = (c :: p).length + (m.length - r.length) := by simp; omega
        rw [e, show c :: (p ++ m) = (c :: p) ++ m from rfl, List.drop_append, List.drop_eq_nil_of_le (by omega), List.nil_append]
        rw [show (c :: p).length + (m.length - r.length) - (c :: p).length = m.length - r.length by omega]
        exact h2
      unfold qword at h
      split at h
      · injection h with h
        injection h with h1 h2
        subst h2
        exact ⟨by simp, by simp⟩
      split at h
      · cases h
      split at h
      · cases h
      split at h
      · cases cs with
        | nil => cases h
        | cons x cs' =>
          simp only at h
          split at h
          · obtain ⟨h1, h2⟩ := ih cs' _ w r (by simp at hn; omega) h
            exact hdrop cs' h1 h2 (by simp) ⟨[x], rfl⟩
          · cases h
      · obtain ⟨h1, h2⟩ := ih cs _ w r (by simp at hn; omega) h
        exact hdrop cs h1 h2 (Nat.le_refl _) ⟨[], rfl⟩
/-- The end of a line: too many words, or these. -/
def fin (out : List ByteArray) : List ByteArray × Int := if 64 < out.length then ([], 3) else (out, 0)
/-- What follows a word. -/
def after (r : List Int) (out : List ByteArray) : List ByteArray × Int :=
  match r with
  | [] => fin out
  | c :: cs => if c = 32 then wsplit cs 0 [] out else ([], 5)
theorem wsplit_ended (bs : List Int) (word : List Int) (acc : List ByteArray) : wsplit bs 4 word acc = after bs (acc ++ [strOfNums word]) := by
  cases bs with
  | nil => simp [wsplit, after, fin]
  | cons c cs =>
    unfold wsplit after
    by_cases h : c = 32 <;> simp [wtake, h]
theorem wsplit_plain : ∀ (bs : List Int) (word : List Int) (acc : List ByteArray), wsplit bs 1 word acc = after (bs.dropWhile wsimple) (acc ++ [strOfNums (word ++ bs.takeWhile wsimple)]) := by
  intro bs
  induction bs with
  | nil => intro word acc; simp [wsplit, after, fin]
  | cons c cs ih =>
    intro word acc
    by_cases h : c = 32
    · subst h
      have hs : wsimple 32 = false := by decide
      simp [wsplit, wtake, hs, after]
    · cases hs : wsimple c with
      | true =>
        have : wsplit (c :: cs) 1 word acc = wsplit cs 1 (word ++ [c]) acc := by
          rw [wsplit]; simp [wtake, h, hs]
        rw [this, ih]
        simp [hs]
      | false =>
        have : wsplit (c :: cs) 1 word acc = ([], 5) := by
          rw [wsplit]; simp [wtake, h, hs]
        rw [this]
        simp [hs, after, h]
theorem wsplit_quoted : ∀ (n : Nat) (bs : List Int) (word : List Int) (acc : List ByteArray), bs.length ≤ n → wsplit bs 2 word acc = match qword bs word with
    | none => ([], 5)
    | some (w, r) => after r (acc ++ [strOfNums w]) := by
  intro n
  induction n with
  | zero => intro bs word acc hn; cases bs with
    | nil => simp [wsplit, qword]
    | cons _ _ => simp at hn
  | succ n ih =>
    intro bs word acc hn
    cases bs with
    | nil => simp [wsplit, qword]
    | cons c cs =>
      have hn' : cs.length ≤ n := by simpa using hn
      by_cases h34 : c = 34
      · subst h34
        rw [wsplit, qword.eq_def]
        simp [wtake, wsplit_ended]
      by_cases h10 : c = 10
      · subst h10
        rw [wsplit, qword.eq_def]; simp [wtake]
      by_cases h13 : c = 13
      · subst h13
        rw [wsplit, qword.eq_def]; simp [wtake]
      by_cases h92 : c = 92
      · subst h92
        rw [wsplit]
        cases cs with
        | nil => simp [wtake, qword, wsplit]
        | cons x cs' =>
          simp only [wtake]
          rw [qword]
          simp only [show ¬ ((92 : Int) = 34) by decide, show ¬ ((92 : Int) = 10) by decide, show ¬ ((92 : Int) = 13) by decide, if_false, if_true, show ¬ ((2 : Int) = 0) by decide, show ¬ ((2 : Int) = 1) by decide, show ¬ ((2 : Int) = 4) by decide]
          rw [wsplit]
          simp only [wtake, show ¬ ((3 : Int) = 0) by decide, show ¬ ((3 : Int) = 1) by decide, show ¬ ((3 : Int) = 4) by decide, show ¬ ((3 : Int) = 2) by decide, if_false]
          by_cases hm : (wmeaning x).2 = true
          · rw [if_pos hm, if_pos hm]
            exact ih cs' _ acc (by simp at hn'; omega)
          · rw [if_neg hm, if_neg hm]
      · have e1 : wsplit (c :: cs) 2 word acc = wsplit cs 2 (word ++ [c]) acc := by
          rw [wsplit]; simp [wtake, h34, h10, h13, h92]
        have e2 : qword (c :: cs) word = qword cs (word ++ [c]) := by
          rw [qword.eq_def]; simp [h34, h10, h13, h92]
        rw [e1, e2]
        exact ih cs _ acc hn'
/-- A word at the beginning. -/
theorem wsplit_begin (bs : List Int) (acc : List ByteArray) : wsplit bs 0 [] acc = match bs with
    | [] => ([], 5)
    | c :: cs => if c = 34 then (match qword cs [] with | none => ([], 5) | some (w, r) => after r (acc ++ [strOfNums w]))
        else if wsimple c = true then after (bs.dropWhile wsimple) (acc ++ [strOfNums (bs.takeWhile wsimple)]) else ([], 5) := by
  cases bs with
  | nil => simp [wsplit]
  | cons c cs =>
    simp only
    by_cases h : c = 34
    · subst h
      rw [if_pos rfl, wsplit]
      simp only [wtake, if_true]
      exact wsplit_quoted _ cs [] acc (Nat.le_refl _)
    · rw [if_neg h, wsplit]
      simp only [wtake, if_neg h, if_true]
      cases hs : wsimple c with
      | true => simp [wsplit_plain, hs]
      | false => simp
theorem takeWhile_take {α : Type} (p : α → Bool) : ∀ l : List α, l.take (l.takeWhile p).length = l.takeWhile p ∧ l.drop (l.takeWhile p).length = l.dropWhile p
  | [] => by simp
  | x :: l => by
    obtain ⟨h1, h2⟩ := takeWhile_take p l
    cases h : p x <;> simp [h, h1, h2]
def esc (c : Int) : List Int := if c = 34 ∨ c = 92 then [92, c] else if c = 10 then [92, 110] else if c = 13 then [92, 114] else [c]
def escs (l : List Int) : List Int := (l.map esc).flatten
def bareL (l : List Int) : Bool := l.all wsimple && !l.isEmpty
/-- A word as it is written. -/
def wordL (l : List Int) : List Int := if bareL l = true then l else 34 :: (escs l ++ [34])
def wlineL : List (List Int) → List Int
  | [] => []
  | [w] => wordL w
  | w :: v :: l => wordL w ++ 32 :: wlineL (v :: l)
theorem escs_cons (c : Int) (l : List Int) : escs (c :: l) = esc c ++ escs l := by simp [escs]
theorem escs_nil : escs [] = [] := rfl
theorem escs_append (a b : List Int) : escs (a ++ b) = escs a ++ escs b := by simp [escs]
theorem esc_len (c : Int) : 1 ≤ (esc c).length ∧ (esc c).length ≤ 2 := by
  unfold esc; split
  · simp
  split
  · simp
  split <;> simp
theorem escs_len : ∀ l : List Int, l.length ≤ (escs l).length ∧ (escs l).length ≤ 2 * l.length
  | [] => by simp [escs]
  | c :: l => by
    have := escs_len l
    have := esc_len c
    rw [escs_cons, List.length_append, List.length_cons]
    omega
theorem wordL_len (l : List Int) : l.length ≤ (wordL l).length ∧ (wordL l).length ≤ 2 * l.length + 2 := by
  unfold wordL
  have := escs_len l
  split
  · omega
  · simp; omega

/-! ### reading back -/
theorem qword_esc (c : Int) (rest acc : List Int) (hc : c ≠ 0 ∨ True) : qword (esc c ++ rest) acc = qword rest (acc ++ [c]) := by
  unfold esc
  by_cases h34 : c = 34
  · subst h34
    rw [if_pos (.inl rfl)]
    rw [List.cons_append, List.cons_append, List.nil_append, qword.eq_def]
    simp [wmeaning]
  by_cases h92 : c = 92
  · subst h92
    rw [if_pos (.inr rfl)]
    rw [List.cons_append, List.cons_append, List.nil_append, qword.eq_def]
    simp [wmeaning]
  rw [if_neg (by omega)]
  by_cases h10 : c = 10
  · subst h10
    rw [if_pos rfl, List.cons_append, List.cons_append, List.nil_append, qword.eq_def]
    simp [wmeaning]
  by_cases h13 : c = 13
  · subst h13
    rw [if_neg (by decide), if_pos rfl, List.cons_append, List.cons_append, List.nil_append, qword.eq_def]
    simp [wmeaning]
  rw [if_neg h10, if_neg h13, List.cons_append, List.nil_append, qword.eq_def]
  simp [h34, h92, h10, h13]
theorem qword_escs : ∀ (l rest acc : List Int), qword (escs l ++ 34 :: rest) acc = some (acc ++ l, rest)
  | [], rest, acc => by rw [escs_nil, List.nil_append, qword.eq_def]; simp
  | c :: l, rest, acc => by
    rw [escs_cons, List.append_assoc, qword_esc c _ _ (.inr trivial), qword_escs l rest]
    simp
theorem takeWhile_all (l rest : List Int) (h : l.all wsimple = true) (hr : rest = [] ∨ ∃ r, rest = 32 :: r) : (l ++ rest).takeWhile wsimple = l ∧ (l ++ rest).dropWhile wsimple = rest := by
  induction l with
  | nil =>
    rcases hr with rfl | ⟨r, rfl⟩
    · simp
    · have hs : wsimple 32 = false := by decide
      simp [hs]
  | cons c l ih =>
    simp only [List.all_cons, Bool.and_eq_true] at h
    obtain ⟨h1, h2⟩ := ih h.2
    simp [h.1, h1, h2]
theorem wsplit_word (l rest : List Int) (acc : List ByteArray) (hr : rest = [] ∨ ∃ r, rest = 32 :: r) : wsplit (wordL l ++ rest) 0 [] acc = after rest (acc ++ [strOfNums l]) := by
  unfold wordL
  cases hb : bareL l with
  | true =>
    rw [if_pos rfl]
    unfold bareL at hb
    simp only [Bool.and_eq_true] at hb
    obtain ⟨h1, h2⟩ := takeWhile_all l rest hb.1 hr
    rw [wsplit_begin]
    cases l with
    | nil => simp at hb
    | cons c cs =>
      have hc : wsimple c = true := by
        have := hb.1
        simp only [List.all_cons, Bool.and_eq_true] at this
        exact this.1
      have h34 : c ≠ 34 := by rintro rfl; exact absurd hc (by decide)
      simp only [List.cons_append] at h1 h2 ⊢
      rw [if_neg h34, if_pos hc, h1, h2]
  | false =>
    rw [if_neg (by decide), wsplit_begin]
    simp only [List.cons_append, if_true, List.append_assoc, List.nil_append, qword_escs]
theorem after_space (r : List Int) (out : List ByteArray) : after (32 :: r) out = wsplit r 0 [] out := by simp [after]
theorem wsplit_wline : ∀ (l : List (List Int)) (acc : List ByteArray), l ≠ [] → wsplit (wlineL l) 0 [] acc = fin (acc ++ l.map strOfNums)
  | [], _, h => absurd rfl h
  | [w], acc, _ => by
    have := wsplit_word w [] acc (.inl rfl)
    rw [List.append_nil] at this
    simp only [wlineL, this, after, List.map_cons, List.map_nil]
  | w :: v :: l, acc, _ => by
    rw [wlineL, wsplit_word w _ acc (.inr ⟨_, rfl⟩), after_space, wsplit_wline (v :: l) _ (by simp)]
    simp

/-! ### what Join computes -/
def Bts (l : List ByteArray) : List (List Int) := l.map bytesOf
def jline (l : List ByteArray) : List Int := wlineL (Bts l)
def big (l : List ByteArray) : Bool := l.any fun w => decide (4096 < w.size)
theorem big_nil : big [] = false := rfl
theorem big_cons (w : ByteArray) (l : List ByteArray) : big (w :: l) = (decide (4096 < w.size) || big l) := rfl
theorem big_mem {l : List ByteArray} (h : big l = true) : ∃ w ∈ l, 4096 < w.size := by
  unfold big at h
  obtain ⟨w, hw, h⟩ := List.any_eq_true.1 h
  exact ⟨w, hw, by simpa using h⟩
def joinP (l : List ByteArray) : ByteArray × Int := if 64 < l.length ∨ big l = true ∨ 4096 < (jline l).length then (⟨#[]⟩, 3) else (strOfNums (jline l), 0)
theorem wlineL_len : ∀ (l : List (List Int)), (∀ w ∈ l, w.length ≤ (wlineL l).length)
  | [], w, h => by cases h
  | [w], v, h => by
    simp only [List.mem_singleton] at h
    subst h
    exact (wordL_len _).1
  | w :: v :: l, x, h => by
    rw [wlineL, List.length_append, List.length_cons]
    rcases List.mem_cons.1 h with rfl | h
    · have := (wordL_len x).1; omega
    · have := wlineL_len (v :: l) x h; omega
theorem joinP_eq (l : List ByteArray) : joinP l = if 64 < l.length ∨ 4096 < (jline l).length then (⟨#[]⟩, 3) else (strOfNums (jline l), 0) := by
  unfold joinP
  by_cases h : 64 < l.length ∨ 4096 < (jline l).length
  · rw [if_pos h, if_pos (by rcases h with h | h; exact .inl h; exact .inr (.inr h))]
  · rw [if_neg h, if_neg]
    rintro (h1 | h1 | h1)
    · exact h (.inl h1)
    · obtain ⟨w, hw, h1⟩ := big_mem h1
      have := wlineL_len (Bts l) (bytesOf w) (List.mem_map_of_mem hw)
      rw [bytesOf_length] at this
      exact h (.inr (by unfold jline; omega))
    · exact h (.inr h1)
theorem bytesOf_nil_iff (s : ByteArray) : bytesOf s = [] ↔ s.size = 0 := by
  constructor
  · intro h; rw [← bytesOf_length, h]; rfl
  · intro h; exact List.eq_nil_of_length_eq_zero (by rw [bytesOf_length]; exact h)
def InR (l : List Int) : Prop := ∀ x ∈ l, 0 ≤ x ∧ x < 256
theorem InR.cons {c : Int} {l : List Int} (h : InR (c :: l)) : (0 ≤ c ∧ c < 256) ∧ InR l := ⟨h c List.mem_cons_self, fun x hx => h x (List.mem_cons_of_mem _ hx)⟩
theorem InR.mk {c : Int} {l : List Int} (h : 0 ≤ c ∧ c < 256) (h' : InR l) : InR (c :: l) := fun x hx => by
  rcases List.mem_cons.1 hx with rfl | hx
  · exact h
  · exact h' x hx
theorem InR.append {a b : List Int} (h : InR a) (h' : InR b) : InR (a ++ b) := fun x hx => by
  rcases List.mem_append.1 hx with hx | hx
  · exact h x hx
  · exact h' x hx
theorem InR.nil : InR [] := fun x hx => by cases hx
theorem meaning_inR (c : Int) : 0 ≤ (wmeaning c).1 ∧ (wmeaning c).1 < 256 := by
  unfold wmeaning
  repeat' split
  all_goals simp
theorem esc_meaning (x : Int) (h : (wmeaning x).2 = true) : (esc (wmeaning x).1).length ≤ 2 := (esc_len _).2
theorem qword_cost : ∀ (n : Nat) (bs acc w r : List Int), bs.length ≤ n → InR bs → qword bs acc = some (w, r) → ∃ w', w = acc ++ w' ∧ InR w' ∧ (escs w').length + 1 + r.length ≤ bs.length ∧ InR r := by
  intro n
  induction n with
  | zero => intro bs acc w r hn _ h; cases bs with
    | nil => simp [qword] at h
    | cons _ _ => simp at hn
  | succ n ih =>
    intro bs acc w r hn hR h
    cases bs with
    | nil => simp [qword] at h
    | cons c cs =>
      obtain ⟨hc, hcs⟩ := hR.cons
      have hn' : cs.length ≤ n := by simpa using hn
      rw [qword.eq_def] at h
      simp only at h
      by_cases h34 : c = 34
      · rw [if_pos h34] at h
        injection h with h
        injection h with h1 h2
        subst h1; subst h2
        exact ⟨[], by simp, InR.nil, by simp [escs]; omega, hcs⟩
      rw [if_neg h34] at h
      by_cases h10 : c = 10
      · rw [if_pos h10] at h; cases h
      rw [if_neg h10] at h
      by_cases h13 : c = 13
      · rw [if_pos h13] at h; cases h
      rw [if_neg h13] at h
      by_cases h92 : c = 92
      · rw [if_pos h92] at h
        cases cs with
        | nil => cases h
        | cons x cs' =>
          obtain ⟨hx, hcs'⟩ := hcs.cons
          simp only at h
          by_cases hm : (wmeaning x).2 = true
          · rw [if_pos hm] at h
            obtain ⟨w', h1, h2, h3, h4⟩ := ih cs' _ w r (by simp at hn'; omega) hcs' h
            refine ⟨(wmeaning x).1 :: w', by rw [h1]; simp, InR.mk (meaning_inR x) h2, ?_, h4⟩
            have := (esc_len (wmeaning x).1).2
            rw [escs_cons, List.length_append, List.length_cons, List.length_cons]
            omega
          · rw [if_neg hm] at h; cases h
      · rw [if_neg h92] at h
        obtain ⟨w', h1, h2, h3, h4⟩ := ih cs _ w r hn' hcs h
        refine ⟨c :: w', by rw [h1]; simp, InR.mk hc h2, ?_, h4⟩
        have he : esc c = [c] := by unfold esc; rw [if_neg (by omega), if_neg h10, if_neg h13]
        rw [escs_cons, he, List.length_append, List.length_cons, List.length_cons, List.length_nil]
        omega
theorem wordL_cost (w : List Int) : (wordL w).length ≤ (escs w).length + 2 := by
  unfold wordL
  have := escs_len w
  split
  · omega
  · simp
theorem wlineL_cons (w : List Int) (L : List (List Int)) (h : L ≠ []) : wlineL (w :: L) = wordL w ++ 32 :: wlineL L := by
  cases L with
  | nil => exact absurd rfl h
  | cons v l => rfl
/-- What is split right: the words, their bytes, and the line that is written of them. -/
theorem wsplit_right : ∀ (n : Nat) (bs : List Int) (acc out : List ByteArray), bs.length ≤ n → InR bs → wsplit bs 0 [] acc = (out, 0) →
    ∃ L : List (List Int), L ≠ [] ∧ out = acc ++ L.map strOfNums ∧ (∀ w ∈ L, InR w) ∧ (wlineL L).length ≤ bs.length ∧ out.length ≤ 64 := by
  intro n
  induction n with
  | zero => intro bs acc out hn _ h; cases bs with
    | nil => simp [wsplit] at h
    | cons _ _ => simp at hn
  | succ n ih =>
    intro bs acc out hn hR h
    -- behind a word
    have key : ∀ (w r : List Int), InR w → InR r → r.length < bs.length → (wordL w).length + r.length ≤ bs.length → after r (acc ++ [strOfNums w]) = (out, 0) →
        ∃ L : List (List Int), L ≠ [] ∧ out = acc ++ L.map strOfNums ∧ (∀ w ∈ L, InR w) ∧ (wlineL L).length ≤ bs.length ∧ out.length ≤ 64 := by
      intro w r hw hr hlt hlen ha
      unfold after at ha
      cases r with
      | nil =>
        simp only [fin] at ha
        by_cases h64 : 64 < (acc ++ [strOfNums w]).length
        · rw [if_pos h64] at ha; injection ha with _ h2; cases h2
        · rw [if_neg h64] at ha
          injection ha with h1 _
          rw [h1] at h64
          refine ⟨[w], by simp, by rw [← h1]; simp, fun v hv => ?_, by simpa [wlineL] using hlen, by omega⟩
          rw [List.mem_singleton] at hv
          rw [hv]; exact hw
      | cons c cs =>
        simp only at ha
        split at ha
        · obtain ⟨L, h1, h2, h3, h4, h5⟩ := ih cs _ out (by simp at hlt hn; omega) hr.cons.2 ha
          refine ⟨w :: L, by simp, by rw [h2]; simp, fun v hv => ?_, ?_, h5⟩
          · rcases List.mem_cons.1 hv with rfl | hv
            · exact hw
            · exact h3 v hv
          · rw [wlineL_cons w L h1, List.length_append, List.length_cons]
            simp at hlen
            omega
        · injection ha with _ h2; cases h2
    rw [wsplit_begin] at h
    cases bs with
    | nil => simp at h
    | cons c cs =>
      simp only at h
      obtain ⟨hc, hcs⟩ := hR.cons
      by_cases h34 : c = 34
      · rw [if_pos h34] at h
        cases hq : qword cs [] with
        | none => rw [hq] at h; simp at h
        | some wr =>
          obtain ⟨w, r⟩ := wr
          rw [hq] at h
          simp only at h
          obtain ⟨w', h1, h2, h3, h4⟩ := qword_cost _ _ _ _ _ (Nat.le_refl _) hcs hq
          rw [List.nil_append] at h1
          subst h1
          have := wordL_cost w
          exact key w r h2 h4 (by simp; omega) (by simp; omega) h
      · rw [if_neg h34] at h
        split at h
        · rename_i hs
          obtain ⟨t1, t2⟩ := takeWhile_take wsimple (c :: cs)
          have hw : InR ((c :: cs).takeWhile wsimple) := fun x hx => hR x ((List.takeWhile_prefix wsimple).subset hx)
          have hr : InR ((c :: cs).dropWhile wsimple) := fun x hx => hR x ((List.dropWhile_suffix wsimple).subset hx)
          have hl : ((c :: cs).takeWhile wsimple).length + ((c :: cs).dropWhile wsimple).length = (c :: cs).length := by
            rw [← List.length_append, List.takeWhile_append_dropWhile]
          have hpos : 0 < ((c :: cs).takeWhile wsimple).length := by simp [hs]
          have hb : wordL ((c :: cs).takeWhile wsimple) = (c :: cs).takeWhile wsimple := by
            unfold wordL
            rw [if_pos]
            unfold bareL
            rw [Bool.and_eq_true]
            refine ⟨List.all_takeWhile, ?_⟩
            cases hh : (c :: cs).takeWhile wsimple with
            | nil => rw [hh] at hpos; simp at hpos
            | cons _ _ => rfl
          exact key _ _ hw hr (by omega) (by rw [hb]; omega) h
        · injection h with _ h2; cases h2
theorem Bts_map (L : List (List Int)) (h : ∀ w ∈ L, InR w) : Bts (L.map strOfNums) = L := by
  unfold Bts
  rw [List.map_map]
  conv => rhs; rw [← List.map_id L]
  apply List.map_congr_left
  intro w hw
  exact bytesOf_strOf w (h w hw)
theorem wordL_inR {w : List Int} (h : InR w) : InR (wordL w) := by
  have he : ∀ l : List Int, InR l → InR (escs l) := by
    intro l
    induction l with
    | nil => intro _; exact InR.nil
    | cons c l ih =>
      intro hl
      rw [escs_cons]
      refine InR.append ?_ (ih hl.cons.2)
      have hc := hl.cons.1
      unfold esc
      split
      · exact InR.mk (by omega) (InR.mk hc InR.nil)
      split
      · exact InR.mk (by omega) (InR.mk (by omega) InR.nil)
      split
      · exact InR.mk (by omega) (InR.mk (by omega) InR.nil)
      · exact InR.mk hc InR.nil
  unfold wordL
  split
  · exact h
  · exact InR.mk (by omega) (InR.append (he w h) (InR.mk (by omega) InR.nil))
theorem wlineL_inR : ∀ (L : List (List Int)), (∀ w ∈ L, InR w) → InR (wlineL L)
  | [], _ => InR.nil
  | [w], h => wordL_inR (h w List.mem_cons_self)
  | w :: v :: l, h => InR.append (wordL_inR (h w List.mem_cons_self)) (InR.mk (by omega) (wlineL_inR (v :: l) (fun x hx => h x (List.mem_cons_of_mem _ hx))))
theorem jline_inR (l : List ByteArray) : InR (jline l) := wlineL_inR _ (fun w hw => by
  obtain ⟨s, _, rfl⟩ := List.mem_map.1 hw
  exact bytesOf_range s)
theorem strOf_size (l : List Int) : (strOfNums l).size = l.length := by
  have : (strOfNums l).data.size = l.length := by simp [strOfNums]
  exact this
theorem map_strOf_Bts (l : List ByteArray) : (Bts l).map strOfNums = l := by
  unfold Bts
  rw [List.map_map]
  conv => rhs; rw [← List.map_id l]
  apply List.map_congr_left
  intro w _
  exact strOf_bytesOf w
theorem wlineL_pos : ∀ (L : List (List Int)), L ≠ [] → 0 < (wlineL L).length
  | [], h => absurd rfl h
  | [w], _ => by
    unfold wlineL wordL bareL
    cases w with
    | nil => simp
    | cons c l => split <;> simp
  | w :: v :: l, _ => by rw [wlineL]; simp only [List.length_append, List.length_cons]; omega
/-- Words come back from their line. -/
theorem split_join (l : List ByteArray) (h64 : l.length ≤ 64) (hlen : (jline l).length ≤ 4096) : splitP (strOfNums (jline l)) = (l, 0) := by
  unfold splitP
  rw [strOf_size, if_neg (by omega)]
  cases l with
  | nil => rfl
  | cons w r =>
    have hne : Bts (w :: r) ≠ [] := by simp [Bts]
    rw [if_neg (by have := wlineL_pos _ hne; unfold jline; omega), bytesOf_strOf _ (jline_inR _)]
    unfold jline
    rw [wsplit_wline _ _ hne, List.nil_append, map_strOf_Bts]
    unfold fin
    rw [if_neg (by omega)]
/-- A line that was split right is joined from the same words, and is not longer. -/
theorem join_split (s : ByteArray) (l : List ByteArray) (h : splitP s = (l, 0)) : l.length ≤ 64 ∧ (jline l).length ≤ s.size ∧ s.size ≤ 4096 := by
  unfold splitP at h
  split at h
  · injection h with _ h2; cases h2
  split at h
  · injection h with h1 _
    subst h1
    exact ⟨by simp, by simp [jline, Bts, wlineL], by omega⟩
  · obtain ⟨L, h1, h2, h3, h4, h5⟩ := wsplit_right _ _ _ _ (Nat.le_refl _) (bytesOf_range s) h
    rw [List.nil_append] at h2
    subst h2
    refine ⟨h5, ?_, by omega⟩
    unfold jline
    rw [Bts_map L h3]
    rw [bytesOf_length] at h4
    exact h4
theorem split_err (s : ByteArray) (h : (splitP s).2 ≠ 0) : (splitP s).1 = [] := by
  have hw : ∀ (bs : List Int) (st : Int) (word : List Int) (ws : List ByteArray), (wsplit bs st word ws).2 ≠ 0 → (wsplit bs st word ws).1 = [] := by
    intro bs
    induction bs with
    | nil =>
      intro st word ws
      unfold wsplit
      split
      · split
        · simp
        · simp
      · simp
    | cons c cs ih =>
      intro st word ws
      unfold wsplit
      split
      · exact ih _ _ _
      · simp
  unfold splitP at h ⊢
  split
  · rfl
  split
  · rfl
  · rename_i h1 h2
    rw [if_neg h1, if_neg h2] at h
    exact hw _ _ _ _ h
def digit (c : Int) : Bool := decide (48 ≤ c) && decide (c ≤ 57)
/-- The program's running number: it stops growing past 1 << 53. -/
def numLoop : List Int → Int → Int
  | [], n => n
  | c :: cs, n => numLoop cs (if n ≤ 9007199254740992 then 10 * n + (c - 48) else n)
def numEnd (neg : Bool) (n : Int) : Int × Int := if 9007199254740992 < n then (0, 2) else if neg = true then (-n, 0) else (n, 0)
/-- The number of some digits, behind a sign. -/
def numD (neg : Bool) (l : List Int) : Int × Int := if l.all digit = true then numEnd neg (numLoop l 0) else (0, 5)
def numS (neg : Bool) (l : List Int) : Int × Int :=
  match l with
  | [] => (0, 5)
  | c :: cs => if c = 48 ∧ (cs ≠ [] ∨ neg = true) then (0, 5) else numD neg (c :: cs)
theorem numS_cons (neg : Bool) (c : Int) (cs : List Int) : numS neg (c :: cs) = if c = 48 ∧ (cs ≠ [] ∨ neg = true) then (0, 5) else numD neg (c :: cs) := rfl
/-- Number over bytes. -/
def numL (l : List Int) : Int × Int :=
  match l with
  | 45 :: cs => numS true cs
  | l => numS false l
def numP (s : ByteArray) : Int × Int := numL (bytesOf s)
theorem numLoop_range : ∀ (l : List Int) (n : Int), l.all digit = true → 0 ≤ n → n ≤ 90071992547409929 → 0 ≤ numLoop l n ∧ numLoop l n ≤ 90071992547409929
  | [], n, _, h0, h1 => ⟨h0, h1⟩
  | c :: cs, n, h, h0, h1 => by
    rw [List.all_cons, Bool.and_eq_true] at h
    have hd : 48 ≤ c ∧ c ≤ 57 := by simpa [digit] using h.1
    unfold numLoop
    refine numLoop_range cs _ ?_ ?_ ?_
    · have h2 := h.2; exact h2
    · split <;> omega
    · split <;> omega
theorem digits_digit : ∀ u : Nat, ∀ b ∈ Lib.decDigits u, 48 ≤ (b.toNat : Int) ∧ (b.toNat : Int) ≤ 57 := by
  intro u
  induction u using Nat.strongRecOn with
  | _ u ih =>
    intro b hb
    rw [Lib.decDigits] at hb
    split at hb
    · rw [List.mem_singleton] at hb
      subst hb
      rw [UInt8.toNat_ofNat']
      omega
    · rcases List.mem_append.1 hb with hb | hb
      · exact ih (u / 10) (by omega) b hb
      · rw [List.mem_singleton] at hb
        subst hb
        rw [UInt8.toNat_ofNat']
        omega
/-- A string's bytes as numbers. -/
def numsOf (l : List UInt8) : List Int := l.map fun b => (b.toNat : Int)
theorem numsOf_append (a b : List UInt8) : numsOf (a ++ b) = numsOf a ++ numsOf b := by simp [numsOf]
theorem numLoop_append : ∀ (a b : List Int) (n : Int), numLoop (a ++ b) n = numLoop b (numLoop a n)
  | [], _, _ => rfl
  | c :: a, b, n => by rw [List.cons_append, numLoop, numLoop, numLoop_append a b]
theorem loop_digits : ∀ u : Nat, u ≤ 9007199254740992 → numLoop (numsOf (Lib.decDigits u)) 0 = u := by
  intro u
  induction u using Nat.strongRecOn with
  | _ u ih =>
    intro hu
    rw [Lib.decDigits]
    split
    · simp only [numsOf, List.map_cons, List.map_nil, numLoop, UInt8.toNat_ofNat']
      rw [if_pos (by omega)]
      omega
    · rw [numsOf_append, numLoop_append, ih (u / 10) (by omega) (by omega)]
      simp only [numsOf, List.map_cons, List.map_nil, numLoop, UInt8.toNat_ofNat']
      rw [if_pos (by omega)]
      omega
theorem digits_all (u : Nat) : (numsOf (Lib.decDigits u)).all digit = true := by
  refine List.all_eq_true.2 (fun x hx => ?_)
  obtain ⟨b, hb, rfl⟩ := List.mem_map.1 hx
  have := digits_digit u b hb
  simp [digit, this]
theorem digits_head : ∀ u : Nat, 0 < u → ∃ c cs, numsOf (Lib.decDigits u) = c :: cs ∧ c ≠ 48 := by
  intro u
  induction u using Nat.strongRecOn with
  | _ u ih =>
    intro hu
    rw [Lib.decDigits]
    split
    · refine ⟨((UInt8.ofNat (48 + u)).toNat : Int), [], rfl, ?_⟩
      rw [UInt8.toNat_ofNat']
      omega
    · obtain ⟨c, cs, h1, h2⟩ := ih (u / 10) (by omega) (by omega)
      exact ⟨c, cs ++ numsOf [UInt8.ofNat (48 + u % 10)], by rw [numsOf_append, h1]; rfl, h2⟩
theorem numS_digits (neg : Bool) (u : Nat) (hu : u ≤ 9007199254740992) (h : 0 < u ∨ neg = false) : numS neg (numsOf (Lib.decDigits u)) = (if neg = true then -(u : Int) else u, 0) := by
  have hd : numD neg (numsOf (Lib.decDigits u)) = (if neg = true then -(u : Int) else u, 0) := by
    unfold numD
    rw [if_pos (digits_all u), loop_digits u hu]
    unfold numEnd
    rw [if_neg (by omega)]
    split <;> rfl
  by_cases h0 : 0 < u
  · obtain ⟨c, cs, h1, h2⟩ := digits_head u h0
    rw [h1] at hd ⊢
    have hn : ¬ (c = 48 ∧ (cs ≠ [] ∨ neg = true)) := fun hh => h2 hh.1
    rw [numS_cons, if_neg hn]
    exact hd
  · have e : u = 0 := by omega
    subst e
    have hn : neg = false := by
      rcases h with h | h
      · omega
      · exact h
    subst hn
    rw [Lib.decDigits_one (by omega)] at hd ⊢
    simp only [numsOf, List.map_cons, List.map_nil] at hd ⊢
    rw [numS_cons, if_neg (by simp)]
    exact hd
/-- A number comes back from its string. -/
theorem num_itoa (n : Int) (h0 : -9007199254740992 ≤ n) (h1 : n ≤ 9007199254740992) : numP ⟨(Lib.itoa n).toArray⟩ = (n, 0) := by
  unfold numP
  rw [bytesOf_mk]
  unfold Lib.itoa
  split
  · have := numS_digits true n.natAbs (by omega) (.inl (by omega))
    simp only [if_true] at this
    show numL (45 :: numsOf (Lib.decDigits n.natAbs)) = _
    show numS true (numsOf (Lib.decDigits n.natAbs)) = _
    rw [this]
    congr 1
    omega
  · have := numS_digits false n.toNat (by omega) (.inr rfl)
    simp only [Bool.false_eq_true, if_false] at this
    show numL (numsOf (Lib.decDigits n.toNat)) = _
    have hne : ∀ cs, numsOf (Lib.decDigits n.toNat) ≠ 45 :: cs := by
      intro cs e
      have := digits_all n.toNat
      rw [e, List.all_cons] at this
      simp [digit] at this
    unfold numL
    split
    · rename_i cs h
      exact absurd h (hne cs)
    · rw [this]
      congr 1
      omega
/-- The reference's running number: capped at 1 << 54. -/
def capLoop : List Int → Int → Int
  | [], n => n
  | c :: cs, n => capLoop cs (mn (n * 10 + (c - 48)) 18014398509481984)
theorem cap_num : ∀ (l : List Int) (a b : Int), l.all digit = true → (a = b ∧ 0 ≤ a ∧ a ≤ 9007199254740992) ∨ (9007199254740992 < a ∧ 9007199254740992 < b) → (capLoop l a = numLoop l b ∧ 0 ≤ numLoop l b ∧ numLoop l b ≤ 9007199254740992) ∨ (9007199254740992 < capLoop l a ∧ 9007199254740992 < numLoop l b)
  | [], a, b, _, h => by
    rcases h with ⟨rfl, h1, h2⟩ | h
    · exact .inl ⟨rfl, h1, h2⟩
    · exact .inr h
  | c :: cs, a, b, hl, h => by
    rw [List.all_cons, Bool.and_eq_true] at hl
    have hd : 48 ≤ c ∧ c ≤ 57 := by simpa [digit] using hl.1
    unfold capLoop numLoop
    refine cap_num cs _ _ hl.2 ?_
    rcases h with ⟨rfl, h1, h2⟩ | ⟨h1, h2⟩
    · rw [if_pos h2]
      by_cases hb : a * 10 + (c - 48) ≤ 9007199254740992
      · left
        refine ⟨?_, ?_, ?_⟩ <;> (unfold mn; omega)
      · right
        refine ⟨?_, ?_⟩
        · unfold mn; omega
        · omega
    · right
      rw [if_neg (by omega)]
      refine ⟨?_, h2⟩
      unfold mn; omega
theorem numEnd_cap (neg : Bool) (l : List Int) (h : l.all digit = true) : numEnd neg (capLoop l 0) = numEnd neg (numLoop l 0) := by
  rcases cap_num l 0 0 h (.inl ⟨rfl, by omega, by omega⟩) with ⟨h1, _, _⟩ | ⟨h1, h2⟩
  · rw [h1]
  · unfold numEnd
    rw [if_pos h1, if_pos h2]
theorem digits_len (u : Nat) (h : u ≤ 9223372036854775808) : (Lib.decDigits u).length ≤ 21 := by
  by_cases h1 : u ≤ 9223372036854775807
  · have := Lib.itoa_length_le (u : Int) (by omega) (by omega)
    rw [Lib.itoa_nonneg] at this
    exact this
  · have := Lib.itoa_length_le (-(u : Int)) (by omega) (by omega)
    rw [Lib.itoa_neg u (by omega)] at this
    simp only [List.length_cons] at this
    omega
/-- May byte c stand at place i of a name? -/
def NameOk (i : Nat) (c : Int) : Prop := (97 ≤ c ∧ c ≤ 122) ∨ (65 ≤ c ∧ c ≤ 90) ∨ (i ≠ 0 ∧ ((48 ≤ c ∧ c ≤ 57) ∨ c = 45 ∨ c = 46 ∨ c = 95))
instance (i : Nat) (c : Int) : Decidable (NameOk i c) := by unfold NameOk; exact inferInstance
def namesFrom : List Int → Nat → Bool
  | [], _ => true
  | c :: cs, i => decide (NameOk i c) && namesFrom cs (i + 1)
theorem namesFrom_cons (c : Int) (cs : List Int) (i : Nat) : namesFrom (c :: cs) i = (decide (NameOk i c) && namesFrom cs (i + 1)) := rfl
def nameL (l : List Int) : Bool := namesFrom l 0 && !l.isEmpty && decide (l.length ≤ 64)
def nameP (s : ByteArray) : Bool := nameL (bytesOf s)
theorem or32 (c : Int) (h : 0 ≤ c ∧ c < 256) : pureBits .or .u8 c 32 = if c / 32 % 2 = 0 then c + 32 else c := by
  have key : ∀ n : Fin 256, pureBits .or .u8 (n.val : Int) 32 = if (n.val : Int) / 32 % 2 = 0 then (n.val : Int) + 32 else (n.val : Int) := by decide +kernel
  have := key ⟨c.toNat, by omega⟩
  simp only at this
  rw [Int.toNat_of_nonneg h.1] at this
  exact this
theorem names_end (s : ByteArray) (i : Nat) : (if s.toList = ([] : List UInt8) then some false else some (decide ((s.size : Int) ≤ 64))) = some (!(bytesOf s).isEmpty && decide ((bytesOf s).length ≤ 64)) := by
  rw [bytesOf_length]
  by_cases h : s.size = 0
  · rw [if_pos (toList_nil.2 h)]
    have : bytesOf s = [] := List.eq_nil_of_length_eq_zero (by rw [bytesOf_length]; exact h)
    rw [this]; rfl
  · rw [if_neg (fun e => h (toList_nil.1 e))]
    cases hb : bytesOf s with
    | nil => exact absurd (by rw [← bytesOf_length, hb]; rfl) h
    | cons _ _ =>
      congr 1
      simp only [List.isEmpty_cons, Bool.not_false, Bool.true_and]
      by_cases h64 : s.size ≤ 64
      · rw [decide_eq_true h64, decide_eq_true (by omega)]
      · rw [decide_eq_false h64, decide_eq_false (by omega)]
theorem strOf_append (a b : List Int) : strOfNums a ++ strOfNums b = strOfNums (a ++ b) := by
  apply ba_ext
  simp [strOfNums, ByteArray.data_append]
theorem app_space (a : List Int) : strOfNums a ++ (⟨#[32]⟩ : ByteArray) = strOfNums (a ++ [32]) := by
  rw [← strOf_append]; rfl
theorem wlineL_append : ∀ (a b : List (List Int)), a ≠ [] → b ≠ [] → wlineL (a ++ b) = wlineL a ++ 32 :: wlineL b
  | [], _, h, _ => absurd rfl h
  | [w], b, _, hb => by rw [List.cons_append, List.nil_append, wlineL_cons w b hb]; rfl
  | w :: v :: l, b, _, hb => by
    have ih := wlineL_append (v :: l) b (by simp) hb
    rw [List.cons_append, wlineL_cons w _ (by simp), ih, wlineL]
    simp
theorem split_big (s : ByteArray) (h : 4096 < s.size) : splitP s = ([], 3) := by
  unfold splitP
  rw [if_pos h]
theorem split_many (l : List ByteArray) (h64 : 64 < l.length) (hlen : (jline l).length ≤ 4096) : splitP (strOfNums (jline l)) = ([], 3) := by
  unfold splitP
  rw [strOf_size, if_neg (by omega)]
  cases l with
  | nil => simp at h64
  | cons w r =>
    have hne : Bts (w :: r) ≠ [] := by simp [Bts]
    rw [if_neg (by have := wlineL_pos _ hne; unfold jline; omega), bytesOf_strOf _ (jline_inR _)]
    unfold jline
    rw [wsplit_wline _ _ hne, List.nil_append, map_strOf_Bts]
    unfold fin
    rw [if_pos h64]
end Go.V
