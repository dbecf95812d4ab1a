/- The reference's Split as the program's; equal lists of words. Conditions: as each states. -/
import Derived.Test.YtlbmnajmjaalfaaUW
namespace Go.Proofs.Ytlbmnajmjaalfaa.U
set_option linter.unusedSimpArgs false
set_option linter.unusedVariables false
open Go.RowKit Go.Proofs.Ytlbmnajmjaalfaa.P Go.Proofs.YtlbmnajmjaalfaaW.PrintWords Go.Proofs.YtlbmnajmjaalfaaW.PrintLast Go.Proofs.YtlbmnajmjaalfaaW.PrintMore Go.Proofs.YtlbmnajmjaalfaaW.Mine

theorem word_l0 (s : ByteArray) (hs : s.size ≤ 4611686018427387904) : ∀ (d a i : Nat), i + d = s.size → a ≤ i →
    Ev (fun k => soundserviceref02_word.l0 k s a i) (s.extract a (i + (((bytesOf s).drop i).takeWhile wsimple).length), ((i + (((bytesOf s).drop i).takeWhile wsimple).length : Nat) : Int), decide (a < i + (((bytesOf s).drop i).takeWhile wsimple).length)) := by
  intro d
  have done : ∀ (a i : Nat), a ≤ i → i ≤ s.size → (if (0 : Int) ≤ (a : Int) then (if (a : Int) ≤ (i : Int) then (if (i : Int) ≤ (s.size : Int) then (some (s.extract (a : Int).toNat (i : Int).toNat, (i : Int), decide ((i : Int) > (a : Int)))) else (none)) else (none)) else (none)) = some (s.extract a i, (i : Int), decide (a < i)) := by
    intro a i h1 h2
    rw [if_pos (by omega), if_pos (by omega), if_pos (by omega)]
    simp
  induction d with
  | zero =>
    intro a i hi ha
    have e : i = s.size := by omega
    rw [drop_end s i (by omega)]
    refine Ev.mk 1 (fun k hk => ?_)
    obtain ⟨k, rfl⟩ : ∃ m, k = m + 1 := ⟨k - 1, by omega⟩
    simp only [soundserviceref02_word.l0]
    rw [if_neg (by omega)]
    rw [done a i ha (by omega)]
    simp only [List.takeWhile_nil, List.length_nil, Nat.add_zero]
    first | rfl | congr 3
  | succ d ih =>
    intro a i hi ha
    rw [drop_cons s i (by omega)]
    have hp := plain_eq (bt s (i : Int))
    cases hc : wsimple (bt s (i : Int)) with
    | true =>
      obtain ⟨K, hK⟩ := ih a (i + 1) (by omega) (by omega)
      dsimp only at hK
      refine Ev.mk (K + 1) (fun k hk => ?_)
      obtain ⟨k, rfl⟩ : ∃ m, k = m + 1 := ⟨k - 1, by omega⟩
      simp only [soundserviceref02_word.l0]
      rw [if_pos (by omega), if_pos (by omega), hp, hc]
      simp only [Option.bind_some, if_true]
      rw [wrap_succ i (by omega), hK k (by omega)]
      simp [hc, Nat.add_assoc, Nat.add_comm 1]
    | false =>
      refine Ev.mk 1 (fun k hk => ?_)
      obtain ⟨k, rfl⟩ : ∃ m, k = m + 1 := ⟨k - 1, by omega⟩
      simp only [soundserviceref02_word.l0]
      rw [if_pos (by omega), if_pos (by omega), hp, hc]
      simp only [Option.bind_some, Bool.false_eq_true, if_false]
      rw [done a i ha (by omega)]
      simp only [List.takeWhile_cons, hc, Bool.false_eq_true, if_false, List.length_nil, Nat.add_zero]

def qres (s : ByteArray) : Option (List Int × List Int) → ByteArray × Int × Bool
  | none => (⟨#[]⟩, 0, false)
  | some (w, r) => (strOfNums w, ((s.size - r.length : Nat) : Int), true)

theorem word_l1 (s : ByteArray) (hs : s.size ≤ 4611686018427387904) : ∀ (d i : Nat) (acc : List Int), s.size - i ≤ d → i ≤ s.size → acc.length + (s.size - i) < 140737488355328 →
    Ev (fun k => soundserviceref02_word.l1 k s acc i) (qres s (qword ((bytesOf s).drop i) acc)) := by
  intro d
  induction d with
  | zero =>
    intro i acc hd hi hl
    rw [drop_end s i (by omega)]
    refine Ev.mk 1 (fun k hk => ?_)
    obtain ⟨k, rfl⟩ : ∃ m, k = m + 1 := ⟨k - 1, by omega⟩
    simp only [soundserviceref02_word.l1]
    rw [if_neg (by omega)]
    simp [qword, qres]
  | succ d ih =>
    intro i acc hd hi hl
    by_cases hlt : i < s.size
    · rw [drop_cons s i hlt]
      have hrl : ((bytesOf s).drop (i + 1)).length = s.size - (i + 1) := by rw [List.length_drop, bytesOf_length]
      by_cases h34 : bt s (i : Int) = 34
      · refine Ev.mk 1 (fun k hk => ?_)
        obtain ⟨k, rfl⟩ : ∃ m, k = m + 1 := ⟨k - 1, by omega⟩
        simp only [soundserviceref02_word.l1]
        rw [if_pos (by omega), if_pos (by omega), if_pos h34, qword.eq_def, wrap_succ i (by omega)]
        simp only [h34, if_true, qres, hrl]
        congr 3
        omega
      by_cases h10 : bt s (i : Int) = 10
      · refine Ev.mk 2 (fun k hk => ?_)
        obtain ⟨k, rfl⟩ : ∃ m, k = m + 2 := ⟨k - 2, by omega⟩
        simp only [soundserviceref02_word.l1]
        rw [if_pos (by omega), if_pos (by omega), if_neg h34, if_pos h10, qword.eq_def]
        simp [h10, qres, soundserviceref02_word.j3]
      by_cases h13 : bt s (i : Int) = 13
      · refine Ev.mk 2 (fun k hk => ?_)
        obtain ⟨k, rfl⟩ : ∃ m, k = m + 2 := ⟨k - 2, by omega⟩
        simp only [soundserviceref02_word.l1]
        rw [if_pos (by omega), if_pos (by omega), if_neg h34, if_neg h10, qword.eq_def]
        simp [h13, qres, soundserviceref02_word.j3]
      have h13' : (bt s (i : Int) == 13) = false := beq_eq_false_iff_ne.mpr h13
      by_cases h92 : bt s (i : Int) = 92
      · by_cases hend : i + 1 = s.size
        · refine Ev.mk 2 (fun k hk => ?_)
          obtain ⟨k, rfl⟩ : ∃ m, k = m + 2 := ⟨k - 2, by omega⟩
          simp only [soundserviceref02_word.l1]
          rw [if_pos (by omega), if_pos (by omega), if_neg h34, if_neg h10, h13', qword.eq_def, drop_end s (i + 1) (by omega)]
          simp only [soundserviceref02_word.j3]
          rw [if_neg (by decide), if_pos h92, wrap_succ i (by omega), if_pos (by omega)]
          simp [h92, qres]
        · obtain ⟨K, hK⟩ := ih (i + 2) (acc ++ [(wmeaning (bt s ((i + 1 : Nat) : Int))).1]) (by omega) (by omega) (by simp; omega)
          refine Ev.mk (K + 3) (fun k hk => ?_)
          obtain ⟨k, rfl⟩ : ∃ m, k = m + 3 := ⟨k - 3, by omega⟩
          simp only [soundserviceref02_word.l1]
          rw [if_pos (by omega), if_pos (by omega), if_neg h34, if_neg h10, h13', qword.eq_def, drop_cons s (i + 1) (by omega)]
          simp only [soundserviceref02_word.j3]
          rw [if_neg (by decide), if_pos h92, wrap_succ i (by omega), if_neg (by omega), if_pos (by omega), if_pos (by omega), pair_eq]
          simp only [Option.bind_some, h92, show ¬ ((92 : Int) = 34) by decide, show ¬ ((92 : Int) = 10) by decide, show ¬ ((92 : Int) = 13) by decide, if_false, if_true]
          by_cases hm : (wmeaning (bt s ((i + 1 : Nat) : Int))).2 = true
          · rw [if_pos hm, if_pos hm, if_pos (by omega), wrap_succ (i + 1) (by omega)]
            exact hK (k + 1) (by omega)
          · rw [if_neg hm, if_neg hm]
            rfl
      · obtain ⟨K, hK⟩ := ih (i + 1) (acc ++ [bt s (i : Int)]) (by omega) (by omega) (by simp; omega)
        refine Ev.mk (K + 3) (fun k hk => ?_)
        obtain ⟨k, rfl⟩ : ∃ m, k = m + 3 := ⟨k - 3, by omega⟩
        simp only [soundserviceref02_word.l1]
        rw [if_pos (by omega), if_pos (by omega), if_neg h34, if_neg h10, h13', qword.eq_def]
        simp only [soundserviceref02_word.j3]
        rw [if_neg (by decide), if_neg h92, if_pos (by omega), wrap_succ i (by omega)]
        simp only [h34, h10, h13, h92, if_false]
        exact hK (k + 1) (by omega)
    · rw [drop_end s i (by omega)]
      refine Ev.mk 1 (fun k hk => ?_)
      obtain ⟨k, rfl⟩ : ∃ m, k = m + 1 := ⟨k - 1, by omega⟩
      simp only [soundserviceref02_word.l1]
      rw [if_neg (by omega)]
      simp [qword, qres]

/-- The reference's word at an offset. -/
def wres (s : ByteArray) (i : Nat) : ByteArray × Int × Bool :=
  match (bytesOf s).drop i with
  | [] => (s.extract i i, (i : Int), false)
  | c :: cs => if c = 34 then qres s (qword cs []) else (s.extract i (i + ((c :: cs).takeWhile wsimple).length), ((i + ((c :: cs).takeWhile wsimple).length : Nat) : Int), wsimple c)
theorem word_f (s : ByteArray) (hs : s.size ≤ 4294967296) (i : Nat) (hi : i ≤ s.size) : Ev (fun k => soundserviceref02_word.f k s i) (wres s i) := by
  unfold wres
  by_cases hlt : i < s.size
  · rw [drop_cons s i hlt]
    simp only
    by_cases h34 : bt s (i : Int) = 34
    · rw [if_pos h34]
      obtain ⟨K, hK⟩ := word_l1 s (by omega) (s.size) (i + 1) [] (by omega) (by omega) (by simp; omega)
      dsimp only at hK
      refine Ev.mk (K + 1) (fun k hk => ?_)
      obtain ⟨k, rfl⟩ : ∃ m, k = m + 1 := ⟨k - 1, by omega⟩
      unfold soundserviceref02_word.f
      rw [if_neg (by omega), if_pos (by omega), if_pos (by omega)]
      simp only [soundserviceref02_word.j0, h34, bne_self_eq_false, Bool.false_eq_true, if_false]
      rw [wrap_succ i (by omega)]
      exact hK k (by omega)
    · rw [if_neg h34]
      obtain ⟨K, hK⟩ := word_l0 s (by omega) (s.size - i) i i (by omega) (Nat.le_refl _)
      dsimp only at hK
      rw [drop_cons s i hlt] at hK
      refine Ev.mk (K + 1) (fun k hk => ?_)
      obtain ⟨k, rfl⟩ : ∃ m, k = m + 1 := ⟨k - 1, by omega⟩
      unfold soundserviceref02_word.f
      rw [if_neg (by omega), if_pos (by omega), if_pos (by omega)]
      have hb : (bt s (i : Int) != 34) = true := bne_iff_ne.mpr h34
      simp only [soundserviceref02_word.j0, hb, if_true]
      rw [hK k (by omega)]
      cases hc : wsimple (bt s (i : Int)) <;> simp [hc]
  · have e : i = s.size := by omega
    rw [drop_end s i (by omega)]
    simp only
    obtain ⟨K, hK⟩ := word_l0 s (by omega) 0 i i (by omega) (Nat.le_refl _)
    dsimp only at hK
    rw [drop_end s i (by omega)] at hK
    refine Ev.mk (K + 1) (fun k hk => ?_)
    obtain ⟨k, rfl⟩ : ∃ m, k = m + 1 := ⟨k - 1, by omega⟩
    unfold soundserviceref02_word.f
    rw [if_pos (by omega)]
    simp only [soundserviceref02_word.j0, if_true]
    rw [hK k (by omega)]
    simp

theorem extract_word (s : ByteArray) (i n : Nat) : strOfNums (((bytesOf s).drop i).take n) = s.extract i (i + n) := by
  apply bytesOf_inj
  rw [bytesOf_strOf _ (fun x hx => bytesOf_range s x (List.mem_of_mem_drop (List.mem_of_mem_take hx))), bytesOf_extract, List.drop_take]
  congr 1
  omega
theorem takeWhile_take {α : Type} (p : α → Bool) : ∀ l : List α, l.take (l.takeWhile p).length = l.takeWhile p ∧ l.drop (l.takeWhile p).length = l.dropWhile p
  | [] => by simp
  | x :: l => by
    obtain ⟨h1, h2⟩ := takeWhile_take p l
    cases h : p x <;> simp [h, h1, h2]
/-- What follows a word in the reference's loop. -/
theorem split_l0 (s : ByteArray) (hs : s.size ≤ 4294967296) : ∀ (d i : Nat) (acc : List ByteArray), s.size - i ≤ d → i ≤ s.size → acc.length + (s.size - i) < 8796093022207 →
    Ev (fun k => soundserviceref02_Split.l0 k s acc i) (wsplit ((bytesOf s).drop i) 0 [] acc) := by
  intro d
  induction d with
  | zero =>
    intro i acc hd hi hl
    obtain ⟨K, hK⟩ := word_f s hs i hi
    dsimp only at hK
    refine Ev.mk (K + 1) (fun k hk => ?_)
    obtain ⟨k, rfl⟩ : ∃ m, k = m + 1 := ⟨k - 1, by omega⟩
    simp only [soundserviceref02_Split.l0]
    rw [hK k (by omega), drop_end s i (by omega)]
    unfold wres
    rw [drop_end s i (by omega)]
    simp [wsplit]
  | succ d ih =>
    intro i acc hd hi hl
    obtain ⟨K, hK⟩ := word_f s hs i hi
    dsimp only at hK
    -- behind a word that ends at j
    have key : ∀ (w : ByteArray) (j : Nat), i < j → j ≤ s.size → ∃ K', ∀ k, K' ≤ k →
        (if acc.length < 8796093022208 then ((some (acc ++ [w] : List ByteArray)).bind fun y => (if (j : Int) = (s.size : Int) then (if (y.length : Int) > 64 then (some (([] : List ByteArray), (3 : Int))) else (some (y, 0))) else (if 0 ≤ (j : Int) then (if (j : Int) < (s.size : Int) then (if (bt s (j : Int)) = 32 then (soundserviceref02_Split.l0 k s y (wrap64 ((j : Int) + 1))) else (some (([] : List ByteArray), 5))) else (none)) else (none)))) else none) = some (after ((bytesOf s).drop j) (acc ++ [w])) := by
      intro w j hij hj
      by_cases hend : j = s.size
      · refine ⟨0, fun k _ => ?_⟩
        rw [if_pos (by omega), drop_end s j (by omega)]
        simp only [Option.bind_some, after, fin]
        rw [if_pos (by omega)]
        by_cases h64 : 64 < (acc ++ [w]).length
        · rw [if_pos h64, if_pos (by omega)]
        · rw [if_neg h64, if_neg (by omega)]
      · by_cases h32 : bt s (j : Int) = 32
        · obtain ⟨K', hK'⟩ := ih (j + 1) (acc ++ [w]) (by omega) (by omega) (by simp; omega)
          dsimp only at hK'
          refine ⟨K', fun k hk => ?_⟩
          rw [if_pos (by omega), drop_cons s j (by omega)]
          simp only [Option.bind_some, after]
          rw [if_neg (by omega), if_pos (by omega), if_pos (by omega), if_pos h32, if_pos h32, wrap_succ j (by omega)]
          exact hK' k hk
        · refine ⟨0, fun k _ => ?_⟩
          rw [if_pos (by omega), drop_cons s j (by omega)]
          simp only [Option.bind_some, after]
          rw [if_neg (by omega), if_pos (by omega), if_pos (by omega), if_neg h32, if_neg h32]
    by_cases hlt : i < s.size
    · have hrl : ((bytesOf s).drop (i + 1)).length = s.size - (i + 1) := by rw [List.length_drop, bytesOf_length]
      rw [wsplit_begin, drop_cons s i hlt]
      simp only
      have hw : wres s i = (if bt s (i : Int) = 34 then qres s (qword ((bytesOf s).drop (i + 1)) []) else (s.extract i (i + ((bt s (i : Int) :: (bytesOf s).drop (i + 1)).takeWhile wsimple).length), ((i + ((bt s (i : Int) :: (bytesOf s).drop (i + 1)).takeWhile wsimple).length : Nat) : Int), wsimple (bt s (i : Int)))) := by
        unfold wres
        rw [drop_cons s i hlt]
      rw [hw] at hK
      by_cases h34 : bt s (i : Int) = 34
      · rw [if_pos h34] at hK ⊢
        cases hq : qword ((bytesOf s).drop (i + 1)) [] with
        | none =>
          rw [hq] at hK
          refine Ev.mk (K + 1) (fun k hk => ?_)
          obtain ⟨k, rfl⟩ : ∃ m, k = m + 1 := ⟨k - 1, by omega⟩
          simp only [soundserviceref02_Split.l0]
          rw [hK k (by omega)]
          simp [qres]
        | some wr =>
          obtain ⟨w, r⟩ := wr
          rw [hq] at hK
          simp only [qres] at hK
          obtain ⟨h1, h2⟩ := qword_len _ _ _ _ _ (Nat.le_refl _) hq
          rw [hrl] at h1 h2
          rw [List.drop_drop] at h2
          have hj : i + 1 + (s.size - (i + 1) - r.length) = s.size - r.length := by omega
          rw [hj] at h2
          obtain ⟨K', hK'⟩ := key (strOfNums w) (s.size - r.length) (by omega) (by omega)
          rw [← h2] at hK'
          refine Ev.mk (K + K' + 1) (fun k hk => ?_)
          obtain ⟨k, rfl⟩ : ∃ m, k = m + 1 := ⟨k - 1, by omega⟩
          simp only [soundserviceref02_Split.l0]
          rw [hK k (by omega)]
          simp only [Option.bind_some, if_true]
          exact hK' k (by omega)
      · rw [if_neg h34] at hK ⊢
        cases hc : wsimple (bt s (i : Int)) with
        | false =>
          rw [hc] at hK
          refine Ev.mk (K + 1) (fun k hk => ?_)
          obtain ⟨k, rfl⟩ : ∃ m, k = m + 1 := ⟨k - 1, by omega⟩
          simp only [soundserviceref02_Split.l0]
          rw [hK k (by omega)]
          simp
        | true =>
          rw [hc] at hK
          rw [← drop_cons s i hlt] at hK ⊢
          obtain ⟨t1, t2⟩ := takeWhile_take wsimple ((bytesOf s).drop i)
          have hpos : 0 < (((bytesOf s).drop i).takeWhile wsimple).length := by
            rw [drop_cons s i hlt]; simp [hc]
          have hle : (((bytesOf s).drop i).takeWhile wsimple).length ≤ s.size - i := by
            have h1 := congrArg List.length t1
            rw [List.length_take, List.length_drop, bytesOf_length] at h1
            omega
          obtain ⟨K', hK'⟩ := key (s.extract i (i + (((bytesOf s).drop i).takeWhile wsimple).length)) (i + (((bytesOf s).drop i).takeWhile wsimple).length) (by omega) (by omega)
          rw [← List.drop_drop, t2] at hK'
          have hext := extract_word s i (((bytesOf s).drop i).takeWhile wsimple).length
          rw [t1] at hext
          refine Ev.mk (K + K' + 1) (fun k hk => ?_)
          obtain ⟨k, rfl⟩ : ∃ m, k = m + 1 := ⟨k - 1, by omega⟩
          simp only [soundserviceref02_Split.l0]
          rw [hK k (by omega)]
          simp only [Option.bind_some, if_true]
          rw [hext]
          exact hK' k (by omega)
    · rw [drop_end s i (by omega)]
      refine Ev.mk (K + 1) (fun k hk => ?_)
      obtain ⟨k, rfl⟩ : ∃ m, k = m + 1 := ⟨k - 1, by omega⟩
      simp only [soundserviceref02_Split.l0]
      rw [hK k (by omega)]
      unfold wres
      rw [drop_end s i (by omega)]
      simp [wsplit]

/-- The reference's Split is the program's. -/
theorem ref_split (s : ByteArray) : Ev (fun k => soundserviceref02_Split.f k s) (words_Split.p s) := by
  unfold words_Split.p
  by_cases h1 : 4096 < s.size
  · rw [if_pos h1]
    refine Ev.mk 0 (fun k _ => ?_)
    unfold soundserviceref02_Split.f
    rw [if_pos (by omega)]
  by_cases h2 : s.size = 0
  · rw [if_neg h1, if_pos h2]
    refine Ev.mk 0 (fun k _ => ?_)
    unfold soundserviceref02_Split.f
    rw [if_neg (by omega), if_pos (toList_nil.2 h2)]
  · rw [if_neg h1, if_neg h2]
    obtain ⟨K, hK⟩ := split_l0 s (by omega) s.size 0 [] (by omega) (by omega) (by simp; omega)
    dsimp only at hK
    refine Ev.mk K (fun k hk => ?_)
    unfold soundserviceref02_Split.f
    rw [if_neg (by omega), if_neg (fun h => h2 (toList_nil.1 h))]
    simpa using hK k hk

/-- A list of words is equal to itself. -/
theorem same_l0 (l : List ByteArray) (hl : l.length ≤ 4611686018427387904) : ∀ (d i : Nat), i + d = l.length → Ev (fun k => soundserviceref02_Same.l0 k l l (l.length : Int) i) true := by
  intro d
  induction d with
  | zero =>
    intro i hi
    refine Ev.mk 1 (fun k hk => ?_)
    obtain ⟨k, rfl⟩ : ∃ m, k = m + 1 := ⟨k - 1, by omega⟩
    simp only [soundserviceref02_Same.l0]
    rw [if_neg (by omega)]
  | succ d ih =>
    intro i hi
    obtain ⟨K, hK⟩ := ih (i + 1) (by omega)
    dsimp only at hK
    refine Ev.mk (K + 1) (fun k hk => ?_)
    obtain ⟨k, rfl⟩ : ∃ m, k = m + 1 := ⟨k - 1, by omega⟩
    simp only [soundserviceref02_Same.l0]
    rw [if_pos (by omega), if_pos (by omega), if_pos (by omega), if_pos (by omega), if_pos trivial, wrap_succ i (by omega)]
    exact hK k (by omega)
theorem same_refl (l : List ByteArray) (hl : l.length ≤ 4611686018427387904) : Ev (fun k => soundserviceref02_Same.f k l l) true := by
  obtain ⟨K, hK⟩ := same_l0 l hl l.length 0 (by omega)
  dsimp only at hK
  refine Ev.mk K (fun k hk => ?_)
  unfold soundserviceref02_Same.f
  rw [if_pos rfl]
  exact hK k hk
theorem split_words_len (s : ByteArray) : (words_Split.p s).1.length ≤ 64 := by
  have hw : ∀ (bs : List Int) (st : Int) (word : List Int) (ws : List ByteArray), (wsplit bs st word ws).1.length ≤ 64 := by
    intro bs
    induction bs with
    | nil => intro st word ws; unfold wsplit; split <;> simp <;> split <;> simp_all
    | cons c cs ih => intro st word ws; unfold wsplit; split <;> simp_all
  unfold words_Split.p
  split
  · simp
  split
  · simp
  · exact hw _ _ _ _
end Go.Proofs.Ytlbmnajmjaalfaa.U
