/- Numbers: what the program's Number tells, and that a number comes back from its string. Conditions: as each states. -/
import Derived.Test.YtlbmnajmjaalfaaDoorUA
import Derived.Test.YtlbmnajmjaalfaaDoorPx
namespace Go.Proofs.YtlbmnajmjaalfaaDoor.U
set_option linter.unusedSimpArgs false
set_option linter.unusedVariables false
open Go.RowKit Go.Proofs.YtlbmnajmjaalfaaDoor.P Go.Proofs.YtlbmnajmjaalfaaDoorW.PrintWords Go.Proofs.YtlbmnajmjaalfaaDoorW.PrintLast Go.Proofs.YtlbmnajmjaalfaaDoorW.PrintMore Go.Proofs.YtlbmnajmjaalfaaDoorW.Mine

def digit (c : Int) : Bool := decide (48 ≤ c) && decide (c ≤ 57)
/-- The program's running number: it stops growing past 1 << 53. -/
def numLoop : List Int → Int → Int
  | [], n => n
  | c :: cs, n => numLoop cs (if n ≤ 9007199254740992 then 10 * n + (c - 48) else n)
def numEnd (neg : Bool) (n : Int) : Int × Int := if 9007199254740992 < n then (0, 2) else if neg = true then (-n, 0) else (n, 0)
/-- The number of some digits, behind a sign. -/
def numD (neg : Bool) (l : List Int) : Int × Int := if l.all digit = true then numEnd neg (numLoop l 0) else (0, 5)
def numS (neg : Bool) (l : List Int) : Int × Int :=
  match l with
  | [] => (0, 5)
  | c :: cs => if c = 48 ∧ (cs ≠ [] ∨ neg = true) then (0, 5) else numD neg (c :: cs)
theorem numS_cons (neg : Bool) (c : Int) (cs : List Int) : numS neg (c :: cs) = if c = 48 ∧ (cs ≠ [] ∨ neg = true) then (0, 5) else numD neg (c :: cs) := rfl
/-- Number over bytes. -/
def numL (l : List Int) : Int × Int :=
  match l with
  | 45 :: cs => numS true cs
  | l => numS false l
def numP (s : ByteArray) : Int × Int := numL (bytesOf s)
theorem numLoop_range : ∀ (l : List Int) (n : Int), l.all digit = true → 0 ≤ n → n ≤ 90071992547409929 → 0 ≤ numLoop l n ∧ numLoop l n ≤ 90071992547409929
  | [], n, _, h0, h1 => ⟨h0, h1⟩
  | c :: cs, n, h, h0, h1 => by
    rw [List.all_cons, Bool.and_eq_true] at h
    have hd : 48 ≤ c ∧ c ≤ 57 := by simpa [digit] using h.1
    unfold numLoop
    refine numLoop_range cs _ ?_ ?_ ?_
    · have h2 := h.2; exact h2
    · split <;> omega
    · split <;> omega
theorem number_l0 (neg : Bool) (s : ByteArray) (hs : s.size ≤ 4611686018427387904) : ∀ (d i : Nat) (n : Int), i + d = s.size → 0 ≤ n → n ≤ 90071992547409929 →
    Ev (fun k => words_Number.l0 k neg s n (s.size : Int) i) (if ((bytesOf s).drop i).all digit = true then numEnd neg (numLoop ((bytesOf s).drop i) n) else (0, 5)) := by
  intro d
  induction d with
  | zero =>
    intro i n hi h0 h1
    refine Ev.mk 1 (fun k hk => ?_)
    obtain ⟨k, rfl⟩ : ∃ m, k = m + 1 := ⟨k - 1, by omega⟩
    simp only [words_Number.l0]
    rw [if_neg (by omega), drop_end s i (by omega), if_pos List.all_nil]
    show _ = some (numEnd neg n)
    unfold numEnd
    by_cases hn : 9007199254740992 < n
    · rw [if_pos hn, if_pos hn]
    · rw [if_neg hn, if_neg hn, wrap_id _ (by omega) (by omega)]
      split <;> rfl
  | succ d ih =>
    intro i n hi h0 h1
    rw [drop_cons s i (by omega)]
    have hc := bt_byte s (i : Int)
    by_cases hd : digit (bt s (i : Int)) = true
    · have hd2 : 48 ≤ bt s (i : Int) ∧ bt s (i : Int) ≤ 57 := by simpa [digit] using hd
      obtain ⟨K, hK⟩ := ih (i + 1) (if n ≤ 9007199254740992 then 10 * n + (bt s (i : Int) - 48) else n) (by omega) (by split <;> omega) (by split <;> omega)
      dsimp only at hK
      refine Ev.mk (K + 3) (fun k hk => ?_)
      obtain ⟨k, rfl⟩ : ∃ m, k = m + 3 := ⟨k - 3, by omega⟩
      simp only [words_Number.l0]
      rw [if_pos (by omega), if_pos (by omega), if_pos (by omega), if_neg (by omega), decide_eq_false (by omega)]
      simp only [words_Number.j4]
      rw [if_neg (by decide), wrap_succ i (by omega)]
      have e : ((bt s (i : Int) :: (bytesOf s).drop (i + 1)).all digit) = ((bytesOf s).drop (i + 1)).all digit := by rw [List.all_cons, hd]; rfl
      rw [e, numLoop]
      by_cases hn : n ≤ 9007199254740992
      · rw [if_pos hn, if_pos (by omega), if_pos (by omega), wrap_id (10 * n) (by omega) (by omega), show (bt s (i : Int) - 48) % 256 = bt s (i : Int) - 48 by omega, wrap_id _ (by omega) (by omega), if_pos hn]
        rw [if_pos hn] at hK
        exact hK (k + 1) (by omega)
      · rw [if_neg hn, if_neg hn]
        rw [if_neg hn] at hK
        exact hK (k + 1) (by omega)
    · refine Ev.mk 3 (fun k hk => ?_)
      obtain ⟨k, rfl⟩ : ∃ m, k = m + 3 := ⟨k - 3, by omega⟩
      have e : ((bt s (i : Int) :: (bytesOf s).drop (i + 1)).all digit) = false := by rw [List.all_cons, Bool.eq_false_iff.2 hd]; rfl
      simp only [words_Number.l0]
      rw [if_pos (by omega), if_pos (by omega), if_pos (by omega), e]
      simp only [Bool.false_eq_true, if_false]
      have hd2 : ¬ (48 ≤ bt s (i : Int) ∧ bt s (i : Int) ≤ 57) := by simpa [digit] using hd
      by_cases h48 : bt s (i : Int) < 48
      · rw [if_pos h48]; simp [words_Number.j4]
      · rw [if_neg h48, decide_eq_true (by omega)]; simp [words_Number.j4]
theorem bytes_cons (s : ByteArray) (h : 0 < s.size) : bytesOf s = bt s 0 :: (bytesOf s).drop 1 := by
  have := drop_cons s 0 h
  rw [List.drop_zero] at this
  exact this
theorem number_j1 (neg : Bool) (s : ByteArray) (hs : s.size ≤ 4611686018427387904) : Ev (fun k => words_Number.j1 k neg s) (numS neg (bytesOf s)) := by
  obtain ⟨K, hK⟩ := number_l0 neg s hs s.size 0 0 (by omega) (by omega) (by omega)
  dsimp only at hK
  rw [List.drop_zero, Int.natCast_zero] at hK
  refine Ev.mk (K + 2) (fun k hk => ?_)
  obtain ⟨k, rfl⟩ : ∃ m, k = m + 2 := ⟨k - 2, by omega⟩
  simp only [words_Number.j1]
  by_cases h0 : s.size = 0
  · rw [if_pos (toList_nil.2 h0), show bytesOf s = [] from List.eq_nil_of_length_eq_zero (by rw [bytesOf_length]; exact h0)]
    simp [words_Number.j2, numS]
  · rw [if_neg (fun e => h0 (toList_nil.1 e)), if_pos (by omega)]
    have hb := bytes_cons s (by omega)
    have hl : ((bytesOf s).drop 1).length = s.size - 1 := by rw [List.length_drop, bytesOf_length]
    have hgo : words_Number.j2 (k + 1) neg s false = some (numD neg (bytesOf s)) := by
      simp only [words_Number.j2]
      rw [if_neg (by decide)]
      exact hK k (by omega)
    have hS : numS neg (bytesOf s) = if bt s 0 = 48 ∧ ((bytesOf s).drop 1 ≠ [] ∨ neg = true) then (0, 5) else numD neg (bytesOf s) := by
      have e := numS_cons neg (bt s 0) ((bytesOf s).drop 1)
      rw [← hb] at e
      exact e
    rw [hS]
    by_cases h48 : bt s 0 = 48
    · rw [if_pos h48]
      by_cases h1 : 1 < s.size
      · rw [if_pos (by omega), if_pos ⟨h48, .inl (fun e => by rw [e] at hl; simp at hl; omega)⟩]
        simp [words_Number.j2]
      · rw [if_neg (by omega)]
        have he : (bytesOf s).drop 1 = [] := List.eq_nil_of_length_eq_zero (by omega)
        cases neg with
        | true => rw [if_pos ⟨h48, .inr rfl⟩]; simp [words_Number.j2]
        | false => rw [if_neg (by rw [he]; simp), hgo]
    · rw [if_neg h48, if_neg (by intro h; exact h48 h.1), hgo]
theorem number_f (s : ByteArray) (hs : s.size ≤ 4611686018427387904) : Ev (fun k => words_Number.f k s) (numP s) := by
  unfold numP
  by_cases h0 : s.size = 0
  · obtain ⟨K, hK⟩ := number_j1 false s hs
    dsimp only at hK
    refine Ev.mk (K + 1) (fun k hk => ?_)
    obtain ⟨k, rfl⟩ : ∃ m, k = m + 1 := ⟨k - 1, by omega⟩
    unfold words_Number.f
    rw [if_neg (by omega)]
    simp only [words_Number.j0]
    rw [if_neg (by decide), hK k (by omega), show bytesOf s = [] from List.eq_nil_of_length_eq_zero (by rw [bytesOf_length]; exact h0)]
    rfl
  · have hb := bytes_cons s (by omega)
    by_cases h45 : bt s 0 = 45
    · have hx : bytesOf (s.extract 1 s.size) = (bytesOf s).drop 1 := by
        rw [bytesOf_extract, List.take_of_length_le (by rw [bytesOf_length]; exact Nat.le_refl _)]
      have hxs : (s.extract 1 s.size).size ≤ 4611686018427387904 := by rw [← bytesOf_length, hx, List.length_drop, bytesOf_length]; omega
      obtain ⟨K, hK⟩ := number_j1 true (s.extract 1 s.size) hxs
      dsimp only at hK
      refine Ev.mk (K + 1) (fun k hk => ?_)
      obtain ⟨k, rfl⟩ : ∃ m, k = m + 1 := ⟨k - 1, by omega⟩
      unfold words_Number.f
      rw [if_pos (by omega), if_pos (by omega), h45]
      simp only [words_Number.j0]
      rw [if_pos (by decide), if_pos (by omega)]
      have e1 : (45 == (45 : Int)) = true := by decide
      rw [e1, hK k (by omega), hx, hb, h45]
      rfl
    · obtain ⟨K, hK⟩ := number_j1 false s hs
      dsimp only at hK
      refine Ev.mk (K + 1) (fun k hk => ?_)
      obtain ⟨k, rfl⟩ : ∃ m, k = m + 1 := ⟨k - 1, by omega⟩
      unfold words_Number.f
      rw [if_pos (by omega), if_pos (by omega), beq_eq_false_iff_ne.2 h45]
      simp only [words_Number.j0]
      rw [if_neg (by decide), hK k (by omega)]
      congr 1
      rw [hb]
      unfold numL
      split
      · rename_i h
        injection h with h1 _
        exact absurd h1 h45
      · rfl

/-! ### numbers come back -/
theorem digits_digit : ∀ u : Nat, ∀ b ∈ Lib.decDigits u, 48 ≤ (b.toNat : Int) ∧ (b.toNat : Int) ≤ 57 := by
  intro u
  induction u using Nat.strongRecOn with
  | _ u ih =>
    intro b hb
    rw [Lib.decDigits] at hb
    split at hb
    · rw [List.mem_singleton] at hb
      subst hb
      rw [UInt8.toNat_ofNat']
      omega
    · rcases List.mem_append.1 hb with hb | hb
      · exact ih (u / 10) (by omega) b hb
      · rw [List.mem_singleton] at hb
        subst hb
        rw [UInt8.toNat_ofNat']
        omega
/-- A string's bytes as numbers. -/
def numsOf (l : List UInt8) : List Int := l.map fun b => (b.toNat : Int)
theorem numsOf_append (a b : List UInt8) : numsOf (a ++ b) = numsOf a ++ numsOf b := by simp [numsOf]
theorem numLoop_append : ∀ (a b : List Int) (n : Int), numLoop (a ++ b) n = numLoop b (numLoop a n)
  | [], _, _ => rfl
  | c :: a, b, n => by rw [List.cons_append, numLoop, numLoop, numLoop_append a b]
theorem loop_digits : ∀ u : Nat, u ≤ 9007199254740992 → numLoop (numsOf (Lib.decDigits u)) 0 = u := by
  intro u
  induction u using Nat.strongRecOn with
  | _ u ih =>
    intro hu
    rw [Lib.decDigits]
    split
    · simp only [numsOf, List.map_cons, List.map_nil, numLoop, UInt8.toNat_ofNat']
      rw [if_pos (by omega)]
      omega
    · rw [numsOf_append, numLoop_append, ih (u / 10) (by omega) (by omega)]
      simp only [numsOf, List.map_cons, List.map_nil, numLoop, UInt8.toNat_ofNat']
      rw [if_pos (by omega)]
      omega
theorem digits_all (u : Nat) : (numsOf (Lib.decDigits u)).all digit = true := by
  refine List.all_eq_true.2 (fun x hx => ?_)
  obtain ⟨b, hb, rfl⟩ := List.mem_map.1 hx
  have := digits_digit u b hb
  simp [digit, this]
theorem digits_head : ∀ u : Nat, 0 < u → ∃ c cs, numsOf (Lib.decDigits u) = c :: cs ∧ c ≠ 48 := by
  intro u
  induction u using Nat.strongRecOn with
  | _ u ih =>
    intro hu
    rw [Lib.decDigits]
    split
    · refine ⟨((UInt8.ofNat (48 + u)).toNat : Int), [], rfl, ?_⟩
      rw [UInt8.toNat_ofNat']
      omega
    · obtain ⟨c, cs, h1, h2⟩ := ih (u / 10) (by omega) (by omega)
      exact ⟨c, cs ++ numsOf [UInt8.ofNat (48 + u % 10)], by rw [numsOf_append, h1]; rfl, h2⟩
theorem numS_digits (neg : Bool) (u : Nat) (hu : u ≤ 9007199254740992) (h : 0 < u ∨ neg = false) : numS neg (numsOf (Lib.decDigits u)) = (if neg = true then -(u : Int) else u, 0) := by
  have hd : numD neg (numsOf (Lib.decDigits u)) = (if neg = true then -(u : Int) else u, 0) := by
    unfold numD
    rw [if_pos (digits_all u), loop_digits u hu]
    unfold numEnd
    rw [if_neg (by omega)]
    split <;> rfl
  by_cases h0 : 0 < u
  · obtain ⟨c, cs, h1, h2⟩ := digits_head u h0
    rw [h1] at hd ⊢
    have hn : ¬ (c = 48 ∧ (cs ≠ [] ∨ neg = true)) := fun hh => h2 hh.1
    rw [numS_cons, if_neg hn]
    exact hd
  · have e : u = 0 := by omega
    subst e
    have hn : neg = false := by
      rcases h with h | h
      · omega
      · exact h
    subst hn
    rw [Lib.decDigits_one (by omega)] at hd ⊢
    simp only [numsOf, List.map_cons, List.map_nil] at hd ⊢
    rw [numS_cons, if_neg (by simp)]
    exact hd
/-- A number comes back from its string. -/
theorem num_itoa (n : Int) (h0 : -9007199254740992 ≤ n) (h1 : n ≤ 9007199254740992) : numP ⟨(Lib.itoa n).toArray⟩ = (n, 0) := by
  unfold numP
  rw [bytesOf_mk]
  unfold Lib.itoa
  split
  · have := numS_digits true n.natAbs (by omega) (.inl (by omega))
    simp only [if_true] at this
    show numL (45 :: numsOf (Lib.decDigits n.natAbs)) = _
    show numS true (numsOf (Lib.decDigits n.natAbs)) = _
    rw [this]
    congr 1
    omega
  · have := numS_digits false n.toNat (by omega) (.inr rfl)
    simp only [Bool.false_eq_true, if_false] at this
    show numL (numsOf (Lib.decDigits n.toNat)) = _
    have hne : ∀ cs, numsOf (Lib.decDigits n.toNat) ≠ 45 :: cs := by
      intro cs e
      have := digits_all n.toNat
      rw [e, List.all_cons] at this
      simp [digit] at this
    unfold numL
    split
    · rename_i cs h
      exact absurd h (hne cs)
    · rw [this]
      congr 1
      omega
end Go.Proofs.YtlbmnajmjaalfaaDoor.U
