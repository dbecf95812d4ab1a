/- The reference's Number, Format and Name are the program's. Conditions: as each states. -/
import Derived.Test.YtlbmnajmjaalfaaDoorUN
import Derived.Test.YtlbmnajmjaalfaaDoorUM
import Derived.Lib.ItoaLen
import Derived.Lib.ItoaMem
namespace Go.Proofs.YtlbmnajmjaalfaaDoor.U
set_option linter.unusedSimpArgs false
set_option linter.unusedVariables false
open Go.RowKit Go.Proofs.YtlbmnajmjaalfaaDoor.P Go.Proofs.YtlbmnajmjaalfaaDoorW.PrintWords Go.Proofs.YtlbmnajmjaalfaaDoorW.PrintLast Go.Proofs.YtlbmnajmjaalfaaDoorW.PrintMore Go.Proofs.YtlbmnajmjaalfaaDoorW.Mine

/-- The reference's running number: capped at 1 << 54. -/
def capLoop : List Int → Int → Int
  | [], n => n
  | c :: cs, n => capLoop cs (mn (n * 10 + (c - 48)) 18014398509481984)
theorem cap_num : ∀ (l : List Int) (a b : Int), l.all digit = true → (a = b ∧ 0 ≤ a ∧ a ≤ 9007199254740992) ∨ (9007199254740992 < a ∧ 9007199254740992 < b) → (capLoop l a = numLoop l b ∧ 0 ≤ numLoop l b ∧ numLoop l b ≤ 9007199254740992) ∨ (9007199254740992 < capLoop l a ∧ 9007199254740992 < numLoop l b)
  | [], a, b, _, h => by
    rcases h with ⟨rfl, h1, h2⟩ | h
    · exact .inl ⟨rfl, h1, h2⟩
    · exact .inr h
  | c :: cs, a, b, hl, h => by
    rw [List.all_cons, Bool.and_eq_true] at hl
    have hd : 48 ≤ c ∧ c ≤ 57 := by simpa [digit] using hl.1
    unfold capLoop numLoop
    refine cap_num cs _ _ hl.2 ?_
    rcases h with ⟨rfl, h1, h2⟩ | ⟨h1, h2⟩
    · rw [if_pos h2]
      by_cases hb : a * 10 + (c - 48) ≤ 9007199254740992
      · left
        refine ⟨?_, ?_, ?_⟩ <;> (unfold mn; omega)
      · right
        refine ⟨?_, ?_⟩
        · unfold mn; omega
        · omega
    · right
      rw [if_neg (by omega)]
      refine ⟨?_, h2⟩
      unfold mn; omega
theorem numEnd_cap (neg : Bool) (l : List Int) (h : l.all digit = true) : numEnd neg (capLoop l 0) = numEnd neg (numLoop l 0) := by
  rcases cap_num l 0 0 h (.inl ⟨rfl, by omega, by omega⟩) with ⟨h1, _, _⟩ | ⟨h1, h2⟩
  · rw [h1]
  · unfold numEnd
    rw [if_pos h1, if_pos h2]
theorem refnumber_l0 (neg : Bool) (s : ByteArray) (hs : s.size ≤ 4611686018427387904) : ∀ (d i : Nat) (n : Int), i + d = s.size → 0 ≤ n → n ≤ 18014398509481984 →
    Ev (fun k => soundserviceref02_Number.l0 k s neg n i) (if ((bytesOf s).drop i).all digit = true then numEnd neg (capLoop ((bytesOf s).drop i) n) else (0, 5)) := by
  intro d
  induction d with
  | zero =>
    intro i n hi h0 h1
    refine Ev.mk 1 (fun k hk => ?_)
    obtain ⟨k, rfl⟩ : ∃ m, k = m + 1 := ⟨k - 1, by omega⟩
    simp only [soundserviceref02_Number.l0]
    rw [if_neg (by omega), drop_end s i (by omega), if_pos List.all_nil]
    show _ = some (numEnd neg n)
    unfold numEnd
    by_cases hn : 9007199254740992 < n
    · rw [if_pos hn, if_pos hn]
    · rw [if_neg hn, if_neg hn, wrap_id _ (by omega) (by omega)]
      split <;> rfl
  | succ d ih =>
    intro i n hi h0 h1
    rw [drop_cons s i (by omega)]
    have hc := bt_byte s (i : Int)
    by_cases hd : digit (bt s (i : Int)) = true
    · have hd2 : 48 ≤ bt s (i : Int) ∧ bt s (i : Int) ≤ 57 := by simpa [digit] using hd
      obtain ⟨K, hK⟩ := ih (i + 1) (mn (n * 10 + (bt s (i : Int) - 48)) 18014398509481984) (by omega) (by unfold mn; omega) (by unfold mn; omega)
      dsimp only at hK
      refine Ev.mk (K + 1) (fun k hk => ?_)
      obtain ⟨k, rfl⟩ : ∃ m, k = m + 1 := ⟨k - 1, by omega⟩
      simp only [soundserviceref02_Number.l0]
      rw [if_pos (by omega), if_pos (by omega), if_neg (by omega), if_neg (by omega), wrap_id (n * 10) (by omega) (by omega), show (bt s (i : Int) - 48) % 256 = bt s (i : Int) - 48 by omega, wrap_id _ (by omega) (by omega), wrap_succ i (by omega), hK k (by omega)]
      have e : ((bt s (i : Int) :: (bytesOf s).drop (i + 1)).all digit) = ((bytesOf s).drop (i + 1)).all digit := by rw [List.all_cons, hd]; rfl
      rw [e, capLoop]
    · refine Ev.mk 1 (fun k hk => ?_)
      obtain ⟨k, rfl⟩ : ∃ m, k = m + 1 := ⟨k - 1, by omega⟩
      have e : ((bt s (i : Int) :: (bytesOf s).drop (i + 1)).all digit) = false := by rw [List.all_cons, Bool.eq_false_iff.2 hd]; rfl
      simp only [soundserviceref02_Number.l0]
      rw [if_pos (by omega), if_pos (by omega), e]
      simp only [Bool.false_eq_true, if_false]
      have hd2 : ¬ (48 ≤ bt s (i : Int) ∧ bt s (i : Int) ≤ 57) := by simpa [digit] using hd
      by_cases h48 : bt s (i : Int) < 48
      · rw [if_pos h48]
      · rw [if_neg h48, if_pos (by omega)]
theorem refnumber_j1 (neg : Bool) (s : ByteArray) (hs : s.size ≤ 4611686018427387904) : Ev (fun k => soundserviceref02_Number.j1 k s neg) (numS neg (bytesOf s)) := by
  obtain ⟨K, hK⟩ := refnumber_l0 neg s hs s.size 0 0 (by omega) (by omega) (by omega)
  dsimp only at hK
  rw [List.drop_zero, Int.natCast_zero] at hK
  refine Ev.mk (K + 2) (fun k hk => ?_)
  obtain ⟨k, rfl⟩ : ∃ m, k = m + 2 := ⟨k - 2, by omega⟩
  simp only [soundserviceref02_Number.j1]
  by_cases h0 : s.size = 0
  · rw [if_pos (toList_nil.2 h0), show bytesOf s = [] from List.eq_nil_of_length_eq_zero (by rw [bytesOf_length]; exact h0)]
    simp [soundserviceref02_Number.j2, numS]
  · rw [if_neg (fun e => h0 (toList_nil.1 e))]
    have hb := bytes_cons s (by omega)
    have hl : ((bytesOf s).drop 1).length = s.size - 1 := by rw [List.length_drop, bytesOf_length]
    have hgo : soundserviceref02_Number.j2 (k + 1) s neg false = some (numD neg (bytesOf s)) := by
      simp only [soundserviceref02_Number.j2]
      rw [if_neg (by decide), hK k (by omega)]
      unfold numD
      by_cases ha : (bytesOf s).all digit = true
      · rw [if_pos ha, if_pos ha, numEnd_cap neg _ ha]
      · rw [if_neg ha, if_neg ha]
    have hbad : soundserviceref02_Number.j2 (k + 1) s neg true = some (0, 5) := by simp [soundserviceref02_Number.j2]
    have hS : numS neg (bytesOf s) = if bt s 0 = 48 ∧ ((bytesOf s).drop 1 ≠ [] ∨ neg = true) then (0, 5) else numD neg (bytesOf s) := by
      have e := numS_cons neg (bt s 0) ((bytesOf s).drop 1)
      rw [← hb] at e
      exact e
    have h48s : (s.toList == ([48] : List UInt8)) = decide (bt s 0 = 48 ∧ (bytesOf s).drop 1 = []) := by
      rw [Bool.eq_iff_iff, beq_iff_eq, decide_eq_true_eq]
      constructor
      · intro h
        rw [toList_data] at h
        have hb2 : bytesOf s = [48] := by unfold bytesOf; rw [h]; rfl
        rw [hb2] at hb
        injection hb with h1 h2
        exact ⟨h1.symm, by rw [hb2]; rfl⟩
      · rintro ⟨h1, h2⟩
        rw [h1, h2] at hb
        have : s = ⟨#[48]⟩ := bytesOf_inj (hb.trans rfl)
        rw [this, toList_data]
    by_cases h48 : bt s 0 = 48
    · by_cases h1 : 1 < s.size
      · have hne : (bytesOf s).drop 1 ≠ [] := fun e => by rw [e] at hl; simp at hl; omega
        have r1 : numS neg (bytesOf s) = (0, 5) := by rw [hS, if_pos ⟨h48, .inl hne⟩]
        rw [r1, if_pos (by omega), if_pos (by omega), if_pos h48, hbad]
      · have he : (bytesOf s).drop 1 = [] := List.eq_nil_of_length_eq_zero (by omega)
        rw [if_neg (by omega)]
        cases neg with
        | true =>
          have r1 : numS true (bytesOf s) = (0, 5) := by rw [hS, if_pos ⟨h48, .inr rfl⟩]
          rw [r1, if_pos rfl, h48s, decide_eq_true ⟨h48, he⟩, hbad]
        | false =>
          have r1 : numS false (bytesOf s) = numD false (bytesOf s) := by rw [hS, if_neg (by rw [he]; simp)]
          rw [r1, if_neg Bool.false_ne_true, hgo]
    · have r1 : numS neg (bytesOf s) = numD neg (bytesOf s) := by rw [hS, if_neg (fun h => h48 h.1)]
      rw [r1]
      have htail : (if neg = true then soundserviceref02_Number.j2 (k + 1) s neg (s.toList == ([48] : List UInt8)) else soundserviceref02_Number.j2 (k + 1) s neg false) = some (numD neg (bytesOf s)) := by
        cases neg with
        | true => rw [if_pos rfl, h48s, decide_eq_false (fun h => h48 h.1)]; exact hgo
        | false => rw [if_neg Bool.false_ne_true]; exact hgo
      by_cases h1 : 1 < s.size
      · rw [if_pos (by omega), if_pos (by omega), if_neg h48, htail]
      · rw [if_neg (by omega), htail]
theorem refnumber_f (s : ByteArray) (hs : s.size ≤ 4611686018427387904) : Ev (fun k => soundserviceref02_Number.f k s) (numP s) := by
  unfold numP
  by_cases h0 : s.size = 0
  · obtain ⟨K, hK⟩ := refnumber_j1 false s hs
    dsimp only at hK
    refine Ev.mk (K + 1) (fun k hk => ?_)
    obtain ⟨k, rfl⟩ : ∃ m, k = m + 1 := ⟨k - 1, by omega⟩
    unfold soundserviceref02_Number.f
    rw [if_pos (toList_nil.2 h0)]
    simp only [soundserviceref02_Number.j0]
    rw [if_neg (by decide), hK k (by omega), show bytesOf s = [] from List.eq_nil_of_length_eq_zero (by rw [bytesOf_length]; exact h0)]
    rfl
  · have hb := bytes_cons s (by omega)
    by_cases h45 : bt s 0 = 45
    · have hx : bytesOf (s.extract 1 s.size) = (bytesOf s).drop 1 := by
        rw [bytesOf_extract, List.take_of_length_le (by rw [bytesOf_length]; exact Nat.le_refl _)]
      have hxs : (s.extract 1 s.size).size ≤ 4611686018427387904 := by rw [← bytesOf_length, hx, List.length_drop, bytesOf_length]; omega
      obtain ⟨K, hK⟩ := refnumber_j1 true (s.extract 1 s.size) hxs
      dsimp only at hK
      refine Ev.mk (K + 1) (fun k hk => ?_)
      obtain ⟨k, rfl⟩ : ∃ m, k = m + 1 := ⟨k - 1, by omega⟩
      unfold soundserviceref02_Number.f
      rw [if_neg (fun e => h0 (toList_nil.1 e)), if_pos (by omega), h45]
      simp only [soundserviceref02_Number.j0]
      rw [if_pos (by decide), if_pos (by omega), hK k (by omega), hx, hb, h45]
      rfl
    · obtain ⟨K, hK⟩ := refnumber_j1 false s hs
      dsimp only at hK
      refine Ev.mk (K + 1) (fun k hk => ?_)
      obtain ⟨k, rfl⟩ : ∃ m, k = m + 1 := ⟨k - 1, by omega⟩
      unfold soundserviceref02_Number.f
      rw [if_neg (fun e => h0 (toList_nil.1 e)), if_pos (by omega), beq_eq_false_iff_ne.2 h45]
      simp only [soundserviceref02_Number.j0]
      rw [if_neg (by decide), hK k (by omega)]
      congr 1
      rw [hb]
      unfold numL
      split
      · rename_i h
        injection h with h1 _
        exact absurd h1 h45
      · rfl

/-! ### names -/
theorem letter_f (c : Int) : soundserviceref02_letter.f c = some (decide ((97 ≤ c ∧ c ≤ 122) ∨ (65 ≤ c ∧ c ≤ 90))) := by
  unfold soundserviceref02_letter.f
  by_cases h1 : 97 ≤ c <;> by_cases h2 : c ≤ 122 <;> by_cases h3 : 65 ≤ c <;> by_cases h4 : c ≤ 90 <;> simp [h1, h2, h3, h4]
theorem refname_l0 (s : ByteArray) (hs : s.size ≤ 4611686018427387904) : ∀ (d i : Nat), i + d = s.size → Ev (fun k => soundserviceref02_Name.l0 k s i) (namesFrom ((bytesOf s).drop i) i && (!(bytesOf s).isEmpty && decide ((bytesOf s).length ≤ 64))) := by
  intro d
  induction d with
  | zero =>
    intro i hi
    refine Ev.mk 1 (fun k hk => ?_)
    obtain ⟨k, rfl⟩ : ∃ m, k = m + 1 := ⟨k - 1, by omega⟩
    simp only [soundserviceref02_Name.l0]
    rw [if_neg (by omega), drop_end s i (by omega), names_end s i]
    simp [namesFrom]
  | succ d ih =>
    intro i hi
    rw [drop_cons s i (by omega)]
    obtain ⟨K, hK⟩ := ih (i + 1) (by omega)
    dsimp only at hK
    refine Ev.mk (K + 1) (fun k hk => ?_)
    obtain ⟨k, rfl⟩ : ∃ m, k = m + 1 := ⟨k - 1, by omega⟩
    have hk := hK k (by omega)
    simp only [soundserviceref02_Name.l0]
    rw [if_pos (by omega), if_pos (by omega), wrap_succ i (by omega), letter_f]
    simp only [Option.bind_some]
    have e : (namesFrom (bt s (i : Int) :: (bytesOf s).drop (i + 1)) i && (!(bytesOf s).isEmpty && decide ((bytesOf s).length ≤ 64))) = (if NameOk i (bt s (i : Int)) then (namesFrom ((bytesOf s).drop (i + 1)) (i + 1) && (!(bytesOf s).isEmpty && decide ((bytesOf s).length ≤ 64))) else false) := by
      rw [namesFrom_cons]
      by_cases h : NameOk i (bt s (i : Int))
      · rw [if_pos h, decide_eq_true h]; rfl
      · rw [if_neg h, decide_eq_false h]; rfl
    rw [e]
    generalize (namesFrom ((bytesOf s).drop (i + 1)) (i + 1) && (!(bytesOf s).isEmpty && decide ((bytesOf s).length ≤ 64))) = r at hk ⊢
    generalize soundserviceref02_Name.l0 k s ((i + 1 : Nat) : Int) = X at hk ⊢
    subst hk
    generalize bt s (i : Int) = c
    clear e hK ih
    simp only [decide_eq_true_eq]
    repeat' split
    all_goals first
      | rfl
      | (exfalso; rename_i h; revert h; unfold NameOk; omega)
      | (unfold NameOk at *; exfalso; omega)
theorem refname_f (s : ByteArray) (hs : s.size ≤ 4611686018427387904) : Ev (fun k => soundserviceref02_Name.f k s) (nameP s) := by
  obtain ⟨K, hK⟩ := refname_l0 s hs s.size 0 (by omega)
  dsimp only at hK
  refine Ev.mk K (fun k hk => ?_)
  unfold soundserviceref02_Name.f
  have h := hK k hk
  rw [Int.natCast_zero] at h
  rw [h]
  unfold nameP nameL
  rw [List.drop_zero, Bool.and_assoc]

/-! ### strings of numbers -/
theorem refformat_l0 (sign : ByteArray) (hsg : sign.size ≤ 10) : ∀ (u : Nat) (x : List UInt8), u < 18446744073709551616 → (Lib.decDigits u ++ x).length ≤ 100 →
    Ev (fun k => soundserviceref02_Format.l0 k u sign ⟨x.toArray⟩) (sign ++ ⟨(Lib.decDigits u ++ x).toArray⟩) := by
  intro u
  induction u using Nat.strongRecOn with
  | _ u ih =>
    intro x hu hx
    have hs1 : strOfNums [(IntKind.u64.wrap (48 + (Int.tmod (u : Int) 10))) % 256] ++ (⟨x.toArray⟩ : ByteArray) = ⟨(UInt8.ofNat (48 + u % 10) :: x).toArray⟩ := by
      have e : (IntKind.u64.wrap (48 + (Int.tmod (u : Int) 10))) % 256 = ((48 + u % 10 : Nat) : Int) := by
        rw [Int.tmod_eq_emod_of_nonneg (by omega), u64_id _ (by omega) (by omega)]
        omega
      rw [e]
      apply ba_ext
      rw [ByteArray.data_append, Array.toList_append]
      simp only [strOfNums, List.map_cons, List.map_nil, Int.toNat_natCast]
      rfl
    have hs2 : (⟨(UInt8.ofNat (48 + u % 10) :: x).toArray⟩ : ByteArray).size = x.length + 1 := rfl
    have hs3 : (⟨x.toArray⟩ : ByteArray).size = x.length := rfl
    have hs4 : ∀ z : Int, (strOfNums [z]).size = 1 := fun _ => rfl
    have hdiv : IntKind.u64.wrap (Int.tdiv (u : Int) 10) = ((u / 10 : Nat) : Int) := by
      rw [Int.tdiv_eq_ediv_of_nonneg (by omega), u64_id _ (by omega) (by omega)]
      omega
    have hdec : Lib.decDigits u ++ x = if u < 10 then UInt8.ofNat (48 + u % 10) :: x else Lib.decDigits (u / 10) ++ (UInt8.ofNat (48 + u % 10) :: x) := by
      rw [Lib.decDigits]
      split
      · rw [show u % 10 = u by omega]; rfl
      · simp
    have hxl : x.length ≤ 100 := by rw [List.length_append] at hx; omega
    rw [hdec] at hx ⊢
    by_cases h10 : u < 10
    · refine Ev.mk 1 (fun k hk => ?_)
      obtain ⟨k, rfl⟩ : ∃ m, k = m + 1 := ⟨k - 1, by omega⟩
      simp only [soundserviceref02_Format.l0, Option.bind_some]
      rw [hs1, hs2, hs3, hs4, hdiv, if_pos (by omega), if_pos (by omega), if_pos (by omega), if_pos h10]
    · obtain ⟨K, hK⟩ := ih (u / 10) (by omega) (UInt8.ofNat (48 + u % 10) :: x) (by omega) (by rw [if_neg h10] at hx; exact hx)
      dsimp only at hK
      refine Ev.mk (K + 1) (fun k hk => ?_)
      obtain ⟨k, rfl⟩ : ∃ m, k = m + 1 := ⟨k - 1, by omega⟩
      simp only [soundserviceref02_Format.l0, Option.bind_some]
      rw [hs1, hs3, hs4, hdiv, if_pos (by omega), if_neg (by omega), if_neg h10]
      exact hK k (by omega)
theorem digits_len (u : Nat) (h : u ≤ 9223372036854775808) : (Lib.decDigits u).length ≤ 21 := by
  by_cases h1 : u ≤ 9223372036854775807
  · have := Lib.itoa_length_le (u : Int) (by omega) (by omega)
    rw [Lib.itoa_nonneg] at this
    exact this
  · have := Lib.itoa_length_le (-(u : Int)) (by omega) (by omega)
    rw [Lib.itoa_neg u (by omega)] at this
    simp only [List.length_cons] at this
    omega
theorem refformat_f (n : Int) (h0 : -9223372036854775808 ≤ n) (h1 : n ≤ 9223372036854775807) : Ev (fun k => soundserviceref02_Format.f k n) ⟨(Lib.itoa n).toArray⟩ := by
  by_cases hn : n < 0
  · obtain ⟨K, hK⟩ := refformat_l0 ⟨#[45]⟩ (by decide) n.natAbs [] (by omega) (by rw [List.append_nil]; have := digits_len n.natAbs (by omega); omega)
    dsimp only at hK
    refine Ev.mk (K + 1) (fun k hk => ?_)
    obtain ⟨k, rfl⟩ : ∃ m, k = m + 1 := ⟨k - 1, by omega⟩
    unfold soundserviceref02_Format.f
    rw [if_pos hn]
    have hu : IntKind.u64.wrap (-(IntKind.u64.wrap n)) = ((n.natAbs : Nat) : Int) := by
      rw [u64_wrap, u64_wrap]; omega
    simp only [soundserviceref02_Format.j0]
    rw [hu]
    have := hK k (by omega)
    rw [List.append_nil] at this
    refine Eq.trans this ?_
    congr 1
    apply ba_ext
    rw [ByteArray.data_append, Array.toList_append]
    unfold Lib.itoa
    rw [if_pos hn]
    rfl
  · obtain ⟨K, hK⟩ := refformat_l0 ⟨#[]⟩ (by decide) n.toNat [] (by omega) (by rw [List.append_nil]; have := digits_len n.toNat (by omega); omega)
    dsimp only at hK
    refine Ev.mk (K + 1) (fun k hk => ?_)
    obtain ⟨k, rfl⟩ : ∃ m, k = m + 1 := ⟨k - 1, by omega⟩
    unfold soundserviceref02_Format.f
    rw [if_neg hn]
    have hu : IntKind.u64.wrap n = ((n.toNat : Nat) : Int) := by
      rw [u64_wrap]; omega
    simp only [soundserviceref02_Format.j0]
    rw [hu]
    have := hK k (by omega)
    rw [List.append_nil] at this
    refine Eq.trans this ?_
    congr 1
    apply ba_ext
    rw [ByteArray.data_append, Array.toList_append]
    unfold Lib.itoa
    rw [if_neg hn]
    rfl
end Go.Proofs.YtlbmnajmjaalfaaDoor.U
