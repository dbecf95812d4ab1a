/- The reference's Name, written over V. Conditions: as each states. -/
import Derived.Test.YtimhjbihhchieaaQk
namespace Go.Proofs.Ytimhjbihhchieaa.Q
open Go Go.V
set_option linter.unusedVariables false
set_option linter.unusedSimpArgs false
set_option maxRecDepth 100000
variable {N : Nat} {WL : World}

set_option maxHeartbeats 8000000 in
theorem name02_s (s : ByteArray) (hs : s.size ≤ 1000000) : Sound P N WL 42 [.lf (vS s)] [] (· = .ret (.lf (vB (nameP s))) []) := by
  refine Sound.of mix [] Go.Proofs.Try.func42 rfl rfl ?_
  refine vloop_i [0, 3] [] (fun n r m => ∃ i : Nat, i + n = s.size ∧ nameP s = (namesFrom ((bytesOf s).drop i) i && (!(bytesOf s).isEmpty && decide ((bytesOf s).length ≤ 64))) ∧
    r = regs 48 [(0, .lf (vS s)), (3, .lf (vI i))] ∧ m = []) ⟨s.size, 0, by omega, by simp [nameP, nameL, Bool.and_assoc], rfl, rfl⟩ ?_
  rintro n r m ⟨i, hn, hq, rfl, rfl⟩
  refine vif_split (fun h3 => ?_) (fun h3 => ?_) <;> (try rw [h3])
  · have hlt : i < s.size := by have := h3; simp at this; omega
    have hk1 : IntKind.i64.wrap ((i : Int) + 1) = ((i + 1 : Nat) : Int) := by rw [wrap_in (by omega) (by omega)]; omega
    rw [drop_cons s i hlt, namesFrom_cons] at hq
    have hb := bt_byte s i
    unfold bt at hb hq
    refine vand_i (by omega) (fun _ => ?_)
    generalize hc : ((((ByteArray.data s).toList.getD (Int.toNat (i : Int)) 0).toNat : Nat) : Int) = c at hb hq ⊢
    refine vcall_intro [] [] (and_i (letter_s c) ?_)
    rintro o rfl
    repeat' (refine vif_split (fun h => ?_) (fun h => ?_) <;> (try rw [h]))
    all_goals first
      | (refine ends (ret1 (aB ?_))
         rw [hq]
         have : ¬ NameOk i c := by
           unfold NameOk
           simp only [decide_eq_true_eq, decide_eq_false_iff_not, beq_iff_eq, beq_eq_false_iff_ne, bne_iff_ne, bne_eq_false_iff_eq, ne_eq, Bool.not_eq_true', Bool.not_eq_false'] at *
           omega
         simp [this])
      | (refine next_i (n - 1) (by omega) ⟨i + 1, (by omega : i + 1 + (n - 1) = s.size), ?_, congrArg (fun y => regs 48 [(0, .lf (vS s)), (3, .lf (vI y))]) hk1, rfl⟩
         have : NameOk i c := by
           unfold NameOk
           simp only [decide_eq_true_eq, decide_eq_false_iff_not, beq_iff_eq, beq_eq_false_iff_ne, bne_iff_ne, bne_eq_false_iff_eq, ne_eq, Bool.not_eq_true', Bool.not_eq_false'] at *
           omega
         rw [hq]
         simp [this])
  · have hge : s.size ≤ i := by have := h3; simp at this; omega
    rw [drop_end s i hge, name_end] at hq
    refine vif_split (fun h4 => ?_) (fun h4 => ?_) <;> (try rw [h4])
    · have h5 : (!(s.toList == ByteArray.toList ⟨#[]⟩)) = true := h4
      rw [size_beq] at h5
      refine ends (ret1 (aB ?_))
      rw [hq]
      simp at h5
      simp [namesFrom, h5]
      omega
    · have h5 : (!(s.toList == ByteArray.toList ⟨#[]⟩)) = false := h4
      rw [size_beq] at h5
      refine ends (ret1 (aB ?_))
      rw [hq]
      simp at h5
      simp [h5]

set_option maxHeartbeats 8000000 in
theorem written_s (s : ByteArray) (hs : s.size ≤ 1000000) : Sound P N WL 28 [.lf (vS s)] [] (· = .ret (.lf (vS (strOfNums (wordL (bytesOf s))))) []) := by
  refine Sound.of mix [] Go.Proofs.Try.func28 rfl rfl ?_
  refine vcall_intro [] [] (and_i (plain_s s hs) ?_)
  rintro o rfl
  refine vif_split (fun h => ?_) (fun h => ?_)
  · refine ends (ret1 (aS ?_))
    unfold wordL
    rw [if_pos h, ← nums_eq]
    exact (strOf_bytesOf s).symm
  · have hw : wordL (bytesOf s) = 34 :: (escs (bytesOf s) ++ [34]) := by unfold wordL; rw [if_neg (by simp [h])]
    rw [hw]
    refine vloop_i [0, 3, 4] [] (fun n r m => ∃ (i : Nat) (acc : List Int), i + n = s.size ∧ acc.length ≤ 1 + 2 * i ∧ 34 :: escs (bytesOf s) = acc ++ escs ((bytesOf s).drop i) ∧
      r = regs 45 [(0, .lf (vS s)), (3, .lf (.al (.sl 3) (.int .u8) acc)), (4, .lf (vI i))] ∧ m = []) ⟨s.size, 0, [34], by omega, by simp, by simp, rfl, rfl⟩ ?_
    rintro n r m ⟨i, acc, hn, hl, hq, rfl, rfl⟩
    refine vif_split (fun h3 => ?_) (fun h3 => ?_) <;> (try rw [h3])
    · have hlt : i < s.size := by have := h3; simp at this; omega
      have hk1 : IntKind.i64.wrap ((i : Int) + 1) = ((i + 1 : Nat) : Int) := by rw [wrap_in (by omega) (by omega)]; omega
      rw [drop_cons s i hlt, escs_cons] at hq
      refine vand_i (by omega) (fun _ => ?_)
      have fin : ∀ (e : List Int), esc (bt s i) = e → e.length ≤ 2 → ∃ n', n' < n ∧ ∃ (i' : Nat) (acc' : List Int), i' + n' = s.size ∧ acc'.length ≤ 1 + 2 * i' ∧ 34 :: escs (bytesOf s) = acc' ++ escs ((bytesOf s).drop i') ∧
          regs 45 [(0, .lf (vS s)), (3, .lf (.al (.sl 3) (.int .u8) (acc ++ e))), (4, .lf (vI (IntKind.i64.wrap ((i : Int) + 1))))] = regs 45 [(0, .lf (vS s)), (3, .lf (.al (.sl 3) (.int .u8) acc')), (4, .lf (vI i'))] ∧ ([] : Mem) = [] := fun e he hle =>
        ⟨n - 1, by omega, i + 1, acc ++ e, by omega, by simp; omega, by rw [hq, he]; simp, by rw [hk1], rfl⟩
      refine vif_split (fun h4 => ?_) (fun h4 => ?_) <;> (try rw [h4])
      · have h4 : bt s i = 34 := by simpa using (show (bt s i == 34) = true from h4)
        refine vand_i (fits_i (n := acc.length + 2) 1 rfl ⟨by omega, by omega⟩) (fun _ => ?_)
        exact fin [92, bt s i] (by simp [esc, h4]) (by simp)
      refine vif_split (fun h5 => ?_) (fun h5 => ?_) <;> (try rw [h5])
      · have h5 : bt s i = 92 := by simpa using (show (bt s i == 92) = true from h5)
        refine vand_i (fits_i (n := acc.length + 2) 1 rfl ⟨by omega, by omega⟩) (fun _ => ?_)
        exact fin [92, bt s i] (by simp [esc, h5]) (by simp)
      have h4 : bt s i ≠ 34 := by simpa using (show (bt s i == 34) = false from h4)
      have h5 : bt s i ≠ 92 := by simpa using (show (bt s i == 92) = false from h5)
      refine vif_split (fun h6 => ?_) (fun h6 => ?_) <;> (try rw [h6])
      · have h6 : bt s i = 10 := by simpa using (show (bt s i == 10) = true from h6)
        refine vand_i (fits_i (n := acc.length + 2) 1 rfl ⟨by omega, by omega⟩) (fun _ => ?_)
        exact fin [92, 110] (by simp [esc, h6]) (by simp)
      have h6 : bt s i ≠ 10 := by simpa using (show (bt s i == 10) = false from h6)
      refine vif_split (fun h7 => ?_) (fun h7 => ?_) <;> (try rw [h7])
      · have h7 : bt s i = 13 := by simpa using (show (bt s i == 13) = true from h7)
        refine vand_i (fits_i (n := acc.length + 2) 1 rfl ⟨by omega, by omega⟩) (fun _ => ?_)
        exact fin [92, 114] (by simp [esc, h7]) (by simp)
      have h7 : bt s i ≠ 13 := by simpa using (show (bt s i == 13) = false from h7)
      refine vand_i (fits_i (n := acc.length + 1) 1 rfl ⟨by omega, by omega⟩) (fun _ => ?_)
      exact fin [bt s i] (by simp [esc, h4, h5, h6, h7]) (by simp)
    · have hge : s.size ≤ i := by have := h3; simp at this; omega
      rw [drop_end s i hge, escs_nil, List.append_nil] at hq
      refine vand_i (fits_i (n := acc.length + 1) 1 rfl ⟨by omega, by omega⟩) (fun _ => ?_)
      refine ends (ret1 (aS ?_))
      show strOfNums ((acc : List Int) ++ ([34] : List Int)) = _
      rw [← hq]
      rfl

end Go.Proofs.Ytimhjbihhchieaa.Q
