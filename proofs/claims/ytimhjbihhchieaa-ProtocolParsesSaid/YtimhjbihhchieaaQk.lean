/- Names over V. Conditions: as each states. -/
import Derived.Test.YtimhjbihhchieaaQj
namespace Go.Proofs.Ytimhjbihhchieaa.Q
open Go Go.V
set_option linter.unusedVariables false
set_option linter.unusedSimpArgs false
set_option maxRecDepth 100000
variable {N : Nat} {WL : World}

theorem letter_s (c : Int) : Sound P N WL 52 [.lf (v8 c)] [] (· = .ret (.lf (vB (decide ((97 ≤ c ∧ c ≤ 122) ∨ (65 ≤ c ∧ c ≤ 90))))) []) := by
  refine Sound.of mix [] Go.Proofs.Try.func52 rfl rfl ?_
  repeat' (refine vif_split (fun h => ?_) (fun h => ?_) <;> (try rw [h]))
  all_goals (refine ends (ret1 (aB ?_)); simp_all <;> omega)

theorem name_end (s : ByteArray) : (!(bytesOf s).isEmpty && decide ((bytesOf s).length ≤ 64)) = (decide (s.size ≠ 0) && decide (s.size ≤ 64)) := by
  rw [bytesOf_length]
  by_cases h : s.size = 0
  · rw [(bytesOf_nil_iff s).2 h]; simp [h]
  · have : bytesOf s ≠ [] := fun e => h ((bytesOf_nil_iff s).1 e)
    simp [h, this]

set_option maxHeartbeats 8000000 in
theorem name_s (s : ByteArray) (hs : s.size ≤ 1000000) : Sound P N WL 47 [.lf (vS s)] [] (· = .ret (.lf (vB (nameP s))) []) := by
  refine Sound.of mix [] Go.Proofs.Try.func47 rfl rfl ?_
  refine vloop_i [0, 8, 9] [] (fun n r m => ∃ i : Nat, i + n = s.size ∧ nameP s = (namesFrom ((bytesOf s).drop i) i && (!(bytesOf s).isEmpty && decide ((bytesOf s).length ≤ 64))) ∧
    r = regs 68 [(0, .lf (vS s)), (8, .lf (vI s.size)), (9, .lf (vI i))] ∧ m = []) ⟨s.size, 0, by omega, by simp [nameP, nameL, Bool.and_assoc], rfl, rfl⟩ ?_
  rintro n r m ⟨i, hn, hq, rfl, rfl⟩
  refine vif_split (fun h3 => ?_) (fun h3 => ?_) <;> (try rw [h3])
  · have hlt : i < s.size := by have := h3; simp at this; omega
    have hk1 : IntKind.i64.wrap ((i : Int) + 1) = ((i + 1 : Nat) : Int) := by rw [wrap_in (by omega) (by omega)]; omega
    rw [drop_cons s i hlt, namesFrom_cons] at hq
    have hb := bt_byte s i
    have ho := or32 (bt s i) hb
    unfold bt at hb ho hq
    refine vand_i (by omega) (fun _ => ?_)
    generalize hc : ((((ByteArray.data s).toList.getD (Int.toNat (i : Int)) 0).toNat : Nat) : Int) = c at hb ho hq ⊢
    repeat' first
      | (refine vif_split (fun h => ?_) (fun h => ?_) <;> (try rw [h]))
      | (refine vand_i (by omega) (fun _ => ?_); try rw [hc])
    all_goals first
      | (refine ends (ret1 (aB ?_))
         rw [hq]
         have : ¬ NameOk i c := by
           unfold NameOk
           simp only [decide_eq_true_eq, decide_eq_false_iff_not, beq_iff_eq, beq_eq_false_iff_ne, ne_eq, Bool.not_eq_true', Bool.not_eq_false'] at *
           split at ho <;> omega
         simp [this])
      | (refine next_i (n - 1) (by omega) ⟨i + 1, (by omega : i + 1 + (n - 1) = s.size), ?_, congrArg (fun y => regs 68 [(0, .lf (vS s)), (8, .lf (vI s.size)), (9, .lf (vI y))]) hk1, rfl⟩
         have : NameOk i c := by
           unfold NameOk
           simp only [decide_eq_true_eq, decide_eq_false_iff_not, beq_iff_eq, beq_eq_false_iff_ne, ne_eq, Bool.not_eq_true', Bool.not_eq_false'] at *
           split at ho <;> omega
         rw [hq]
         simp [this])
  · have hge : s.size ≤ i := by have := h3; simp at this; omega
    rw [drop_end s i hge, name_end] at hq
    refine vif_split (fun h4 => ?_) (fun h4 => ?_) <;> (try rw [h4])
    · have h5 : (!(s.toList == ByteArray.toList ⟨#[]⟩)) = true := h4
      rw [size_beq] at h5
      refine ends (ret1 (aB ?_))
      rw [hq]
      simp at h5
      simp [namesFrom, h5]
      omega
    · have h5 : (!(s.toList == ByteArray.toList ⟨#[]⟩)) = false := h4
      rw [size_beq] at h5
      refine ends (ret1 (aB ?_))
      rw [hq]
      simp at h5
      simp [h5]

end Go.Proofs.Ytimhjbihhchieaa.Q
