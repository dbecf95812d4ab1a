/- The reference's Same, Plain, written, Join over V. Conditions: as each states. -/
import Derived.Test.YtimhjbihhchieaaQf
namespace Go.Proofs.Ytimhjbihhchieaa.Q
open Go Go.V
set_option linter.unusedVariables false
set_option linter.unusedSimpArgs false
set_option maxRecDepth 100000
variable {N : Nat} {WL : World}

def sameL : List ByteArray → List ByteArray → Bool
  | [], [] => true
  | x :: a, y :: b => (x.toList == y.toList) && sameL a b
  | _, _ => false
theorem sameL_iff : ∀ {a b : List ByteArray}, sameL a b = true ↔ a = b
  | [], [] => by simp [sameL]
  | x :: a, y :: b => by
    simp only [sameL, Bool.and_eq_true, beq_iff_eq, toList_inj, sameL_iff, List.cons.injEq]
  | [], _ :: _ => by simp [sameL]
  | _ :: _, [] => by simp [sameL]
theorem sameL_len : ∀ {a b : List ByteArray}, a.length ≠ b.length → sameL a b = false := fun {a b} h => by
  cases e : sameL a b with
  | false => rfl
  | true => exact absurd (congrArg List.length (sameL_iff.1 e)) h
theorem drop_getD {a : List ByteArray} {i : Nat} (h : i < a.length) (d : ByteArray) : a.drop i = a.getD i d :: a.drop (i + 1) := by
  rw [List.drop_eq_getElem_cons h]
  simp [List.getD, h]

set_option maxHeartbeats 4000000 in
theorem same_s (a b : List ByteArray) (ha : a.length ≤ 1000000) : Sound P N WL 24 [.lf (vSs a), .lf (vSs b)] [] (· = .ret (.lf (vB (sameL a b))) []) := by
  refine Sound.of mix [] Go.Proofs.Try.func24 rfl rfl ?_
  refine vif_split (fun h => ?_) (fun h => ?_) <;> (try rw [h])
  · refine ends (ret1 (aB ?_))
    rw [sameL_len (by have h : ((a.length : Int) != (b.length : Int)) = true := h; simp at h; omega)]
  have hl : a.length = b.length := by have h : ((a.length : Int) != (b.length : Int)) = false := h; simp at h; omega
  refine vloop_i [0, 1, 12, 13] [] (fun n r m => ∃ i : Nat, i + n = a.length ∧ sameL a b = sameL (a.drop i) (b.drop i) ∧
    r = regs 26 [(0, .lf (vSs a)), (1, .lf (vSs b)), (12, .lf (vI a.length)), (13, .lf (vI i))] ∧ m = []) ⟨a.length, 0, by omega, rfl, rfl, rfl⟩ ?_
  rintro n r m ⟨i, hn, hs, rfl, rfl⟩
  refine vif_split (fun h3 => ?_) (fun h3 => ?_) <;> (try rw [h3])
  · have hlt : i < a.length := by have := h3; simp at this; omega
    refine draw_i true [] [(0, 1), (1, 1), (2, 1), (3, 1), (4, 1), (5, 1), (6, 1), (7, 1), (8, 1)] (by decide +kernel) ?_
    refine vand_i (show (0 : Int) ≤ (i : Int) ∧ (i : Int) < (a.length : Int) by omega) (fun _ => ?_)
    refine vand_i (show (0 : Int) ≤ (i : Int) ∧ (i : Int) < (b.length : Int) by omega) (fun _ => ?_)
    rw [drop_getD hlt ByteArray.empty, drop_getD (by omega : i < b.length) ByteArray.empty] at hs
    refine vif_split (fun h4 => ?_) (fun h4 => ?_) <;> (try rw [h4])
    · have h4 : (!((a.getD i ByteArray.empty).toList == (b.getD i ByteArray.empty).toList)) = true := h4
      refine ends (ret1 (aB ?_))
      rw [hs]
      simp only [sameL]
      rw [Bool.not_eq_true'] at h4
      rw [h4]
      rfl
    · have h4 : (!((a.getD i ByteArray.empty).toList == (b.getD i ByteArray.empty).toList)) = false := h4
      have hk1 : IntKind.i64.wrap ((i : Int) + 1) = ((i + 1 : Nat) : Int) := by rw [wrap_in (by omega) (by omega)]; omega
      refine next_i (n - 1) (by omega) ⟨i + 1, by omega, ?_, congrArg (fun x => regs 26 [(0, .lf (vSs a)), (1, .lf (vSs b)), (12, .lf (vI a.length)), (13, .lf (vI x))]) hk1, rfl⟩
      rw [hs]
      simp only [sameL]
      rw [Bool.not_eq_false'] at h4
      rw [h4, Bool.true_and]
  · have hge : a.length ≤ i := by have := h3; simp at this; omega
    refine ends (ret1 (aB ?_))
    rw [hs, List.drop_eq_nil_of_le hge, List.drop_eq_nil_of_le (by omega)]
    rfl

set_option maxHeartbeats 4000000 in
theorem plain_s (s : ByteArray) (hs : s.size ≤ 1000000) : Sound P N WL 43 [.lf (vS s)] [] (· = .ret (.lf (vB (bareL (bytesOf s)))) []) := by
  refine Sound.of mix [] Go.Proofs.Try.func43 rfl rfl ?_
  have he : (bytesOf s).isEmpty = decide (s.size = 0) := by
    by_cases h : s.size = 0
    · rw [(bytesOf_nil_iff s).2 h]; simp [h]
    · have : bytesOf s ≠ [] := fun e => h ((bytesOf_nil_iff s).1 e)
      simp [h, this]
  refine vloop_i [0, 3] [] (fun n r m => ∃ i : Nat, i + n = s.size ∧ (bytesOf s).all wsimple = ((bytesOf s).drop i).all wsimple ∧ r = regs 17 [(0, .lf (vS s)), (3, .lf (vI i))] ∧ m = []) ⟨s.size, 0, by omega, rfl, rfl, rfl⟩ ?_
  rintro n r m ⟨i, hn, ha, rfl, rfl⟩
  refine vif_split (fun h3 => ?_) (fun h3 => ?_) <;> (try rw [h3])
  · have hlt : i < s.size := by have := h3; simp at this; omega
    rw [drop_cons s i hlt, List.all_cons] at ha
    refine vand_i (by omega) (fun _ => ?_)
    refine vcall_intro [] [] (and_i (plainByte_s (bt s i)) ?_)
    rintro o rfl
    refine vif_split (fun h4 => ?_) (fun h4 => ?_)
    · refine ends (ret1 (aB ?_))
      unfold bareL
      rw [ha]
      rw [Bool.not_eq_true'] at h4
      rw [h4]
      rfl
    · rw [Bool.not_eq_false'] at h4
      rw [h4, Bool.true_and] at ha
      have hk1 : IntKind.i64.wrap ((i : Int) + 1) = ((i + 1 : Nat) : Int) := by rw [wrap_in (by omega) (by omega)]; omega
      exact next_i (n - 1) (by omega) ⟨i + 1, by omega, ha, congrArg (fun x => regs 17 [(0, .lf (vS s)), (3, .lf (vI x))]) hk1, rfl⟩
  · have hge : s.size ≤ i := by have := h3; simp at this; omega
    refine ends (ret1 (aB ?_))
    unfold bareL
    rw [ha, drop_end s i hge, he]
    show (!(ByteArray.toList s == ByteArray.toList ⟨#[]⟩)) = _
    rw [size_beq]
    rfl

end Go.Proofs.Ytimhjbihhchieaa.Q
