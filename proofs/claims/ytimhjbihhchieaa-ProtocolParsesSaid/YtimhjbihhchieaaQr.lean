/- Words of kinds, equal rows of bytes over V. Conditions: as each states. -/
import Derived.Test.YtimhjbihhchieaaQp
namespace Go.Proofs.Ytimhjbihhchieaa.Q
open Go Go.V
set_option linter.unusedVariables false
set_option linter.unusedSimpArgs false
set_option maxRecDepth 100000
variable {N : Nat} {WL : World}

def kindWords : List ByteArray := [⟨#[]⟩, ⟨#[111, 112, 101, 110]⟩, ⟨#[99, 108, 111, 115, 101]⟩, ⟨#[115, 116, 97, 114, 116]⟩, ⟨#[112, 97, 117, 115, 101]⟩, ⟨#[100, 114, 97, 105, 110]⟩, ⟨#[118, 111, 108, 117, 109, 101]⟩, ⟨#[109, 117, 116, 101]⟩, ⟨#[119, 114, 105, 116, 101]⟩, ⟨#[114, 101, 97, 100]⟩, ⟨#[109, 111, 118, 101]⟩, ⟨#[114, 117, 108, 101, 115]⟩, ⟨#[108, 105, 115, 116]⟩]
def wordR (k : Int) : ByteArray := kindWords.getD k.toNat ByteArray.empty

theorem word35_s (k : Int) (h0 : 0 ≤ k) (h1 : k ≤ 12) : Sound P N WL 29 [.lf (vI k)] [] (· = .ret (.lf (vS (wordR k))) []) := by
  refine Sound.of mix [] Go.Proofs.Try.func29 rfl rfl ?_
  refine vand_i (show (0 : Int) ≤ k ∧ k < (13 : Int) by omega) (fun _ => ?_)
  refine ends (ret1 (aS ?_))
  rfl

def eqL : List Int → List Int → Bool
  | [], [] => true
  | x :: a, y :: b => (x == y) && eqL a b
  | _, _ => false
theorem eqL_iff : ∀ {a b : List Int}, eqL a b = true ↔ a = b
  | [], [] => by simp [eqL]
  | x :: a, y :: b => by simp [eqL, eqL_iff]
  | [], _ :: _ => by simp [eqL]
  | _ :: _, [] => by simp [eqL]
theorem eqL_len {a b : List Int} (h : a.length ≠ b.length) : eqL a b = false := by
  cases e : eqL a b with
  | false => rfl
  | true => exact absurd (congrArg List.length (eqL_iff.1 e)) h
theorem drop_getI {a : List Int} {i : Nat} (h : i < a.length) : a.drop i = a.getD i 0 :: a.drop (i + 1) := by
  rw [List.drop_eq_getElem_cons h]
  simp [List.getD, h]

set_option maxHeartbeats 4000000 in
theorem equal_s (a b : List Int) (ha : a.length ≤ 1000000) : Sound P N WL 48 [.lf (vBs a), .lf (vBs b)] [] (· = .ret (.lf (vB (eqL a b))) []) := by
  refine Sound.of mix [] Go.Proofs.Try.func48 rfl rfl ?_
  refine vif_split (fun h => ?_) (fun h => ?_) <;> (try rw [h])
  · refine ends (ret1 (aB ?_))
    rw [eqL_len (by have h : ((a.length : Int) != (b.length : Int)) = true := h; simp at h; omega)]
  have hl : a.length = b.length := by have h : ((a.length : Int) != (b.length : Int)) = false := h; simp at h; omega
  refine vloop_i [0, 1, 12, 13] [] (fun n r m => ∃ i : Nat, i + n = a.length ∧ eqL a b = eqL (a.drop i) (b.drop i) ∧
    r = regs 26 [(0, .lf (vBs a)), (1, .lf (vBs b)), (12, .lf (vI a.length)), (13, .lf (vI i))] ∧ m = []) ⟨a.length, 0, by omega, rfl, rfl, rfl⟩ ?_
  rintro n r m ⟨i, hn, hs, rfl, rfl⟩
  refine vif_split (fun h3 => ?_) (fun h3 => ?_) <;> (try rw [h3])
  · have hlt : i < a.length := by have := h3; simp at this; omega
    refine draw_i true [] [(0, 1), (1, 1), (2, 1), (3, 1), (4, 1), (5, 1), (6, 1), (7, 1), (8, 1)] (by decide +kernel) ?_
    refine vand_i (show (0 : Int) ≤ (i : Int) ∧ (i : Int) < (a.length : Int) by omega) (fun _ => ?_)
    refine vand_i (show (0 : Int) ≤ (i : Int) ∧ (i : Int) < (b.length : Int) by omega) (fun _ => ?_)
    rw [drop_getI hlt, drop_getI (by omega : i < b.length)] at hs
    refine vif_split (fun h4 => ?_) (fun h4 => ?_) <;> (try rw [h4])
    · have h4 : (a.getD i 0 != b.getD i 0) = true := h4
      refine ends (ret1 (aB ?_))
      rw [hs]
      simp only [eqL]
      rw [beq_eq_false_iff_ne.2 (bne_iff_ne.1 h4)]
      rfl
    · have h4 : (a.getD i 0 != b.getD i 0) = false := h4
      have hk1 : IntKind.i64.wrap ((i : Int) + 1) = ((i + 1 : Nat) : Int) := by rw [wrap_in (by omega) (by omega)]; omega
      refine next_i (n - 1) (by omega) ⟨i + 1, by omega, ?_, congrArg (fun x => regs 26 [(0, .lf (vBs a)), (1, .lf (vBs b)), (12, .lf (vI a.length)), (13, .lf (vI x))]) hk1, rfl⟩
      rw [hs]
      simp only [eqL]
      rw [beq_iff_eq.2 (bne_eq_false_iff_eq.1 h4), Bool.true_and]
  · have hge : a.length ≤ i := by have := h3; simp at this; omega
    refine ends (ret1 (aB ?_))
    rw [hs, List.drop_eq_nil_of_le hge, List.drop_eq_nil_of_le (by omega)]
    rfl

end Go.Proofs.Ytimhjbihhchieaa.Q
