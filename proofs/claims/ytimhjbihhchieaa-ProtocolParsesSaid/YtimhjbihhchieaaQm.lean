/- The reference's Join over V. Conditions: as each states. -/
import Derived.Test.YtimhjbihhchieaaQl
namespace Go.Proofs.Ytimhjbihhchieaa.Q
open Go Go.V
set_option linter.unusedVariables false
set_option linter.unusedSimpArgs false
set_option maxRecDepth 100000
variable {N : Nat} {WL : World}

def jl (first : Bool) : List ByteArray → List Int
  | [] => []
  | w :: ws => (if first = true then [] else [32]) ++ wordL (bytesOf w) ++ jl false ws
theorem jl_true : ∀ l : List ByteArray, jl true l = jline l
  | [] => rfl
  | [w] => by simp [jl, jline, Bts, wlineL]
  | w :: x :: ws => by
    have := jl_true (x :: ws)
    simp only [jl, if_true, List.nil_append] at this ⊢
    simp only [jline, Bts, List.map_cons, wlineL] at this ⊢
    simp [← this]

set_option maxHeartbeats 8000000 in
theorem join02_s (l : List ByteArray) (hsz : ∀ w ∈ l, w.size ≤ 1000000) {w : ByteArray} {e : Int} (hp : joinP l = (w, e)) : Sound P N WL 13 [.lf (vSs l)] [] (· = .ret (.tup [vS w, vI e]) []) := by
  refine Sound.of mix [] Go.Proofs.Try.func13 rfl rfl ?_
  rw [joinP_eq] at hp
  refine vif_split (fun h => ?_) (fun h => ?_) <;> (try rw [h])
  · have h : decide ((l.length : Int) > 64) = true := h
    have h := of_decide_eq_true h
    rw [if_pos (.inl (by omega))] at hp
    refine ends ?_
    cases hp
    exact Eq.refl _
  have h : decide ((l.length : Int) > 64) = false := h
  have hl := of_decide_eq_false h
  have hp0 : (if 4096 < (([] : List Int) ++ jl true l).length then ((⟨#[]⟩ : ByteArray), (3 : Int)) else (strOfNums (([] : List Int) ++ jl true l), 0)) = (w, e) := by
    rw [jl_true, List.nil_append, ← hp]
    by_cases h4 : 4096 < (jline l).length
    · rw [if_pos h4, if_pos (.inr h4)]
    · rw [if_neg h4, if_neg (by omega)]
  refine vloop_i [4, 10, 11, 12] [] (fun n r m => ∃ (i : Nat) (acc : List Int), i + n = l.length ∧ acc.length ≤ 4096 ∧ (if 4096 < (acc ++ jl (i == 0) (l.drop i)).length then ((⟨#[]⟩ : ByteArray), (3 : Int)) else (strOfNums (acc ++ jl (i == 0) (l.drop i)), 0)) = (w, e) ∧
    r = regs 30 [(4, .lf (vS (strOfNums acc))), (10, .lf (vSs l)), (11, .lf (vI l.length)), (12, .lf (vI i))] ∧ m = []) ⟨l.length, 0, [], by omega, by simp, hp0, rfl, rfl⟩ ?_
  rintro n r m ⟨i, acc, hn, hacc, hq, rfl, rfl⟩
  refine vif_split (fun h3 => ?_) (fun h3 => ?_) <;> (try rw [h3])
  · have hlt : i < l.length := by have := h3; simp at this; omega
    have hk1 : IntKind.i64.wrap ((i : Int) + 1) = ((i + 1 : Nat) : Int) := by rw [wrap_in (by omega) (by omega)]; omega
    have hsi : (l.getD i ByteArray.empty).size ≤ 1000000 := by
      have : l.getD i ByteArray.empty = l[i] := by simp [List.getD, hlt]
      rw [this]
      exact hsz _ (List.getElem_mem hlt)
    have hwl := wordL_len (bytesOf (l.getD i ByteArray.empty))
    rw [bytesOf_length] at hwl
    rw [drop_getD hlt ByteArray.empty] at hq
    refine vand_i (show (0 : Int) ≤ (i : Int) ∧ (i : Int) < (l.length : Int) by omega) (fun _ => ?_)
    refine vif_split (fun h4 => ?_) (fun h4 => ?_) <;> (try rw [h4])
    · have hi0 : i ≠ 0 := by have := h4; simp at this; omega
      refine vand_i (show (strOfNums acc).size + 1 ≤ 9223372036854775807 by rw [strOf_size]; omega) (fun _ => ?_)
      rw [app_space]
      refine vcall_intro [] [] (and_i (written_s (l.getD i ByteArray.empty) hsi) ?_)
      rintro o rfl
      refine vand_i (show (strOfNums (acc ++ [32])).size + (strOfNums (wordL (bytesOf (l.getD i ByteArray.empty)))).size ≤ 9223372036854775807 by rw [strOf_size, strOf_size]; first | omega | (simp only [List.length_append, List.length_cons, List.length_nil]; omega)) (fun _ => ?_)
      rw [strOf_append]
      have hq2 : (if 4096 < (((acc ++ [32]) ++ wordL (bytesOf (l.getD i ByteArray.empty))) ++ jl false (l.drop (i + 1))).length then ((⟨#[]⟩ : ByteArray), (3 : Int)) else (strOfNums (((acc ++ [32]) ++ wordL (bytesOf (l.getD i ByteArray.empty))) ++ jl false (l.drop (i + 1))), 0)) = (w, e) := by
        rw [← hq]
        simp [jl, hi0]
      refine vif_split (fun h5 => ?_) (fun h5 => ?_) <;> (try rw [h5])
      · have h6 : decide (((strOfNums ((acc ++ [32]) ++ wordL (bytesOf (l.getD i ByteArray.empty)))).size : Int) > 4096) = true := h5
        rw [strOf_size] at h6
        have h6 := of_decide_eq_true h6
        rw [if_pos (by rw [List.length_append]; omega)] at hq2
        refine ends ?_
        cases hq2
        exact Eq.refl _
      · have h6 : decide (((strOfNums ((acc ++ [32]) ++ wordL (bytesOf (l.getD i ByteArray.empty)))).size : Int) > 4096) = false := h5
        rw [strOf_size] at h6
        have h6 := of_decide_eq_false h6
        exact next_i (n - 1) (by omega) ⟨i + 1, (acc ++ [32]) ++ wordL (bytesOf (l.getD i ByteArray.empty)), by omega, by omega, hq2,
          congrArg (fun y => regs 30 [(4, .lf (vS (strOfNums ((acc ++ [32]) ++ wordL (bytesOf (l.getD i ByteArray.empty)))))), (10, .lf (vSs l)), (11, .lf (vI l.length)), (12, .lf (vI y))]) hk1, rfl⟩
    · have hi0 : i = 0 := by have := h4; simp at this; omega
      refine vcall_intro [] [] (and_i (written_s (l.getD i ByteArray.empty) hsi) ?_)
      rintro o rfl
      refine vand_i (show (strOfNums acc).size + (strOfNums (wordL (bytesOf (l.getD i ByteArray.empty)))).size ≤ 9223372036854775807 by rw [strOf_size, strOf_size]; first | omega | (simp only [List.length_append, List.length_cons, List.length_nil]; omega)) (fun _ => ?_)
      rw [strOf_append]
      have hq2 : (if 4096 < ((acc ++ wordL (bytesOf (l.getD i ByteArray.empty))) ++ jl false (l.drop (i + 1))).length then ((⟨#[]⟩ : ByteArray), (3 : Int)) else (strOfNums ((acc ++ wordL (bytesOf (l.getD i ByteArray.empty))) ++ jl false (l.drop (i + 1))), 0)) = (w, e) := by
        rw [← hq]
        simp [jl, hi0]
      refine vif_split (fun h5 => ?_) (fun h5 => ?_) <;> (try rw [h5])
      · have h6 : decide (((strOfNums (acc ++ wordL (bytesOf (l.getD i ByteArray.empty)))).size : Int) > 4096) = true := h5
        rw [strOf_size] at h6
        have h6 := of_decide_eq_true h6
        rw [if_pos (by rw [List.length_append]; omega)] at hq2
        refine ends ?_
        cases hq2
        exact Eq.refl _
      · have h6 : decide (((strOfNums (acc ++ wordL (bytesOf (l.getD i ByteArray.empty)))).size : Int) > 4096) = false := h5
        rw [strOf_size] at h6
        have h6 := of_decide_eq_false h6
        exact next_i (n - 1) (by omega) ⟨i + 1, acc ++ wordL (bytesOf (l.getD i ByteArray.empty)), by omega, by omega, hq2,
          congrArg (fun y => regs 30 [(4, .lf (vS (strOfNums (acc ++ wordL (bytesOf (l.getD i ByteArray.empty)))))), (10, .lf (vSs l)), (11, .lf (vI l.length)), (12, .lf (vI y))]) hk1, rfl⟩
  · have hge : l.length ≤ i := by have := h3; simp at this; omega
    rw [List.drop_eq_nil_of_le hge] at hq
    simp only [jl, List.append_nil] at hq
    rw [if_neg (by omega)] at hq
    refine ends ?_
    cases hq
    exact Eq.refl _

end Go.Proofs.Ytimhjbihhchieaa.Q
