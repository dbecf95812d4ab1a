/- V: a law's call. Conditions: as each states. -/
import Derived.Test.YtimhjbihhchieaaVX
namespace Go.V
set_option linter.unusedVariables false

/-- all that lies there when the law begins stays as it is -/
def stL (W : World) : Lab := fun b => if b < W.heap.size then .st else .no

theorem stL_ok (W : World) : LabOK (stL W) W where
  dom := fun b hb => by
    unfold stL at hb
    split at hb
    · assumption
    · exact (hb rfl).elim
  rows := fun b b' w h => by unfold stL at h; split at h <;> cases h
  objs := fun b b' k h => by unfold stL at h; split at h <;> cases h

theorem stL_low (W : World) : Low W.heap.size W (stL W) W where
  below := ⟨rfl, rfl, rfl, Nat.le_refl _, fun _ _ => rfl⟩
  size := Nat.le_refl _
  lab := fun b hb => .inl (by unfold stL; rw [if_pos hb])

/-- What is shown of a law's function is what its call does. -/
theorem law_calls {P : Program} {f : FuncId} {xs : List AV} {vs : List Value} {W : World} (h : Sound P W.heap.size W f xs [] (· = .ret (.lf (.val .bool true)) [])) (hx : All2 (RepA (stL W) W) xs vs) :
    Calls P f vs.toArray W fun e W' => e = .returned (.bool true) ∧ RowKit.Below W.heap.size W W' := by
  refine (h.2 (stL W) W vs (stL_ok W) (stL_low W) hx ⟨by simp, by simp⟩).mono ?_
  rintro e W' ⟨o, B', rfl, h1, h2, h3, h4⟩
  cases e with
  | returned u =>
    obtain ⟨hu, _⟩ := h4
    exact ⟨by rw [rep_bool hu], h2.below⟩
  | panicked ch => exact h4.elim
  | outgrown => exact h4.elim

end Go.V
