/- A list of words is the same as itself. Conditions: as each states. -/
import Derived.Test.YtlbmnajmjaalfaaDoorUA
import Derived.Test.YtlbmnajmjaalfaaDoorPx
namespace Go.Proofs.YtlbmnajmjaalfaaDoor.U
set_option linter.unusedSimpArgs false
set_option linter.unusedVariables false
open Go.RowKit Go.Proofs.YtlbmnajmjaalfaaDoor.P Go.Proofs.YtlbmnajmjaalfaaDoorW.PrintWords Go.Proofs.YtlbmnajmjaalfaaDoorW.PrintLast Go.Proofs.YtlbmnajmjaalfaaDoorW.PrintMore Go.Proofs.YtlbmnajmjaalfaaDoorW.Mine

/-- A list of words is equal to itself. -/
theorem same_l0 (l : List ByteArray) (hl : l.length ≤ 4611686018427387904) : ∀ (d i : Nat), i + d = l.length → Ev (fun k => soundserviceref02_Same.l0 k l l (l.length : Int) i) true := by
  intro d
  induction d with
  | zero =>
    intro i hi
    refine Ev.mk 1 (fun k hk => ?_)
    obtain ⟨k, rfl⟩ : ∃ m, k = m + 1 := ⟨k - 1, by omega⟩
    simp only [soundserviceref02_Same.l0]
    rw [if_neg (by omega)]
  | succ d ih =>
    intro i hi
    obtain ⟨K, hK⟩ := ih (i + 1) (by omega)
    dsimp only at hK
    refine Ev.mk (K + 1) (fun k hk => ?_)
    obtain ⟨k, rfl⟩ : ∃ m, k = m + 1 := ⟨k - 1, by omega⟩
    simp only [soundserviceref02_Same.l0]
    rw [if_pos (by omega), if_pos (by omega), if_pos (by omega), if_pos (by omega), if_pos trivial, wrap_succ i (by omega)]
    exact hK k (by omega)
theorem same_refl (l : List ByteArray) (hl : l.length ≤ 4611686018427387904) : Ev (fun k => soundserviceref02_Same.f k l l) true := by
  obtain ⟨K, hK⟩ := same_l0 l hl l.length 0 (by omega)
  dsimp only at hK
  refine Ev.mk K (fun k hk => ?_)
  unfold soundserviceref02_Same.f
  rw [if_pos rfl]
  exact hK k hk
end Go.Proofs.YtlbmnajmjaalfaaDoor.U
