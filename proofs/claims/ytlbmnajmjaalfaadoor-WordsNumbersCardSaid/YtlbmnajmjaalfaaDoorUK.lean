/- Few and short words; a line that fits. Conditions: as each states. -/
import Derived.Test.YtlbmnajmjaalfaaDoorUO
namespace Go.Proofs.YtlbmnajmjaalfaaDoor.U
set_option linter.unusedSimpArgs false
set_option linter.unusedVariables false
open Go.RowKit Go.Proofs.YtlbmnajmjaalfaaDoor.P Go.Proofs.YtlbmnajmjaalfaaDoorW.PrintWords Go.Proofs.YtlbmnajmjaalfaaDoorW.PrintLast Go.Proofs.YtlbmnajmjaalfaaDoorW.PrintMore Go.Proofs.YtlbmnajmjaalfaaDoorW.Mine

theorem joinP_ok (l : List ByteArray) (h1 : l.length ≤ 64) (h2 : (jline l).length ≤ 4096) : joinP l = (strOfNums (jline l), 0) := by
  rw [joinP_eq, if_neg (by omega)]

def keptB (l : List ByteArray) : Bool := decide (l.length ≤ 70) && l.all fun w => decide (w.size ≤ 200)
theorem kept_l0 (l : List ByteArray) (hl : l.length ≤ 70) : ∀ (d i : Nat), i + d = l.length → Ev (fun k => soundservicelaw02_kept.l0 k l (l.length : Int) i) ((l.drop i).all fun w => decide (w.size ≤ 200)) := by
  intro d
  induction d with
  | zero =>
    intro i hi
    refine Ev.mk 1 (fun k hk => ?_)
    obtain ⟨k, rfl⟩ : ∃ m, k = m + 1 := ⟨k - 1, by omega⟩
    simp only [soundservicelaw02_kept.l0]
    rw [if_neg (by omega), List.drop_eq_nil_of_le (by omega)]
    rfl
  | succ d ih =>
    intro i hi
    have hlt : i < l.length := by omega
    rw [List.drop_eq_getElem_cons hlt]
    obtain ⟨K, hK⟩ := ih (i + 1) (by omega)
    dsimp only at hK
    refine Ev.mk (K + 1) (fun k hk => ?_)
    obtain ⟨k, rfl⟩ : ∃ m, k = m + 1 := ⟨k - 1, by omega⟩
    simp only [soundservicelaw02_kept.l0]
    rw [if_pos (by omega), if_pos (by omega), if_pos (by omega), rdOf_nat l i hlt]
    by_cases h : 200 < (l[i]).size
    · rw [if_pos (by omega), List.all_cons, decide_eq_false (by omega)]; rfl
    · rw [if_neg (by omega), List.all_cons, decide_eq_true (by omega), wrap_succ i (by omega), hK k (by omega)]; rfl
theorem kept_f (l : List ByteArray) : Ev (fun k => soundservicelaw02_kept.f k l) (keptB l) := by
  by_cases h : 70 < l.length
  · refine Ev.mk 0 (fun k _ => ?_)
    unfold soundservicelaw02_kept.f keptB
    rw [if_pos (by omega), decide_eq_false (by omega)]
    rfl
  · obtain ⟨K, hK⟩ := kept_l0 l (by omega) l.length 0 (by omega)
    dsimp only at hK
    refine Ev.mk K (fun k hk => ?_)
    unfold soundservicelaw02_kept.f keptB
    rw [if_neg (by omega), decide_eq_true (by omega)]
    have := hK k hk
    rw [Int.natCast_zero] at this
    rw [this]
    rfl
end Go.Proofs.YtlbmnajmjaalfaaDoor.U
