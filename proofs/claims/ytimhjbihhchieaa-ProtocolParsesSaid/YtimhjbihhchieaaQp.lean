/- The reference's clean over V. Conditions: as each states. -/
import Derived.Test.YtimhjbihhchieaaQo
namespace Go.Proofs.Ytimhjbihhchieaa.Q
open Go Go.V
set_option linter.unusedVariables false
set_option linter.unusedSimpArgs false
set_option maxRecDepth 100000
variable {N : Nat} {WL : World}

def cleanR (r : Req) : Req where
  kind := r.kind
  id := if r.kind ≠ 11 ∧ r.kind ≠ 12 then r.id else 0
  role := if r.kind = 1 then r.role else ⟨#[]⟩
  dir := if r.kind = 1 then r.dir else 0
  ch := if r.kind = 1 then r.ch else 0
  rate := if r.kind = 1 then r.rate else 0
  lat := if r.kind = 1 then r.lat else 0
  n := if r.kind = 6 ∨ r.kind = 7 ∨ r.kind = 9 then r.n else 0
  dev := if r.kind = 10 then r.dev else 0
  data := if r.kind = 8 then r.data else []
  text := if r.kind = 11 then r.text else ⟨#[]⟩

set_option maxHeartbeats 8000000 in
theorem clean_s (r q : Req) (hq : cleanR r = q) : Sound P N WL 26 [.lf r.v] [] (· = .ret (.lf q.v) []) := by
  obtain ⟨kind, id, role, dir, ch, rate, lat, n, dev, data, text⟩ := r
  refine Sound.of mix [] Go.Proofs.Try.func26 rfl rfl ?_
  repeat' first
    | (refine vif_split (fun h => ?_) (fun h => ?_) <;> (try rw [h]) <;> (try simp only [beq_iff_eq, beq_eq_false_iff_ne, bne_iff_ne, bne_eq_false_iff_eq, ne_eq] at h))
    | refine draw_i true [1] [(0, 1), (1, 1), (10, 1), (2, 2), (3, 2), (4, 2), (5, 2), (6, 2), (7, 2), (8, 2), (9, 2), (11, 0), (12, 1), (13, 0), (14, 1), (15, 0), (16, 1), (17, 0), (18, 1), (19, 0)] (by decide +kernel) ?_
  all_goals first
    | (exfalso; omega)
    | (refine ends ?_
       subst hq
       simp [cleanR, Req.v, ofResults, *] <;> rfl)

end Go.Proofs.Ytimhjbihhchieaa.Q
