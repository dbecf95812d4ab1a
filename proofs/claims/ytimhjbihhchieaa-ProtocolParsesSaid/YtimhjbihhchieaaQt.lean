/- Equal requests over V. Conditions: as each states. -/
import Derived.Test.YtimhjbihhchieaaQs
namespace Go.Proofs.Ytimhjbihhchieaa.Q
open Go Go.V
set_option linter.unusedVariables false
set_option linter.unusedSimpArgs false
set_option maxRecDepth 100000
variable {N : Nat} {WL : World}

def sameP (a b : Req) : Bool := a.kind == b.kind && a.id == b.id && a.role.toList == b.role.toList && a.dir == b.dir && a.ch == b.ch && a.rate == b.rate && a.lat == b.lat && a.n == b.n && a.dev == b.dev && eqL a.data b.data && a.text.toList == b.text.toList

set_option maxHeartbeats 4000000 in
theorem same_p (a b : Req) (hlen : a.data.length ≤ 1000000) : Sound P N WL 38 [.lf a.v, .lf b.v] [] (· = .ret (.lf (vB (sameP a b))) []) := by
  refine Sound.of mix [] Go.Proofs.Try.func38 rfl rfl ?_
  repeat' first
    | (refine vif_split (fun h => ?_) (fun h => ?_) <;> (try rw [h]))
    | (refine vcall_intro [] [] (and_i (equal_s a.data b.data hlen) ?_); rintro o rfl)
  all_goals (refine ends (ret1 (aB ?_)); unfold sameP; simp_all)

end Go.Proofs.Ytimhjbihhchieaa.Q
