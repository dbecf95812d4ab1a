/- The reference's Valid, words, Format over V. Conditions: as each states. -/
import Derived.Test.YtimhjbihhchieaaQu
namespace Go.Proofs.Ytimhjbihhchieaa.Q
open Go Go.V
set_option linter.unusedVariables false
set_option linter.unusedSimpArgs false
set_option maxRecDepth 100000
variable {N : Nat} {WL : World}

def fieldsR (r : Req) : Bool :=
  if r.kind = 1 then opensR r.role r.dir r.ch r.rate r.lat
  else if r.kind = 6 then inR r.n 0 100
  else if r.kind = 7 then inR r.n 0 1
  else if r.kind = 8 then decide ((r.data.length : Int) ≤ 1024)
  else if r.kind = 9 then inR r.n 0 65536
  else if r.kind = 10 then decide (r.dev ≤ 9007199254740992)
  else if r.kind = 11 then decide ((r.text.size : Int) ≤ 1500)
  else true
def validR (r : Req) : Bool := inR r.kind 1 12 && sameR r (cleanR r) && (r.kind == 11 || r.kind == 12 || inR r.id 1 9007199254740992) && fieldsR r

set_option maxHeartbeats 8000000 in
theorem valid35_s (r : Req) (hr : r.role.size ≤ 1000000) : Sound P N WL 12 [.lf r.v] [] (· = .ret (.lf (vB (validR r))) []) := by
  refine Sound.of mix [] Go.Proofs.Try.func12 rfl rfl ?_
  refine draw_i true [1] [(0, 1), (1, 1), (2, 0), (3, 1), (4, 1), (6, 1), (5, 2), (7, 0), (8, 0), (9, 1), (10, 1), (11, 1), (12, 1), (13, 1), (14, 1), (15, 1), (16, 1), (17, 1), (18, 1), (19, 1), (20, 1), (21, 1), (22, 1), (23, 0), (24, 1), (25, 1), (26, 1)] (by decide +kernel) ?_
  repeat' first
    | (refine vif_split (fun h => ?_) (fun h => ?_) <;> (try rw [h]) <;> (try simp only [beq_iff_eq, beq_eq_false_iff_ne, bne_iff_ne, bne_eq_false_iff_eq, ne_eq, Bool.not_eq_true', Bool.not_eq_false'] at h))
    | (refine vcall_intro [] [] (and_i ⟨rfl, in_s _ _ _⟩ ?_); rintro o rfl)
    | (refine vcall_intro [] [] (and_i (in_s _ _ _) ?_); rintro o rfl)
    | (refine vcall_intro [] [] (and_i ⟨rfl, clean_s r (cleanR r) rfl⟩ ?_); rintro o rfl)
    | (refine vcall_intro [] [] (and_i ⟨rfl, same35_s r (cleanR r)⟩ ?_); rintro o rfl)
    | (refine vcall_intro [] [] (and_i (opens_s r.role hr r.dir r.ch r.rate r.lat) ?_); rintro o rfl)
  all_goals first
    | (exfalso; omega)
    | (refine ends (ret1 (aB ?_)); simp [validR, fieldsR, *] <;> (try simp [inR]) <;> rfl)
    | (refine ends (ret1 (aB ?_)); simp [validR, fieldsR, *] <;> (try simp [inR]))

end Go.Proofs.Ytimhjbihhchieaa.Q
