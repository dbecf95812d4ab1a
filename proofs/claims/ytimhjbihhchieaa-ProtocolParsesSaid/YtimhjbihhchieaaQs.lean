/- The table of forms over V. Conditions: as each states. -/
import Derived.Test.YtimhjbihhchieaaQr
namespace Go.Proofs.Ytimhjbihhchieaa.Q
open Go Go.V
set_option linter.unusedVariables false
set_option linter.unusedSimpArgs false
set_option maxRecDepth 100000
variable {N : Nat} {WL : World}

abbrev formT : Ty := .cons (.int .i64) (.cons .str (.cons .str .nil))
/-- kind, word, letters of the fields -/
def formsL : List (Int × ByteArray × ByteArray × Unit) := [
  (1, ⟨#[111, 112, 101, 110]⟩, ⟨#[73, 82, 68, 67, 83, 76]⟩, ()), (2, ⟨#[99, 108, 111, 115, 101]⟩, ⟨#[73]⟩, ()), (3, ⟨#[115, 116, 97, 114, 116]⟩, ⟨#[73]⟩, ()), (4, ⟨#[112, 97, 117, 115, 101]⟩, ⟨#[73]⟩, ()),
  (5, ⟨#[100, 114, 97, 105, 110]⟩, ⟨#[73]⟩, ()), (6, ⟨#[118, 111, 108, 117, 109, 101]⟩, ⟨#[73, 86]⟩, ()), (7, ⟨#[109, 117, 116, 101]⟩, ⟨#[73, 77]⟩, ()), (8, ⟨#[119, 114, 105, 116, 101]⟩, ⟨#[73, 66]⟩, ()),
  (9, ⟨#[114, 101, 97, 100]⟩, ⟨#[73, 70]⟩, ()), (10, ⟨#[109, 111, 118, 101]⟩, ⟨#[73, 71]⟩, ()), (11, ⟨#[114, 117, 108, 101, 115]⟩, ⟨#[84]⟩, ()), (12, ⟨#[108, 105, 115, 116]⟩, ⟨#[]⟩, ())]

theorem forms_s : Sound P N WL 19 [] [] (· = .ret (.lf (.val (.slice formT) formsL)) []) := by
  refine Sound.of mix [] Go.Proofs.Try.func19 rfl rfl ?_
  refine ends ?_
  exact Eq.refl _

end Go.Proofs.Ytimhjbihhchieaa.Q
