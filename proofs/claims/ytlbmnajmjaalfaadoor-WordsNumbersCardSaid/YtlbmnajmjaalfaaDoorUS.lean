/- The examples of the chapter of words. Conditions: none. -/
import Derived.Test.YtlbmnajmjaalfaaDoorUW
namespace Go.Proofs.YtlbmnajmjaalfaaDoor.U
set_option linter.unusedSimpArgs false
set_option linter.unusedVariables false
open Go.RowKit Go.Proofs.YtlbmnajmjaalfaaDoor.P Go.Proofs.YtlbmnajmjaalfaaDoorW.PrintWords Go.Proofs.YtlbmnajmjaalfaaDoorW.PrintLast Go.Proofs.YtlbmnajmjaalfaaDoorW.PrintMore Go.Proofs.YtlbmnajmjaalfaaDoorW.Mine

theorem sane_split : words_Split.f (⟨#[112, 108, 97, 121, 32, 34, 97, 32, 98, 34, 32, 51]⟩ : ByteArray) = some ([⟨#[112, 108, 97, 121]⟩, ⟨#[97, 32, 98]⟩, ⟨#[51]⟩], 0) := by decide +kernel
theorem sane_join : words_Join.f 30 ([(⟨#[97]⟩ : ByteArray), (⟨#[]⟩ : ByteArray)]) = some (⟨#[97, 32, 34, 34]⟩, 0) := by decide +kernel
theorem sane_number : words_Number.f 30 (⟨#[45, 49, 55]⟩ : ByteArray) = some (-17, 0) := by decide +kernel
theorem sane_name1 : words_Name.f 30 (⟨#[120, 45, 49]⟩ : ByteArray) = some true := by decide +kernel
theorem sane_name2 : words_Name.f 30 (⟨#[49, 120]⟩ : ByteArray) = some false := by decide +kernel
theorem sane_30 : soundservicelaw02_sane.f 30 = some true := by
  unfold soundservicelaw02_sane.f
  rw [sane_split, sane_join, sane_number, sane_name1, sane_name2]
  simp only [Option.bind_some, toList_data]
  decide +kernel
theorem sane_ev : Ev (fun k => soundservicelaw02_sane.f k) true := Ev.of (soundservicelaw02_sane.mono) sane_30
end Go.Proofs.YtlbmnajmjaalfaaDoor.U
