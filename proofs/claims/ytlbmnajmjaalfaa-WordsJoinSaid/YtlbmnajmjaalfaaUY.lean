/- The examples of the chapter of words. Conditions: none. -/
import Derived.Test.YtlbmnajmjaalfaaUX
namespace Go.Proofs.Ytlbmnajmjaalfaa.U
set_option linter.unusedSimpArgs false
set_option linter.unusedVariables false
open Go.RowKit Go.Proofs.Ytlbmnajmjaalfaa.P Go.Proofs.YtlbmnajmjaalfaaW.PrintWords Go.Proofs.YtlbmnajmjaalfaaW.PrintLast Go.Proofs.YtlbmnajmjaalfaaW.PrintMore Go.Proofs.YtlbmnajmjaalfaaW.Mine

theorem sane_split : words_Split.f (⟨#[112, 108, 97, 121, 32, 34, 97, 32, 98, 34, 32, 51]⟩ : ByteArray) = some ([⟨#[112, 108, 97, 121]⟩, ⟨#[97, 32, 98]⟩, ⟨#[51]⟩], 0) := by decide +kernel
theorem sane_join : words_Join.f 30 ([(⟨#[97]⟩ : ByteArray), (⟨#[]⟩ : ByteArray)]) = some (⟨#[97, 32, 34, 34]⟩, 0) := by decide +kernel
theorem sane_number : words_Number.f 30 (⟨#[45, 49, 55]⟩ : ByteArray) = some (-17, 0) := by decide +kernel
theorem sane_name1 : words_Name.f 30 (⟨#[120, 45, 49]⟩ : ByteArray) = some true := by decide +kernel
theorem sane_name2 : words_Name.f 30 (⟨#[49, 120]⟩ : ByteArray) = some false := by decide +kernel
theorem sane_30 : soundservicelaw02_sane.f 30 = some true := by
  unfold soundservicelaw02_sane.f
  rw [sane_split, sane_join, sane_number, sane_name1, sane_name2]
  simp only [Option.bind_some, toList_data]
  decide +kernel
theorem sane_ev : Ev (fun k => soundservicelaw02_sane.f k) true := Ev.of (soundservicelaw02_sane.mono) sane_30

theorem WordsSplit_pure : soundservicelaw02_WordsSplit.Pure := by
  intro a0 ha
  have hsane := sane_ev
  obtain ⟨K1, h1⟩ := sane_ev
  obtain ⟨K2, h2⟩ := ref_split a0
  obtain ⟨K3, h3⟩ := same_refl (words_Split.p a0).1 (by have := split_words_len a0; omega)
  dsimp only at h1 h2 h3
  refine ⟨K1 + K2 + K3 + 1, ?_⟩
  unfold soundservicelaw02_WordsSplit.f
  rw [h1 _ (by omega)]
  simp only [Option.bind_some, if_true]
  have hj : ∀ b : Bool, soundservicelaw02_WordsSplit.j0 (K1 + K2 + K3 + 1) a0 b = some true := by
    intro b
    simp only [soundservicelaw02_WordsSplit.j0]
    cases b with
    | true => simp
    | false =>
      simp only [Bool.false_eq_true, if_false, words_Split.f, Option.bind_some]
      rw [h2 _ (by omega)]
      simp only [Option.bind_some, if_true]
      rw [h3 _ (by omega)]
      rfl
  split
  · exact hj _
  · exact hj _
end Go.Proofs.Ytlbmnajmjaalfaa.U
