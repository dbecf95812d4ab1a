/- The statements WordsNumbers and WordsBack over lists and numbers. Conditions: none but the statements' own. -/
import Derived.Test.YtlbmnajmjaalfaaDoorUNR
import Derived.Test.YtlbmnajmjaalfaaDoorUK
import Derived.Test.YtlbmnajmjaalfaaDoorUQ
import Derived.Test.YtlbmnajmjaalfaaDoorUS
namespace Go.Proofs.YtlbmnajmjaalfaaDoor.U
set_option linter.unusedSimpArgs false
set_option linter.unusedVariables false
open Go.RowKit Go.Proofs.YtlbmnajmjaalfaaDoor.P Go.Proofs.YtlbmnajmjaalfaaDoorW.PrintWords Go.Proofs.YtlbmnajmjaalfaaDoorW.PrintLast Go.Proofs.YtlbmnajmjaalfaaDoorW.PrintMore Go.Proofs.YtlbmnajmjaalfaaDoorW.Mine

theorem format_f (n : Int) (h0 : -9223372036854775808 ≤ n) (h1 : n ≤ 9223372036854775807) : words_Format.f n = some ⟨(Lib.itoa n).toArray⟩ := by
  unfold words_Format.f strconv_Itoa.f
  rw [if_pos h0, if_pos h1]
  rfl
theorem WordsNumbers_pure : soundservicelaw02_WordsNumbers.Pure := by
  intro a0 a1 ha hw
  have hb : -9223372036854775808 ≤ a1 ∧ a1 ≤ 9223372036854775807 := by
    simp only [Lit.wf, Bool.and_eq_true, decide_eq_true_eq] at hw
    exact hw
  obtain ⟨K1, h1⟩ := sane_ev
  obtain ⟨K2, h2⟩ := number_f a0 (by omega)
  obtain ⟨K3, h3⟩ := refnumber_f a0 (by omega)
  obtain ⟨K4, h4⟩ := refformat_f a1 hb.1 hb.2
  obtain ⟨K5, h5⟩ := name_f a0 (by omega)
  obtain ⟨K6, h6⟩ := refname_f a0 (by omega)
  dsimp only at h1 h2 h3 h4 h5 h6
  refine ⟨K1 + K2 + K3 + K4 + K5 + K6, ?_⟩
  unfold soundservicelaw02_WordsNumbers.f
  rw [h1 _ (by omega), Option.bind_some, if_pos rfl]
  split
  · rfl
  · rw [h2 _ (by omega), Option.bind_some, h3 _ (by omega), Option.bind_some, if_pos rfl, if_pos rfl, format_f a1 hb.1 hb.2, Option.bind_some, h4 _ (by omega), Option.bind_some, if_pos rfl, h5 _ (by omega), Option.bind_some, h6 _ (by omega), Option.bind_some]
    simp
theorem tmod_range (a m : Int) (hm : 0 < m) : -m < Int.tmod a m ∧ Int.tmod a m < m := by
  by_cases h : 0 ≤ a
  · rw [Int.tmod_eq_emod_of_nonneg h]
    have := Int.emod_nonneg a (Int.ne_of_gt hm)
    have := Int.emod_lt_of_pos a hm
    omega
  · have e : Int.tmod a m = -(Int.tmod (-a) m) := by rw [Int.neg_tmod]; omega
    rw [e, Int.tmod_eq_emod_of_nonneg (by omega)]
    have := Int.emod_nonneg (-a) (Int.ne_of_gt hm)
    have := Int.emod_lt_of_pos (-a) hm
    omega
theorem WordsBack_pure (l : List ByteArray) (a1 : Int) (hw : (Lit.int .i64 a1).wf = true) : ∃ k, soundservicelaw02_WordsBack.f k l a1 = some true := by
  have hb : -9223372036854775808 ≤ a1 ∧ a1 ≤ 9223372036854775807 := by
    simp only [Lit.wf, Bool.and_eq_true, decide_eq_true_eq] at hw
    exact hw
  have ht : -9007199254740992 ≤ Int.tmod a1 9007199254740992 ∧ Int.tmod a1 9007199254740992 ≤ 9007199254740992 := by have := tmod_range a1 9007199254740992 (by omega); omega
  have hsz : (⟨(Lib.itoa (Int.tmod a1 9007199254740992)).toArray⟩ : ByteArray).size ≤ 4611686018427387904 := by
    have := Lib.itoa_length_le (Int.tmod a1 9007199254740992) (by omega) (by omega)
    show (Lib.itoa (Int.tmod a1 9007199254740992)).length ≤ _
    omega
  obtain ⟨K1, h1⟩ := sane_ev
  obtain ⟨K2, h2⟩ := kept_f l
  obtain ⟨K3, h3⟩ := join_f l
  obtain ⟨K4, h4⟩ := number_f _ hsz
  dsimp only at h1 h2 h3 h4
  rw [num_itoa _ ht.1 ht.2] at h4
  have hf := format_f (Int.tmod a1 9007199254740992) (by omega) (by omega)
  cases hk : keptB l with
  | false =>
    refine ⟨K1 + K2, ?_⟩
    unfold soundservicelaw02_WordsBack.f
    rw [h1 _ (by omega), Option.bind_some, if_pos rfl, h2 _ (by omega), hk, Option.bind_some, if_neg Bool.false_ne_true]
  | true =>
    have hlen : l.length ≤ 70 := by
      unfold keptB at hk
      rw [Bool.and_eq_true] at hk
      exact of_decide_eq_true hk.1
    obtain ⟨K5, h5⟩ := same_refl l (by omega)
    dsimp only at h5
    refine ⟨K1 + K2 + K3 + K4 + K5 + 1, ?_⟩
    unfold soundservicelaw02_WordsBack.f
    rw [h1 _ (by omega), Option.bind_some, if_pos rfl, h2 _ (by omega), hk, Option.bind_some, if_pos rfl, h3 _ (by omega), Option.bind_some]
    by_cases hg : 64 < l.length ∨ 4096 < (jline l).length
    · have hj : joinP l = (⟨#[]⟩, 3) := by rw [joinP_eq, if_pos hg]
      rw [hj, if_neg (by decide), hf, Option.bind_some, h4 _ (by omega), Option.bind_some, if_pos rfl]
      simp
    · have hj : joinP l = (strOfNums (jline l), 0) := joinP_ok l (by omega) (by omega)
      have hs1 : words_Split.f (strOfNums (jline l)) = some (l, 0) := congrArg some (split_join l (by omega) (by omega))
      rw [hj, if_pos rfl, hs1, Option.bind_some, if_pos rfl, h5 _ (by omega), Option.bind_some, soundservicelaw02_WordsBack.j0.eq_2, if_neg (by decide), hf, Option.bind_some, h4 _ (by omega), Option.bind_some, if_pos rfl]
      simp
end Go.Proofs.YtlbmnajmjaalfaaDoor.U
