/- The reader of words over V. Conditions: as each states. -/
import Derived.Test.YtimhjbihhchieaaQb
namespace Go.Proofs.Ytimhjbihhchieaa.Q
open Go Go.V
set_option linter.unusedVariables false
set_option linter.unusedSimpArgs false
set_option maxRecDepth 100000
variable {N : Nat} {WL : World}

abbrev rdr (s : Int) (word : List Int) (words : List ByteArray) : Mem := [(1000, [vI s, .al (.ce 1000 1) (.int .u8) word, .al (.ce 1000 2) .str words])]

theorem push_s (s : Int) (word : List Int) (words : List ByteArray) (hl : words.length ≤ 9000) :
    Sound P N WL 33 [.lf (.ptr 1000 0)] (rdr s word words) (· = .ret (.tup []) (rdr 0 [] (words ++ [strOfNums word]))) := by
  refine Sound.of mix [] Go.Proofs.Try.func33 rfl rfl ?_
  refine draw_i true [] [(1, 1), (2, 1), (3, 1), (4, 1), (5, 1), (6, 1), (7, 1), (8, 1), (9, 1), (10, 1), (0, 2), (11, 0), (12, 1), (13, 1), (14, 0)] (by decide +kernel) ?_
  refine vand_i ?_ (fun _ => ?_)
  · exact fits_i (n := words.length + 1) 16 rfl ⟨by omega, by omega⟩
  · refine ends ?_
    exact Eq.refl _

set_option maxHeartbeats 4000000 in
theorem take_s (s c : Int) (word : List Int) (words : List ByteArray) (hs : 0 ≤ s ∧ s ≤ 4) (hl : words.length ≤ 9000) (hw : word.length ≤ 9000) {b : Bool} {s' : Int} {word' : List Int} {words' : List ByteArray} (ht : wtake s word words c = (b, s', word', words')) :
    Sound P N WL 32 [.lf (.ptr 1000 0), .lf (v8 c)] (rdr s word words) (· = .ret (.lf (vB b)) (rdr s' word' words')) := by
  have h5 : s = 0 ∨ s = 1 ∨ s = 2 ∨ s = 3 ∨ s = 4 := by omega
  rcases h5 with rfl | rfl | rfl | rfl | rfl
  all_goals
    refine Sound.of mix [] Go.Proofs.Try.func32 rfl rfl ?_
    repeat' first
      | (refine vif_split (fun h => ?_) (fun h => ?_) <;> (try rw [h]) <;> (try simp only [beq_iff_eq, beq_eq_false_iff_ne, ne_eq] at h))
      | (refine vand_i (fits_i (n := word.length + 1) 1 rfl ⟨by omega, by omega⟩) (fun _ => ?_))
      | (refine vcall_intro [] [] (and_i (simple_s c) ?_); rintro o rfl)
      | (refine vcall_intro [] [] (and_i (meaning_s c) ?_); rintro o rfl)
      | (refine vcall_intro [1000] [] (and_i (push_s _ _ _ hl) ?_); rintro o rfl)
    all_goals
      refine ends ?_
      simp [wtake, *] at ht
      obtain ⟨rfl, rfl, rfl, rfl⟩ := ht
      exact Eq.refl _

end Go.Proofs.Ytimhjbihhchieaa.Q
