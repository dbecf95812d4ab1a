/- The words of a line over V. Conditions: as each states. -/
import Derived.Test.YtimhjbihhchieaaQc
namespace Go.Proofs.Ytimhjbihhchieaa.Q
open Go Go.V
set_option linter.unusedVariables false
set_option linter.unusedSimpArgs false
set_option maxRecDepth 100000
variable {N : Nat} {WL : World}

theorem size_beq (s : ByteArray) : (ByteArray.toList s == ByteArray.toList ⟨#[]⟩) = decide (s.size = 0) := by
  have : ByteArray.toList ⟨#[]⟩ = ([] : List UInt8) := by rw [toList_data]
  rw [this]
  by_cases h : s.size = 0
  · rw [toList_nil.2 h]; simp [h]
  · have : ByteArray.toList s ≠ [] := fun e => h (toList_nil.1 e)
    simp [h, this]

theorem wtake_in {st c : Int} {word : List Int} {words : List ByteArray} (hst : 0 ≤ st ∧ st ≤ 4) {b : Bool} {st' : Int} {word' : List Int} {words' : List ByteArray} (h : wtake st word words c = (b, st', word', words')) :
    (0 ≤ st' ∧ st' ≤ 4) ∧ word'.length ≤ word.length + 1 ∧ words'.length ≤ words.length + 1 := by
  unfold wtake at h
  repeat' split at h
  all_goals
    simp only [Prod.mk.injEq] at h
    obtain ⟨-, rfl, rfl, rfl⟩ := h
    refine ⟨?_, ?_, ?_⟩ <;> simp

set_option maxHeartbeats 4000000 in
theorem split_s (s : ByteArray) {l : List ByteArray} {e : Int} (hp : splitP s = (l, e)) : Sound P N WL 18 [.lf (vS s)] [] (· = .ret (.tup [vSs l, vI e]) []) := by
  refine Sound.of mix [] Go.Proofs.Try.func18 rfl rfl ?_
  unfold splitP at hp
  refine vif_split (fun h => ?_) (fun h => ?_) <;> (try rw [h])
  · refine ends ?_
    rw [if_pos (by have := h; simp at this; omega)] at hp
    cases hp
    exact Eq.refl _
  rw [if_neg (by have := h; simp at this; omega)] at hp
  refine vif_split (fun h2 => ?_) (fun h2 => ?_) <;> (try rw [h2])
  · refine ends ?_
    rw [size_beq] at h2
    rw [if_pos (by simpa using h2)] at hp
    cases hp
    exact Eq.refl _
  rw [size_beq] at h2
  rw [if_neg (by simpa using h2)] at hp
  have hs : s.size ≤ 4096 := by have := h; simp at this; omega
  refine vloop_i [0, 4, 14, 15] [12] (fun n r m => ∃ (i : Nat) (st : Int) (word : List Int) (words : List ByteArray), i + n = s.size ∧ (0 ≤ st ∧ st ≤ 4) ∧ word.length ≤ i ∧ words.length ≤ i ∧ wsplit ((bytesOf s).drop i) st word words = (l, e) ∧
    r = regs 49 [(0, .lf (vS s)), (4, .lf (.ptr 12 0)), (14, .lf (vI s.size)), (15, .lf (vI i))] ∧ m = [(12, [vI st, .al (.ce 12 1) (.int .u8) word, .al (.ce 12 2) .str words])]) ⟨s.size, 0, 0, [], [], by omega, by omega, by simp, by simp, hp, rfl, rfl⟩ ?_
  rintro n r m ⟨i, st, word, words, hi, hst, hw, hws, hsp, rfl, rfl⟩
  refine vif_split (fun h3 => ?_) (fun h3 => ?_) <;> (try rw [h3])
  · have hlt : i < s.size := by simpa using h3
    rw [drop_cons s i hlt] at hsp
    refine vand_i (by simpa using h3) (fun _ => ?_)
    generalize ht : wtake st word words (bt s i) = t at hsp
    obtain ⟨b, st', word', words'⟩ := t
    refine vcall_intro [12] [] (and_i (take_s st (bt s i) word words hst (by omega) (by omega) ht) ?_)
    rintro o rfl
    refine vif_split (fun h4 => ?_) (fun h4 => ?_)
    · refine ends ?_
      rw [wsplit, ht] at hsp
      rw [if_neg (by simpa using h4)] at hsp
      cases hsp
      exact Eq.refl _
    · have hb : b = true := by simpa using h4
      subst hb
      rw [wsplit, ht, if_pos rfl] at hsp
      obtain ⟨g1, g2, g3⟩ := wtake_in hst ht
      have hi1 : IntKind.i64.wrap ((i : Int) + 1) = ((i + 1 : Nat) : Int) := by rw [wrap_in (by omega) (by omega)]; omega
      exact next_i (n - 1) (by omega) ⟨i + 1, st', word', words', by omega, g1, by omega, by omega, hsp,
        congrArg (fun x => regs 49 [(0, .lf (vS s)), (4, .lf (.ptr 12 0)), (14, .lf (vI s.size)), (15, .lf (vI x))]) hi1, rfl⟩
  · have hge : s.size ≤ i := by have := h3; simp at this; omega
    rw [drop_end s i hge] at hsp
    unfold wsplit at hsp
    refine vif_split (fun h5 => ?_) (fun h5 => ?_) <;> (try rw [h5])
    · refine vif_split (fun h6 => ?_) (fun h6 => ?_) <;> (try rw [h6])
      · refine ends ?_
        rw [if_neg (by have := h5; have := h6; simp_all)] at hsp
        cases hsp
        exact Eq.refl _
      · have hst4 : st = 4 := by simpa using h6
        rw [if_pos (.inr hst4)] at hsp
        refine vcall_intro [12] [] (and_i (push_s st word words (by omega)) ?_)
        rintro o rfl
        refine vif_split (fun h7 => ?_) (fun h7 => ?_) <;> (try rw [h7])
        · refine ends ?_
          have h8 : decide (((words ++ [strOfNums word]).length : Int) > 64) = true := h7
          rw [if_pos (by simp at h8; simp; omega)] at hsp
          cases hsp
          exact Eq.refl _
        · refine ends ?_
          have h8 : decide (((words ++ [strOfNums word]).length : Int) > 64) = false := h7
          rw [if_neg (by simp at h8; simp; omega)] at hsp
          cases hsp
          exact Eq.refl _
    · have hst1 : st = 1 := by simpa using h5
      rw [if_pos (.inl hst1)] at hsp
      refine vcall_intro [12] [] (and_i (push_s st word words (by omega)) ?_)
      rintro o rfl
      refine vif_split (fun h7 => ?_) (fun h7 => ?_) <;> (try rw [h7])
      · refine ends ?_
        have h8 : decide (((words ++ [strOfNums word]).length : Int) > 64) = true := h7
        rw [if_pos (by simp at h8; simp; omega)] at hsp
        cases hsp
        exact Eq.refl _
      · refine ends ?_
        have h8 : decide (((words ++ [strOfNums word]).length : Int) > 64) = false := h7
        rw [if_neg (by simp at h8; simp; omega)] at hsp
        cases hsp
        exact Eq.refl _

end Go.Proofs.Ytimhjbihhchieaa.Q
