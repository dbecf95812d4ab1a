/- The reference's guess and Parse over V. Conditions: as each states. -/
import Derived.Test.YtimhjbihhchieaaRb
namespace Go.Proofs.Ytimhjbihhchieaa.Q
open Go Go.V
set_option linter.unusedVariables false
set_option linter.unusedSimpArgs false
set_option maxRecDepth 100000
variable {N : Nat} {WL : World}

theorem atL_small {l : List ByteArray} (h : ∀ w ∈ l, w.size ≤ 1000000) (i : Nat) : (atL l i).size ≤ 1000000 := by
  unfold atL
  by_cases hi : i < l.length
  · rw [getD_in hi]
    exact h _ (List.getElem_mem _)
  · rw [getD_out (by omega)]
    decide

set_option maxHeartbeats 16000000 in
theorem guess_s (l : List ByteArray) (hsz : ∀ w ∈ l, w.size ≤ 1000000) (q : Req) (hq : guessR l = q) : Sound P N WL 23 [.lf (vSs l)] [] (· = .ret (.lf q.v) []) := by
  refine Sound.of mix [] Go.Proofs.Try.func23 rfl rfl ?_
  refine vloop_i [0, 2, 3, 4] [2, 3] (fun n r m => ∃ j : Nat, j + n = 12 ∧
    r = regs 84 [(0, .lf (vSs l)), (2, .lf (.ptr 2 0)), (3, .lf (.ptr 3 0)), (4, .lf (vI (j + 1 : Nat)))] ∧
    m = [(2, (Req.zero 0).cellsD (.al (.ce 2 9) (.int .u8) [])), (3, (Req.zero (kindUpto (atL l 0) j)).cellsD (.al (.ce 3 9) (.int .u8) []))]) ⟨12, 0, rfl, rfl, rfl⟩ ?_
  rintro n r m ⟨j, hn, rfl, rfl⟩
  refine vif_split (fun h3 => ?_) (fun h3 => ?_) <;> (try rw [h3])
  · have h3 : decide (((j + 1 : Nat) : Int) ≤ 12) = true := h3
    have hj : j + 1 ≤ 12 := by have := of_decide_eq_true h3; omega
    have hj1 : IntKind.i64.wrap (((j + 1 : Nat) : Int) + 1) = ((j + 1 + 1 : Nat) : Int) := by rw [wrap_in (by omega) (by omega)]; omega
    refine vcall_intro [] [] (and_i (at_s l 0) ?_)
    rintro o rfl
    refine vcall_intro [] [] (and_i (word35_s ((j + 1 : Nat) : Int) (by omega) (by omega)) ?_)
    rintro o rfl
    refine vif_split (fun h4 => ?_) (fun h4 => ?_) <;> (try rw [h4])
    · have h4 : ((atL l 0).toList == (wordR ((j + 1 : Nat) : Int)).toList) = true := h4
      rw [beq_iff_eq, toList_inj] at h4
      have e : kindUpto (atL l 0) (j + 1) = ((j + 1 : Nat) : Int) := by rw [kindUpto, if_pos h4]
      refine next_i (n - 1) (by omega) ⟨j + 1, by omega, congrArg (fun x => regs 84 [(0, .lf (vSs l)), (2, .lf (.ptr 2 0)), (3, .lf (.ptr 3 0)), (4, .lf (vI x))]) hj1, ?_⟩
      rw [e]
      rfl
    · have h4 : ((atL l 0).toList == (wordR ((j + 1 : Nat) : Int)).toList) = false := h4
      rw [beq_eq_false_iff_ne, ne_eq, toList_inj] at h4
      have e : kindUpto (atL l 0) (j + 1) = kindUpto (atL l 0) j := by rw [kindUpto, if_neg h4]
      refine next_i (n - 1) (by omega) ⟨j + 1, by omega, congrArg (fun x => regs 84 [(0, .lf (vSs l)), (2, .lf (.ptr 2 0)), (3, .lf (.ptr 3 0)), (4, .lf (vI x))]) hj1, ?_⟩
      rw [e]
      rfl
  · have h3 : decide (((j + 1 : Nat) : Int) ≤ 12) = false := h3
    have hj : j = 12 := by have := of_decide_eq_false h3; omega
    subst hj
    unfold guessR at hq
    generalize kindUpto (atL l 0) 12 = K at hq ⊢
    repeat' first
      | (refine vif_split (fun h => ?_) (fun h => ?_) <;> (try rw [h]) <;> (try simp only [beq_iff_eq, beq_eq_false_iff_ne, bne_iff_ne, bne_eq_false_iff_eq, ne_eq, toList_inj] at h) <;> (try (exfalso; omega)))
      | (refine vcall_intro [] [] (and_i (at_s l 1) ?_); rintro o rfl)
      | (refine vcall_intro [] [] (and_i (at_s l 2) ?_); rintro o rfl)
      | (refine vcall_intro [] [] (and_i (at_s l 3) ?_); rintro o rfl)
      | (refine vcall_intro [] [] (and_i (at_s l 4) ?_); rintro o rfl)
      | (refine vcall_intro [] [] (and_i (at_s l 5) ?_); rintro o rfl)
      | (refine vcall_intro [] [] (and_i (at_s l 6) ?_); rintro o rfl)
      | (refine vcall_intro [] [] (and_i (number35_s _ (atL_small hsz _)) ?_); rintro o rfl)
    all_goals
      refine ends ?_
      subst hq
      simp [Req.v, ofResults, *] <;> rfl

def parseRef (s : ByteArray) : Req × Int := if (splitP s).2 ≠ 0 then (Req.zero 0, (splitP s).2) else parseG (splitP s).1

theorem guess_byte (l : List ByteArray) : InR (guessR l).data := by
  unfold guessR
  simp only
  split
  · exact bytesOf_range _
  · exact InR.nil
theorem guess_role (l : List ByteArray) (h : ∀ w ∈ l, w.size ≤ 1000000) : (guessR l).role.size ≤ 1000000 := by
  unfold guessR
  simp only
  split
  · exact atL_small h _
  · decide

set_option maxHeartbeats 16000000 in
theorem parse35_s (s : ByteArray) {q : Req} {e : Int} (hp : parseRef s = (q, e)) : Sound P N WL 10 [.lf (vS s)] [] (· = .ret (.tup [q.v, vI e]) []) := by
  refine Sound.of mix [] Go.Proofs.Try.func10 rfl rfl ?_
  unfold parseRef at hp
  have hsz : ∀ w ∈ (splitP s).1, w.size ≤ 1000000 := split_small s
  generalize hsp : splitP s = sp at hp hsz
  obtain ⟨l, e0⟩ := sp
  simp only at hp hsz
  refine vcall_intro [] [] (and_i (split02_s s hsp) ?_)
  rintro o rfl
  refine vif_split (fun h => ?_) (fun h => ?_) <;> (try rw [h])
  · have h : (e0 != 0) = true := h
    rw [if_pos (bne_iff_ne.1 h)] at hp
    cases hp
    refine ends ?_
    exact Eq.refl _
  have h : (e0 != 0) = false := h
  rw [if_neg (by simpa using h)] at hp
  have hll : l.length ≤ 100000 := by
    have : e0 = 0 := by simpa using h
    subst this
    have := (join_split s l hsp).1
    omega
  unfold parseG at hp
  have hr := guess_role l hsz
  have hby := guess_byte l
  refine vcall_intro [] [] (and_i (guess_s l hsz (guessR l) rfl) ?_)
  rintro o rfl
  generalize guessR l = g at hp hr hby ⊢
  refine vcall_intro [] [] (and_i (valid35_s g hr) ?_)
  rintro o rfl
  refine vif_split (fun h2 => ?_) (fun h2 => ?_) <;> (try rw [h2])
  · have h2 : (!validR g) = true := h2
    rw [if_neg (by simp at h2; simp [h2])] at hp
    cases hp
    refine ends ?_
    exact Eq.refl _
  have h2 : (!validR g) = false := h2
  rw [Bool.not_eq_false'] at h2
  refine vcall_intro [] [] (and_i (words35_s g (valid_rng hby h2)) ?_)
  rintro o rfl
  have hwl : (wordsR g).length ≤ 1000000 := by
    unfold wordsR
    repeat' split
    all_goals simp
  refine vcall_intro [] [] (and_i (same_s (wordsR g) l hwl) ?_)
  rintro o rfl
  refine vif_split (fun h3 => ?_) (fun h3 => ?_) <;> (try rw [h3])
  · have h3 : (!sameL (wordsR g) l) = true := h3
    rw [if_neg (by
      rintro ⟨_, e⟩
      rw [sameL_iff.2 e] at h3
      cases h3)] at hp
    cases hp
    refine ends ?_
    exact Eq.refl _
  · have h3 : (!sameL (wordsR g) l) = false := h3
    rw [Bool.not_eq_false', sameL_iff] at h3
    rw [if_pos ⟨h2, h3⟩] at hp
    cases hp
    refine ends ?_
    exact Eq.refl _

end Go.Proofs.Ytimhjbihhchieaa.Q
