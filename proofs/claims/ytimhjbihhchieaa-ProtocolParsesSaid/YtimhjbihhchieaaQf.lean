/- The reference's Split and Same over V. Conditions: as each states. -/
import Derived.Test.YtimhjbihhchieaaQe
namespace Go.Proofs.Ytimhjbihhchieaa.Q
open Go Go.V
set_option linter.unusedVariables false
set_option linter.unusedSimpArgs false
set_option maxRecDepth 100000
variable {N : Nat} {WL : World}

theorem extract_word (s : ByteArray) (i n : Nat) : strOfNums (((bytesOf s).drop i).take n) = s.extract i (i + n) := by
  apply bytesOf_inj
  rw [bytesOf_strOf _ (fun x hx => bytesOf_range s x (List.mem_of_mem_drop (List.mem_of_mem_take hx))), bytesOf_extract, List.drop_take]
  congr 1
  omega

theorem wsplit_wres (s : ByteArray) (i : Nat) (hi : i ≤ s.size) (acc : List ByteArray) {w : ByteArray} {j : Int} {b : Bool} (hw : wres s i = (w, j, b)) :
    (b = false → wsplit ((bytesOf s).drop i) 0 [] acc = ([], 5)) ∧ (b = true → ∃ k : Nat, j = k ∧ i < k ∧ k ≤ s.size ∧ wsplit ((bytesOf s).drop i) 0 [] acc = after ((bytesOf s).drop k) (acc ++ [w])) := by
  unfold wres at hw
  rw [wsplit_begin]
  by_cases hlt : i < s.size
  · rw [drop_cons s i hlt]
    simp only
    by_cases h34 : bt s i = 34
    · rw [if_pos ⟨hlt, h34⟩] at hw
      rw [if_pos h34]
      cases hq : qword ((bytesOf s).drop (i + 1)) [] with
      | none =>
        rw [hq] at hw
        cases hw
        exact ⟨fun _ => rfl, fun h => by cases h⟩
      | some p =>
        obtain ⟨w0, r⟩ := p
        rw [hq] at hw
        cases hw
        refine ⟨(fun h => by cases h), fun _ => ?_⟩
        obtain ⟨h1, h2⟩ := qword_len _ _ _ _ _ (Nat.le_refl _) hq
        have hrl : ((bytesOf s).drop (i + 1)).length = s.size - (i + 1) := by rw [List.length_drop, bytesOf_length]
        rw [hrl] at h1 h2
        rw [List.drop_drop] at h2
        have hj : i + 1 + (s.size - (i + 1) - r.length) = s.size - r.length := by omega
        rw [hj] at h2
        refine ⟨s.size - r.length, rfl, by omega, by omega, ?_⟩
        simp only
        rw [← h2]
    · rw [if_neg (fun h => h34 h.2)] at hw
      rw [if_neg h34]
      cases hc : wsimple (bt s i) with
      | false =>
        rw [wend_stop (fun _ => hc)] at hw
        simp only [Nat.lt_irrefl, decide_false] at hw
        cases hw
        exact ⟨fun _ => by simp, fun h => by cases h⟩
      | true =>
        have hpos : i < wend s i := by
          unfold wend
          rw [drop_cons s i hlt]
          simp [hc]
        have hle : wend s i ≤ s.size := by
          unfold wend
          have := (takeWhile_take wsimple ((bytesOf s).drop i)).1
          have h1 := congrArg List.length this
          rw [List.length_take, List.length_drop, bytesOf_length] at h1
          omega
        simp only [hpos, decide_true] at hw
        cases hw
        refine ⟨(fun h => by cases h), fun _ => ⟨wend s i, rfl, hpos, hle, ?_⟩⟩
        rw [if_pos rfl, ← drop_cons s i hlt]
        obtain ⟨t1, t2⟩ := takeWhile_take wsimple ((bytesOf s).drop i)
        rw [← t2, ← t1, List.drop_drop, List.length_take, extract_word]
        have hl : min (((bytesOf s).drop i).takeWhile wsimple).length ((bytesOf s).drop i).length = (((bytesOf s).drop i).takeWhile wsimple).length := by
          have h1 := congrArg List.length t1
          rw [List.length_take] at h1
          exact h1
        rw [hl]
        rfl
  · rw [if_neg (fun h => hlt h.1), wend_stop (fun h => (hlt h).elim)] at hw
    simp only [Nat.lt_irrefl, decide_false] at hw
    cases hw
    rw [drop_end s i (by omega)]
    exact ⟨fun _ => rfl, fun h => by cases h⟩

set_option maxHeartbeats 4000000 in
theorem split02_s (s : ByteArray) {l : List ByteArray} {e : Int} (hp : splitP s = (l, e)) : Sound P N WL 22 [.lf (vS s)] [] (· = .ret (.tup [vSs l, vI e]) []) := by
  refine Sound.of mix [] Go.Proofs.Try.func22 rfl rfl ?_
  unfold splitP at hp
  refine vif_split (fun h => ?_) (fun h => ?_) <;> (try rw [h])
  · refine ends ?_
    rw [if_pos (by have := h; simp at this; omega)] at hp
    cases hp
    exact Eq.refl _
  rw [if_neg (by have := h; simp at this; omega)] at hp
  refine vif_split (fun h2 => ?_) (fun h2 => ?_) <;> (try rw [h2])
  · refine ends ?_
    rw [size_beq] at h2
    rw [if_pos (by simpa using h2)] at hp
    cases hp
    exact Eq.refl _
  rw [size_beq] at h2
  rw [if_neg (by simpa using h2)] at hp
  have hs : s.size ≤ 4096 := by have := h; simp at this; omega
  refine vloop_i [0, 4, 5] [] (fun n r m => ∃ (i : Nat) (acc : List ByteArray), i + n = s.size + 1 ∧ i ≤ s.size ∧ acc.length ≤ i ∧ wsplit ((bytesOf s).drop i) 0 [] acc = (l, e) ∧
    r = regs 42 [(0, .lf (vS s)), (4, .lf (.al (.sl 4) .str acc)), (5, .lf (vI i))] ∧ m = []) ⟨s.size + 1, 0, [], by omega, by omega, by simp, hp, rfl, rfl⟩ ?_
  rintro n r m ⟨i, acc, hn, hi, hacc, hsp, rfl, rfl⟩
  generalize hw : wres s i = q
  obtain ⟨w, j, b⟩ := q
  obtain ⟨hf, ht⟩ := wsplit_wres s i hi acc hw
  refine vcall_intro [] [] (and_i (word_s s i hs hi hw) ?_)
  rintro o rfl
  refine vif_split (fun h3 => ?_) (fun h3 => ?_)
  · rw [hf (by simpa using h3)] at hsp
    cases hsp
    exact ends (Eq.refl _)
  · obtain ⟨k, rfl, hik, hk, hw2⟩ := ht (by simpa using h3)
    rw [hw2] at hsp
    refine vand_i (fits_i (n := acc.length + 1) 16 rfl ⟨by omega, by omega⟩) (fun _ => ?_)
    refine vif_split (fun h4 => ?_) (fun h4 => ?_) <;> (try rw [h4])
    · have h4 : k = s.size := by have := h4; simp at this; omega
      rw [drop_end s k (by omega)] at hsp
      unfold after fin at hsp
      refine vif_split (fun h7 => ?_) (fun h7 => ?_) <;> (try rw [h7])
      · refine ends ?_
        have h8 : decide (((acc ++ [w]).length : Int) > 64) = true := h7
        rw [if_pos (by simp at h8; simp; omega)] at hsp
        cases hsp
        exact Eq.refl _
      · refine ends ?_
        have h8 : decide (((acc ++ [w]).length : Int) > 64) = false := h7
        rw [if_neg (by simp at h8; simp; omega)] at hsp
        cases hsp
        exact Eq.refl _
    · have h4 : k < s.size := by have := h4; simp at this; omega
      rw [drop_cons s k h4] at hsp
      unfold after at hsp
      simp only at hsp
      refine vand_i (by omega) (fun _ => ?_)
      refine vif_split (fun h5 => ?_) (fun h5 => ?_) <;> (try rw [h5])
      · have h5 : bt s k ≠ 32 := by simpa using (show (bt s k != 32) = true from h5)
        rw [if_neg h5] at hsp
        refine ends ?_
        cases hsp
        exact Eq.refl _
      · have h5 : bt s k = 32 := by simpa using (show (bt s k != 32) = false from h5)
        rw [if_pos h5] at hsp
        have hk1 : IntKind.i64.wrap ((k : Int) + 1) = ((k + 1 : Nat) : Int) := by rw [wrap_in (by omega) (by omega)]; omega
        exact next_i (s.size - k) (by omega) ⟨k + 1, acc ++ [w], by omega, by omega, by simp; omega, hsp,
          congrArg (fun x => regs 42 [(0, .lf (vS s)), (4, .lf (.al (.sl 4) .str (acc ++ [w]))), (5, .lf (vI x))]) hk1, rfl⟩

end Go.Proofs.Ytimhjbihhchieaa.Q
