/- The reference's words of a line over V. Conditions: as each states. -/
import Derived.Test.YtimhjbihhchieaaQd
namespace Go.Proofs.Ytimhjbihhchieaa.Q
open Go Go.V
set_option linter.unusedVariables false
set_option linter.unusedSimpArgs false
set_option maxRecDepth 100000
variable {N : Nat} {WL : World}

def qres (s : ByteArray) : Option (List Int × List Int) → ByteArray × Int × Bool
  | none => (⟨#[]⟩, 0, false)
  | some (w, r) => (strOfNums w, ((s.size - r.length : Nat) : Int), true)
/-- where the plain bytes end -/
def wend (s : ByteArray) (k : Nat) : Nat := k + (((bytesOf s).drop k).takeWhile wsimple).length
theorem wend_step {s : ByteArray} {k : Nat} (h : k < s.size) (hc : wsimple (bt s k) = true) : wend s k = wend s (k + 1) := by
  unfold wend
  rw [drop_cons s k h]
  simp [hc]
  omega
theorem wend_stop {s : ByteArray} {k : Nat} (h : k < s.size → wsimple (bt s k) = false) : wend s k = k := by
  unfold wend
  by_cases hk : k < s.size
  · rw [drop_cons s k hk]
    simp [h hk]
  · rw [drop_end s k (by omega)]
    simp
def wres (s : ByteArray) (i : Nat) : ByteArray × Int × Bool :=
  if i < s.size ∧ bt s i = 34 then qres s (qword ((bytesOf s).drop (i + 1)) []) else (s.extract i (wend s i), (wend s i : Nat), decide (i < wend s i))

set_option maxHeartbeats 4000000 in
theorem word_s (s : ByteArray) (i : Nat) (hs : s.size ≤ 4096) (hi : i ≤ s.size) {w : ByteArray} {j : Int} {b : Bool} (hw : wres s i = (w, j, b)) :
    Sound P N WL 39 [.lf (vS s), .lf (vI i)] [] (· = .ret (.tup [vS w, vI j, vB b]) []) := by
  refine Sound.of mix [] Go.Proofs.Try.func39 rfl rfl ?_
  have key : ∀ {X : Prop}, (¬ (i < s.size ∧ bt s i = 34) → X) → (i < s.size ∧ bt s i = 34 → X) → X := fun h1 h2 => (Classical.em _).elim h2 h1
  unfold wres at hw
  refine key (fun hq => ?_) (fun hq => ?_)
  · rw [if_neg hq] at hw
    have hgo : ∀ {c : Bool} {X Y : Prop}, c = true → X → vif c X Y := fun e h => by rw [e]; exact h
    refine vif_split (fun h => ?_) (fun h => ?_) <;> (try rw [h])
    rotate_left
    · refine vand_i (by have := h; simp at this; omega) (fun _ => ?_)
      have h2 : (bt s i != 34) = true := by
        have := h
        simp at this
        simpa using fun e => hq ⟨this, e⟩
      refine hgo h2 ?_
      refine vloop_i [0, 1, 7] [] (fun n r m => ∃ k : Nat, k + n = s.size ∧ i ≤ k ∧ wend s i = wend s k ∧ r = regs 95 [(0, .lf (vS s)), (1, .lf (vI i)), (7, .lf (vI k))] ∧ m = []) ⟨s.size - i, i, by omega, by omega, rfl, rfl, rfl⟩ ?_
      rintro n r m ⟨k, hk, hik, hwe, rfl, rfl⟩
      have fin : wend s k = k → (s.extract (i : Int).toNat (k : Int).toNat, ((k : Int), decide ((k : Int) > (i : Int)))) = (w, j, b) := fun e => by
        rw [← hw, hwe, e]
        simp
      refine vif_split (fun h3 => ?_) (fun h3 => ?_) <;> (try rw [h3])
      · have hlt : k < s.size := by have := h3; simp at this; omega
        refine vand_i (by omega) (fun _ => ?_)
        refine vcall_intro [] [] (and_i (plainByte_s (bt s k)) ?_)
        rintro o rfl
        refine vif_split (fun h4 => ?_) (fun h4 => ?_)
        · have hk1 : IntKind.i64.wrap ((k : Int) + 1) = ((k + 1 : Nat) : Int) := by rw [wrap_in (by omega) (by omega)]; omega
          exact next_i (n - 1) (by omega) ⟨k + 1, by omega, by omega, by rw [hwe, wend_step hlt h4],
            congrArg (fun x => regs 95 [(0, .lf (vS s)), (1, .lf (vI i)), (7, .lf (vI x))]) hk1, rfl⟩
        · have hf := fin (wend_stop fun _ => h4)
          refine vand_i (by omega) (fun _ => ?_)
          cases hf
          exact ends (Eq.refl _)
      · have hf := fin (wend_stop fun hh => by have := h3; simp at this; omega)
        refine vand_i (by have := h3; simp at this; omega) (fun _ => ?_)
        cases hf
        exact ends (Eq.refl _)
    · refine vloop_i [0, 1, 7] [] (fun n r m => ∃ k : Nat, k + n = s.size ∧ i ≤ k ∧ wend s i = wend s k ∧ r = regs 95 [(0, .lf (vS s)), (1, .lf (vI i)), (7, .lf (vI k))] ∧ m = []) ⟨s.size - i, i, by omega, by omega, rfl, rfl, rfl⟩ ?_
      rintro n r m ⟨k, hk, hik, hwe, rfl, rfl⟩
      have fin : wend s k = k → (s.extract (i : Int).toNat (k : Int).toNat, ((k : Int), decide ((k : Int) > (i : Int)))) = (w, j, b) := fun e => by
        rw [← hw, hwe, e]
        simp
      refine vif_split (fun h3 => ?_) (fun h3 => ?_) <;> (try rw [h3])
      · have hlt : k < s.size := by have := h3; simp at this; omega
        refine vand_i (by omega) (fun _ => ?_)
        refine vcall_intro [] [] (and_i (plainByte_s (bt s k)) ?_)
        rintro o rfl
        refine vif_split (fun h4 => ?_) (fun h4 => ?_)
        · have hk1 : IntKind.i64.wrap ((k : Int) + 1) = ((k + 1 : Nat) : Int) := by rw [wrap_in (by omega) (by omega)]; omega
          exact next_i (n - 1) (by omega) ⟨k + 1, by omega, by omega, by rw [hwe, wend_step hlt h4],
            congrArg (fun x => regs 95 [(0, .lf (vS s)), (1, .lf (vI i)), (7, .lf (vI x))]) hk1, rfl⟩
        · have hf := fin (wend_stop fun _ => h4)
          refine vand_i (by omega) (fun _ => ?_)
          cases hf
          exact ends (Eq.refl _)
      · have hf := fin (wend_stop fun hh => by have := h3; simp at this; omega)
        refine vand_i (by have := h3; simp at this; omega) (fun _ => ?_)
        cases hf
        exact ends (Eq.refl _)
  · rw [if_pos hq] at hw
    obtain ⟨hlt, h34⟩ := hq
    refine vif_split (fun h => ?_) (fun h => ?_) <;> (try rw [h])
    · have := h; simp at this; omega
    refine vand_i (by omega) (fun _ => ?_)
    refine vif_split (fun h2 => ?_) (fun h2 => ?_) <;> (try rw [h2])
    · have h2 : (bt s i != 34) = true := h2
      simp [h34] at h2
    have hi1 : IntKind.i64.wrap ((i : Int) + 1) = ((i + 1 : Nat) : Int) := by rw [wrap_in (by omega) (by omega)]; omega
    refine vloop_i [0, 8, 9] [] (fun n r m => ∃ (k : Nat) (acc : List Int), k + n = s.size ∧ acc.length ≤ k ∧ qres s (qword ((bytesOf s).drop k) acc) = (w, j, b) ∧
      r = regs 95 [(0, .lf (vS s)), (8, .lf (.al (.sl 8) (.int .u8) acc)), (9, .lf (vI k))] ∧ m = [])
      ⟨s.size - (i + 1), i + 1, [], by omega, by simp, hw, congrArg (fun x => regs 95 [(0, .lf (vS s)), (8, .lf (.al (.sl 8) (.int .u8) [])), (9, .lf (vI x))]) hi1, rfl⟩ ?_
    rintro n r m ⟨k, acc, hk, hacc, hqr, rfl, rfl⟩
    refine vif_split (fun h3 => ?_) (fun h3 => ?_) <;> (try rw [h3])
    · have hlt : k < s.size := by have := h3; simp at this; omega
      have hk1 : IntKind.i64.wrap ((k : Int) + 1) = ((k + 1 : Nat) : Int) := by rw [wrap_in (by omega) (by omega)]; omega
      have hlen : ((bytesOf s).drop (k + 1)).length = s.size - (k + 1) := by rw [List.length_drop, bytesOf_length]
      rw [drop_cons s k hlt, qword.eq_def] at hqr
      simp only at hqr
      refine vand_i (by omega) (fun _ => ?_)
      refine vif_split (fun h4 => ?_) (fun h4 => ?_) <;> (try rw [h4])
      · have h4 : bt s k = 34 := by simpa using (show (bt s k == 34) = true from h4)
        rw [if_pos h4] at hqr
        simp only [qres, hlen] at hqr
        have e : s.size - (s.size - (k + 1)) = k + 1 := by omega
        rw [e, ← hk1] at hqr
        refine ends ?_
        cases hqr
        exact Eq.refl _
      have h4 : bt s k ≠ 34 := by simpa using (show (bt s k == 34) = false from h4)
      rw [if_neg h4] at hqr
      refine vif_split (fun h5 => ?_) (fun h5 => ?_) <;> (try rw [h5])
      · have h5 : bt s k = 10 := by simpa using (show (bt s k == 10) = true from h5)
        rw [if_pos h5] at hqr
        refine ends ?_
        cases hqr
        exact Eq.refl _
      have h5 : bt s k ≠ 10 := by simpa using (show (bt s k == 10) = false from h5)
      rw [if_neg h5] at hqr
      refine vif_split (fun h6 => ?_) (fun h6 => ?_) <;> (try rw [h6])
      · have h6 : bt s k = 13 := by simpa using (show (bt s k == 13) = true from h6)
        rw [if_pos h6] at hqr
        refine ends ?_
        cases hqr
        exact Eq.refl _
      have h6 : bt s k ≠ 13 := by simpa using (show (bt s k == 13) = false from h6)
      rw [if_neg h6] at hqr
      refine vif_split (fun h7 => ?_) (fun h7 => ?_) <;> (try rw [h7])
      · have h7 : bt s k = 92 := by simpa using (show (bt s k == 92) = true from h7)
        rw [if_pos h7] at hqr
        refine vif_split (fun h8 => ?_) (fun h8 => ?_) <;> (try rw [h8])
        · rw [hk1] at h8
          have h8 : k + 1 = s.size := by have := h8; simp at this; omega
          rw [drop_end s (k + 1) (by omega)] at hqr
          refine ends ?_
          cases hqr
          exact Eq.refl _
        · rw [hk1] at h8
          have h8 : k + 1 < s.size := by have := h8; simp at this; omega
          rw [drop_cons s (k + 1) h8] at hqr
          simp only at hqr
          rw [hk1]
          have hk2 : IntKind.i64.wrap (((k + 1 : Nat) : Int) + 1) = ((k + 2 : Nat) : Int) := by rw [wrap_in (by omega) (by omega)]; omega
          refine vand_i (by omega) (fun _ => ?_)
          refine vcall_intro [] [] (and_i (pair_s (bt s (k + 1 : Nat))) ?_)
          rintro o rfl
          refine vif_split (fun h9 => ?_) (fun h9 => ?_)
          · rw [if_neg (by simpa using h9)] at hqr
            refine ends ?_
            cases hqr
            exact Eq.refl _
          · rw [if_pos (by simpa using h9)] at hqr
            refine vand_i (fits_i (n := acc.length + 1) 1 rfl ⟨by omega, by omega⟩) (fun _ => ?_)
            exact next_i (n - 2) (by omega) ⟨k + 2, acc ++ [(wmeaning (bt s (k + 1 : Nat))).1], by omega, by simp; omega, hqr,
              congrArg (fun x => regs 95 [(0, .lf (vS s)), (8, .lf (.al (.sl 8) (.int .u8) (acc ++ [(wmeaning (bt s (k + 1 : Nat))).1]))), (9, .lf (vI x))]) hk2, rfl⟩
      · have h7 : bt s k ≠ 92 := by simpa using (show (bt s k == 92) = false from h7)
        rw [if_neg h7] at hqr
        refine vand_i (fits_i (n := acc.length + 1) 1 rfl ⟨by omega, by omega⟩) (fun _ => ?_)
        exact next_i (n - 1) (by omega) ⟨k + 1, acc ++ [bt s k], by omega, by simp; omega, hqr,
          congrArg (fun x => regs 95 [(0, .lf (vS s)), (8, .lf (.al (.sl 8) (.int .u8) (acc ++ [bt s k]))), (9, .lf (vI x))]) hk1, rfl⟩
    · have hge : s.size ≤ k := by have := h3; simp at this; omega
      rw [drop_end s k hge] at hqr
      refine ends ?_
      cases hqr
      exact Eq.refl _

end Go.Proofs.Ytimhjbihhchieaa.Q
