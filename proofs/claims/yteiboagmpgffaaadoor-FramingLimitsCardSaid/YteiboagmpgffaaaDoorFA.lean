/- The first frame of bytes, in plain words, and that the printed function computes it. Conditions: bytes fewer than 2^47. -/
import Derived.Test.YteiboagmpgffaaaDoorUA
import Derived.Test.YteiboagmpgffaaaDoorPx
namespace Go.Proofs.YteiboagmpgffaaaDoor.U
set_option linter.unusedSimpArgs false
set_option linter.unusedVariables false
open Go.RowKit Go.Proofs.YteiboagmpgffaaaDoor.P Go.Proofs.YteiboagmpgffaaaDoorW.PrintWords Go.Proofs.YteiboagmpgffaaaDoorW.PrintLast Go.Proofs.YteiboagmpgffaaaDoorW.PrintMore Go.Proofs.YteiboagmpgffaaaDoorW.Mine

/-- The digits and the colon: an error (0: not whole), or the number, how many digits, and what follows the colon. -/
def scanP : List Int → Nat → Nat → Int ⊕ (Nat × Nat × List Int)
  | [], _, _ => .inl 0
  | c :: r, n, p => if c = 58 ∧ 0 < p then .inr (n, p, r) else if c < 48 ∨ 57 < c ∨ (0 < p ∧ n = 0) then .inl 5
      else if 4096 < 10 * n + (c - 48).toNat then .inl 3 else scanP r (10 * n + (c - 48).toNat) (p + 1)
def finP : Int ⊕ (Nat × Nat × List Int) → List Int × Int × Int
  | .inl e => ([], 0, e)
  | .inr (n, p, r) => if r.length ≤ n then ([], 0, 0) else if rd r n = 44 then (r.take n, ((p + n + 2 : Nat) : Int), 0) else ([], 0, 5)
def firstP (b : List Int) : List Int × Int × Int := finP (scanP b 0 0)

theorem rd_drop (b : List Int) (i j : Nat) : rd (b.drop i) (j : Int) = rd b ((i + j : Nat) : Int) := by
  simp only [rd, List.getD_eq_getElem?_getD, Int.toNat_natCast, List.getElem?_drop]
theorem drop_rd (b : List Int) (i : Nat) (h : i < b.length) : b.drop i = rd b (i : Int) :: b.drop (i + 1) := by
  rw [List.drop_eq_getElem_cons h]
  congr 1
  simp [rd, List.getD_eq_getElem?_getD, List.getElem?_eq_getElem h]
theorem first_j1 (b : List Int) (hb : b.length < 140737488355328) (k n p : Nat) (hn : n ≤ 4096) (hp : p < b.length) :
    framing_first.j1 (k + 1) b n p true = some (finP (.inr (n, p, b.drop (p + 1)))) := by
  have e1 : wrap64 ((p : Int) + 1) = ((p + 1 : Nat) : Int) := wrap_succ p (by omega)
  have e2 : wrap64 (((p + 1 : Nat) : Int) + (n : Int)) = ((p + 1 + n : Nat) : Int) := by rw [wrap_id _ (by omega) (by omega)]; omega
  have e3 : wrap64 (((p + 1 + n : Nat) : Int) + 1) = ((p + n + 2 : Nat) : Int) := by rw [wrap_id _ (by omega) (by omega)]; omega
  simp only [framing_first.j1]
  rw [if_pos trivial, e1, e2, e3]
  simp only [finP, List.length_drop]
  by_cases h1 : b.length ≤ p + 1 + n
  · rw [if_pos (by omega), if_pos (by omega)]
  · rw [if_neg (show ¬ (b.length - (p + 1) ≤ n) by omega), if_neg (by omega), if_pos (by omega), if_pos (by omega), rd_drop b (p + 1) n]
    by_cases h2 : rd b ((p + 1 + n : Nat) : Int) = 44
    · rw [if_pos h2, if_pos h2, if_pos (by omega), if_pos (by omega), if_pos (by omega)]
      simp only [Int.toNat_natCast]
      rw [List.drop_take, show p + 1 + n - (p + 1) = n by omega]
    · rw [if_neg h2, if_neg h2]
theorem first_l0 (b : List Int) (hb : b.length < 140737488355328) : ∀ (d p n : Nat), p + d = b.length → n ≤ 4096 → Ev (fun k => framing_first.l0 k b n p) (finP (scanP (b.drop p) n p)) := by
  intro d
  induction d with
  | zero =>
    intro p n hp hn
    refine Ev.mk 1 (fun k hk => ?_)
    obtain ⟨k, rfl⟩ : ∃ m, k = m + 1 := ⟨k - 1, by omega⟩
    simp only [framing_first.l0]
    rw [if_pos (by omega), List.drop_eq_nil_of_le (by omega)]
    rfl
  | succ d ih =>
    intro p n hp hn
    rw [drop_rd b p (by omega)]
    simp only [scanP]
    by_cases h1 : rd b (p : Int) = 58 ∧ 0 < p
    · rw [if_pos h1]
      refine Ev.mk 2 (fun k hk => ?_)
      obtain ⟨k, rfl⟩ : ∃ m, k = m + 2 := ⟨k - 2, by omega⟩
      simp only [framing_first.l0]
      rw [if_neg (by omega), if_pos (by omega), if_pos (by omega), if_pos h1.1, decide_eq_true (by omega : (p : Int) > 0)]
      exact first_j1 b hb k n p hn (by omega)
    · rw [if_neg h1]
      have hl : ∀ k, framing_first.l0 (k + 1) b n p = framing_first.j1 k b n p false := by
        intro k
        simp only [framing_first.l0]
        rw [if_neg (by omega), if_pos (by omega), if_pos (by omega)]
        by_cases h2 : rd b (p : Int) = 58
        · rw [if_pos h2, decide_eq_false (by omega : ¬ (p : Int) > 0)]
        · rw [if_neg h2]
      by_cases h2 : rd b (p : Int) < 48 ∨ 57 < rd b (p : Int) ∨ (0 < p ∧ n = 0)
      · rw [if_pos h2]
        have h5 : ∀ k, framing_first.j2 (k + 1) b n p true = some ([], 0, 5) := by
          intro k
          simp only [framing_first.j2]
          rw [if_pos trivial]
        refine Ev.mk 3 (fun k hk => ?_)
        obtain ⟨k, rfl⟩ : ∃ m, k = m + 3 := ⟨k - 3, by omega⟩
        show framing_first.l0 (k + 2 + 1) b n p = _
        rw [hl]
        simp only [framing_first.j1]
        rw [if_neg (by simp), if_pos (by omega), if_pos (by omega)]
        by_cases h3 : rd b (p : Int) < 48
        · rw [if_pos h3, h5]
          rfl
        · rw [if_neg h3]
          by_cases h4 : rd b (p : Int) > 57
          · rw [if_pos h4, h5]
            rfl
          · obtain ⟨h6, h7⟩ : 0 < p ∧ n = 0 := by omega
            rw [if_neg h4, if_pos (by omega), h7]
            have : ((((0 : Nat) : Int)) == 0) = true := rfl
            rw [this, ← h7, h5]
            rfl
      · rw [if_neg h2]
        have hc : ((rd b (p : Int)) - 48) % 256 = (((rd b (p : Int)) - 48).toNat : Int) := by omega
        have hc9 : ((rd b (p : Int)) - 48).toNat ≤ 9 := by omega
        have e1 : wrap64 (10 * (n : Int)) = ((10 * n : Nat) : Int) := by rw [wrap_id _ (by omega) (by omega)]; omega
        have e2 : wrap64 (((10 * n : Nat) : Int) + (((rd b (p : Int)) - 48).toNat : Int)) = ((10 * n + ((rd b (p : Int)) - 48).toNat : Nat) : Int) := by rw [wrap_id _ (by omega) (by omega)]; omega
        have e3 : wrap64 ((p : Int) + 1) = ((p + 1 : Nat) : Int) := wrap_succ p (by omega)
        have hj : ∀ k, framing_first.j1 (k + 1) b n p false = framing_first.j2 k b n p false := by
          intro k
          simp only [framing_first.j1]
          rw [if_neg (by simp), if_pos (by omega), if_pos (by omega), if_neg (by omega), if_neg (by omega)]
          by_cases h3 : (p : Int) > 0
          · rw [if_pos h3]
            have : ((n : Int) == 0) = false := by simp; omega
            rw [this]
          · rw [if_neg h3]
        by_cases h3 : 4096 < 10 * n + ((rd b (p : Int)) - 48).toNat
        · rw [if_pos h3]
          refine Ev.mk 3 (fun k hk => ?_)
          obtain ⟨k, rfl⟩ : ∃ m, k = m + 3 := ⟨k - 3, by omega⟩
          show framing_first.l0 (k + 2 + 1) b n p = _
          rw [hl, hj]
          simp only [framing_first.j2]
          rw [if_neg (by simp), if_pos (by omega), if_pos (by omega), hc, e1, e2, if_pos (by omega)]
          rfl
        · rw [if_neg h3]
          obtain ⟨K, hK⟩ := ih (p + 1) (10 * n + ((rd b (p : Int)) - 48).toNat) (by omega) (by omega)
          dsimp only at hK
          refine Ev.mk (K + 3) (fun k hk => ?_)
          obtain ⟨k, rfl⟩ : ∃ m, k = m + 3 := ⟨k - 3, by omega⟩
          show framing_first.l0 (k + 2 + 1) b n p = _
          rw [hl, hj]
          simp only [framing_first.j2]
          rw [if_neg (by simp), if_pos (by omega), if_pos (by omega), hc, e1, e2, if_neg (by omega), e3]
          exact hK k (by omega)
theorem first_f (b : List Int) (hb : b.length < 140737488355328) : Ev (fun k => framing_first.f k b) (firstP b) := first_l0 b hb b.length 0 0 (by omega) (by omega)
end Go.Proofs.YteiboagmpgffaaaDoor.U
