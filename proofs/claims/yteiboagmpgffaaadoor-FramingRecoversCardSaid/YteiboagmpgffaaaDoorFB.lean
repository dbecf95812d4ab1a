/- The reference's first frame is the program's; the frames of bytes, one after the other. Conditions: bytes fewer than 2^47. -/
import Derived.Test.YteiboagmpgffaaaDoorFA
namespace Go.Proofs.YteiboagmpgffaaaDoor.U
set_option linter.unusedSimpArgs false
set_option linter.unusedVariables false
open Go.RowKit Go.Proofs.YteiboagmpgffaaaDoor.P Go.Proofs.YteiboagmpgffaaaDoorW.PrintWords Go.Proofs.YteiboagmpgffaaaDoorW.PrintLast Go.Proofs.YteiboagmpgffaaaDoorW.PrintMore Go.Proofs.YteiboagmpgffaaaDoorW.Mine

theorem one_j2f (b : List Int) (hb : b.length < 140737488355328) (k n p : Nat) (hn : n ≤ 4096) (hp : p < b.length) :
    soundserviceref34_one.j2 (k + 1) b n p false = some (finP (.inr (n, p, b.drop (p + 1)))) := by
  have e1 : wrap64 ((p : Int) + 1) = ((p + 1 : Nat) : Int) := wrap_succ p (by omega)
  have e2 : wrap64 (((p + 1 : Nat) : Int) + (n : Int)) = ((p + 1 + n : Nat) : Int) := by rw [wrap_id _ (by omega) (by omega)]; omega
  have e3 : wrap64 (((p + 1 + n : Nat) : Int) + 1) = ((p + n + 2 : Nat) : Int) := by rw [wrap_id _ (by omega) (by omega)]; omega
  simp only [soundserviceref34_one.j2]
  rw [if_neg (by simp), e1, e2, e3]
  simp only [finP, List.length_drop, Option.bind_some]
  by_cases h1 : b.length ≤ p + 1 + n
  · rw [if_pos (by omega), if_pos (by omega)]
  · rw [if_neg (show ¬ (b.length - (p + 1) ≤ n) by omega), if_neg (by omega), if_pos (by omega), if_pos (by omega), rd_drop b (p + 1) n]
    by_cases h2 : rd b ((p + 1 + n : Nat) : Int) = 44
    · rw [if_pos h2, if_pos h2, if_pos (by omega), if_pos (by omega), if_pos (by omega)]
      simp only [Int.toNat_natCast]
      rw [if_pos (by simp only [List.length_drop, List.length_take, List.length_nil]; omega), List.drop_take, show p + 1 + n - (p + 1) = n by omega]
      rfl
    · rw [if_neg h2, if_neg h2]
theorem one_j2t (b : List Int) (k : Nat) (n p : Int) : soundserviceref34_one.j2 (k + 1) b n p true = some ([], 0, 5) := by
  simp only [soundserviceref34_one.j2]
  rw [if_pos trivial]
theorem one_l0 (b : List Int) (hb : b.length < 140737488355328) : ∀ (d p n : Nat), p + d = b.length → n ≤ 4096 → (p = 0 → n = 0) → (0 < p → (n = 0 ↔ (p = 1 ∧ rd b 0 = 48))) →
    Ev (fun k => soundserviceref34_one.l0 k b n p) (finP (scanP (b.drop p) n p)) := by
  intro d
  induction d with
  | zero =>
    intro p n hp hn _ _
    refine Ev.mk 2 (fun k hk => ?_)
    obtain ⟨k, rfl⟩ : ∃ m, k = m + 2 := ⟨k - 2, by omega⟩
    simp only [soundserviceref34_one.l0]
    rw [if_neg (by omega), List.drop_eq_nil_of_le (by omega)]
    simp only [soundserviceref34_one.j1]
    rw [if_neg (by simp), if_pos (by omega)]
    rfl
  | succ d ih =>
    intro p n hp hn i1 i2
    rw [drop_rd b p (by omega)]
    simp only [scanP]
    have hjf : ∀ k, 0 < p → soundserviceref34_one.j1 (k + 1) b n p false = soundserviceref34_one.j2 k b n p (rd b (p : Int) != 58) := by
      intro k h
      simp only [soundserviceref34_one.j1]
      rw [if_neg (by simp), if_neg (by omega), if_neg (by omega), if_pos (by omega), if_pos (by omega)]
    have hjf0 : ∀ k, p = 0 → soundserviceref34_one.j1 (k + 1) b n p false = soundserviceref34_one.j2 k b n p true := by
      intro k h
      simp only [soundserviceref34_one.j1]
      rw [if_neg (by simp), if_neg (by omega), if_pos (by omega)]
    by_cases hd : 48 ≤ rd b (p : Int) ∧ rd b (p : Int) ≤ 57
    · rw [if_neg (by omega)]
      by_cases h2 : 0 < p ∧ n = 0
      · rw [if_pos (.inr (.inr h2))]
        obtain ⟨hp1, h0⟩ := (i2 h2.1).1 h2.2
        refine Ev.mk 3 (fun k hk => ?_)
        obtain ⟨k, rfl⟩ : ∃ m, k = m + 3 := ⟨k - 3, by omega⟩
        simp only [soundserviceref34_one.l0]
        rw [if_pos (by omega), if_pos (by omega), if_pos (by omega), if_pos (by omega), if_pos (by omega), if_pos (by omega), h0]
        have : ((48 : Int) != 48) = false := rfl
        rw [this, hjf _ h2.1]
        have : (rd b (p : Int) != 58) = true := by simp; omega
        rw [this, one_j2t]
        rfl
      · have hl : ∀ k, soundserviceref34_one.l0 (k + 1) b n p = soundserviceref34_one.j1 k b n p true := by
          intro k
          simp only [soundserviceref34_one.l0]
          rw [if_pos (by omega), if_pos (by omega), if_pos (by omega), if_pos (by omega)]
          by_cases hp1 : (p : Int) = 1
          · rw [if_pos hp1, if_pos (by omega)]
            have : (rd b 0 != 48) = true := by
              have h3 : ¬ (rd b 0 = 48) := fun h3 => h2 ⟨by omega, (i2 (by omega)).2 ⟨by omega, h3⟩⟩
              simp [h3]
            rw [this]
          · rw [if_neg hp1]
        rw [if_neg (by omega)]
        have hc : ((rd b (p : Int)) - 48) % 256 = (((rd b (p : Int)) - 48).toNat : Int) := by omega
        have hc9 : ((rd b (p : Int)) - 48).toNat ≤ 9 := by omega
        have e1 : wrap64 (10 * (n : Int)) = ((10 * n : Nat) : Int) := by rw [wrap_id _ (by omega) (by omega)]; omega
        have e2 : wrap64 (((10 * n : Nat) : Int) + (((rd b (p : Int)) - 48).toNat : Int)) = ((10 * n + ((rd b (p : Int)) - 48).toNat : Nat) : Int) := by rw [wrap_id _ (by omega) (by omega)]; omega
        have e3 : wrap64 ((p : Int) + 1) = ((p + 1 : Nat) : Int) := wrap_succ p (by omega)
        by_cases h3 : 4096 < 10 * n + ((rd b (p : Int)) - 48).toNat
        · rw [if_pos h3]
          refine Ev.mk 2 (fun k hk => ?_)
          obtain ⟨k, rfl⟩ : ∃ m, k = m + 2 := ⟨k - 2, by omega⟩
          show soundserviceref34_one.l0 (k + 1 + 1) b n p = _
          rw [hl]
          simp only [soundserviceref34_one.j1]
          rw [if_pos trivial, if_pos (by omega), if_pos (by omega), hc, e1, e2, if_pos (by omega)]
          rfl
        · rw [if_neg h3]
          obtain ⟨K, hK⟩ := ih (p + 1) (10 * n + ((rd b (p : Int)) - 48).toNat) (by omega) (by omega) (by omega) (fun _ => by
            rcases Nat.eq_zero_or_pos p with hz | hz
            · have := i1 hz
              subst hz
              constructor
              · intro h
                have h4 : ((0 : Nat) : Int) = 0 := rfl
                rw [h4] at h hd
                exact ⟨rfl, by omega⟩
              · intro h
                have h4 : ((0 : Nat) : Int) = 0 := rfl
                rw [h4]
                omega
            · constructor
              · intro h
                exact absurd ⟨hz, by omega⟩ h2
              · intro h
                omega)
          dsimp only at hK
          refine Ev.mk (K + 2) (fun k hk => ?_)
          obtain ⟨k, rfl⟩ : ∃ m, k = m + 2 := ⟨k - 2, by omega⟩
          show soundserviceref34_one.l0 (k + 1 + 1) b n p = _
          rw [hl]
          simp only [soundserviceref34_one.j1]
          rw [if_pos trivial, if_pos (by omega), if_pos (by omega), hc, e1, e2, if_neg (by omega), e3]
          exact hK k (by omega)
    · have hl : ∀ k, soundserviceref34_one.l0 (k + 1) b n p = soundserviceref34_one.j1 k b n p false := by
        intro k
        simp only [soundserviceref34_one.l0]
        rw [if_pos (by omega), if_pos (by omega)]
        by_cases h3 : rd b (p : Int) ≥ 48
        · rw [if_pos h3, if_neg (by omega)]
        · rw [if_neg h3]
      refine Ev.mk 3 (fun k hk => ?_)
      obtain ⟨k, rfl⟩ : ∃ m, k = m + 3 := ⟨k - 3, by omega⟩
      show soundserviceref34_one.l0 (k + 1 + 1 + 1) b n p = _
      rw [hl]
      rcases Nat.eq_zero_or_pos p with hz | hz
      · rw [hjf0 _ hz, one_j2t, if_neg (by omega), if_pos (by omega)]
        rfl
      · rw [hjf _ hz]
        by_cases h3 : rd b (p : Int) = 58
        · have : (rd b (p : Int) != 58) = false := by simp [h3]
          rw [this, if_pos ⟨h3, hz⟩]
          exact one_j2f b hb k n p hn (by omega)
        · have : (rd b (p : Int) != 58) = true := by simp [h3]
          rw [this, one_j2t, if_neg (by omega), if_pos (by omega)]
          rfl
theorem one_f (b : List Int) (hb : b.length < 140737488355328) : Ev (fun k => soundserviceref34_one.f k b) (firstP b) := one_l0 b hb b.length 0 0 (by omega) (by omega) (fun _ => rfl) (fun h => absurd h (by omega))

/-- What a frame that is whole takes of the bytes. -/
theorem scan_ok : ∀ (b : List Int) (n p n' p' : Nat) (r : List Int), scanP b n p = .inr (n', p', r) → p ≤ p' ∧ p' - p + 1 + r.length = b.length ∧ 0 < p'
  | [], _, _, _, _, _, h => by simp [scanP] at h
  | c :: b, n, p, n', p', r, h => by
    simp only [scanP] at h
    split at h
    · rename_i h1
      injection h with h
      injection h with h2 h
      injection h with h3 h4
      subst h3; subst h4
      simp
      omega
    · split at h
      · cases h
      · split at h
        · cases h
        · have := scan_ok b _ _ _ _ _ h
          simp
          omega
theorem first_used (b : List Int) : (firstP b).2.1 = 0 ∨ (3 ≤ (firstP b).2.1 ∧ (firstP b).2.1 ≤ b.length ∧ (firstP b).1.length ≤ b.length) := by
  unfold firstP
  cases h : scanP b 0 0 with
  | inl e => exact .inl rfl
  | inr x =>
    obtain ⟨n, p, r⟩ := x
    have := scan_ok b 0 0 n p r h
    simp only [finP]
    split
    · exact .inl rfl
    · split
      · right
        simp
        omega
      · exact .inl rfl
/-- All the frames at the beginning of bytes. -/
def splitP : Nat → List Int → List (List Int) × Int × Int
  | 0, _ => ([], 0, 0)
  | m + 1, b => if (firstP b).2.1 = 0 then ([], 0, (firstP b).2.2) else ((firstP b).1 :: (splitP m (b.drop (firstP b).2.1.toNat)).1, (firstP b).2.1 + (splitP m (b.drop (firstP b).2.1.toNat)).2.1, (splitP m (b.drop (firstP b).2.1.toNat)).2.2)
theorem splitP_used : ∀ (m : Nat) (b : List Int), 0 ≤ (splitP m b).2.1 ∧ (splitP m b).2.1 ≤ b.length ∧ (splitP m b).1.length ≤ b.length
  | 0, b => by simp [splitP]
  | m + 1, b => by
    simp only [splitP]
    split
    · simp
    · rename_i h
      have h1 := first_used b
      have h2 := splitP_used m (b.drop (firstP b).2.1.toNat)
      rw [List.length_drop] at h2
      simp only [List.length_cons]
      omega
theorem split_l0 (b : List Int) (hb : b.length < 2000000000000) : ∀ (m p : Nat) (acc : List (List Int)), p ≤ b.length → acc.length ≤ p → b.length - p < m →
    Ev (fun k => framing_Split.l0 k b acc p) (acc ++ (splitP m (b.drop p)).1, (p : Int) + (splitP m (b.drop p)).2.1, (splitP m (b.drop p)).2.2) := by
  intro m
  induction m with
  | zero => intro p acc hp ha hm; omega
  | succ m ih =>
    intro p acc hp ha hm
    obtain ⟨K, hK⟩ := first_f (b.drop p) (by rw [List.length_drop]; omega)
    dsimp only at hK
    have hu := first_used (b.drop p)
    rw [List.length_drop] at hu
    simp only [splitP]
    by_cases h0 : (firstP (b.drop p)).2.1 = 0
    · rw [if_pos h0]
      refine Ev.mk (K + 1) (fun k hk => ?_)
      obtain ⟨k, rfl⟩ : ∃ m, k = m + 1 := ⟨k - 1, by omega⟩
      simp only [framing_Split.l0]
      rw [if_pos (by omega), if_pos (by omega), Int.toNat_natCast, hK k (by omega), Option.bind_some, if_pos h0]
      simp
    · rw [if_neg h0]
      obtain ⟨u, hu1⟩ : ∃ u : Nat, (firstP (b.drop p)).2.1 = (u : Int) := ⟨_, (Int.toNat_of_nonneg (by omega)).symm⟩
      rw [hu1] at hu h0 ⊢
      obtain ⟨K2, hK2⟩ := ih (p + u) (acc ++ [(firstP (b.drop p)).1]) (by omega) (by simp; omega) (by omega)
      dsimp only at hK2
      refine Ev.mk (K + K2 + 1) (fun k hk => ?_)
      obtain ⟨k, rfl⟩ : ∃ m, k = m + 1 := ⟨k - 1, by omega⟩
      simp only [framing_Split.l0]
      rw [if_pos (by omega), if_pos (by omega), Int.toNat_natCast, hK k (by omega), Option.bind_some, hu1, if_neg h0, slices_Clone_byte_byte.f, if_pos (by omega), Option.bind_some, if_pos (by omega),
        wrap_id _ (by omega) (by omega), show (p : Int) + (u : Int) = ((p + u : Nat) : Int) by omega, hK2 k (by omega)]
      simp only [Int.toNat_natCast, List.drop_drop, List.append_assoc, List.cons_append, List.nil_append]
      congr 3
      omega
theorem split_f (b : List Int) (hb : b.length < 2000000000000) : Ev (fun k => framing_Split.f k b) (splitP (b.length + 1) b) := by
  have h := split_l0 b hb (b.length + 1) 0 [] (by omega) (by simp) (by omega)
  simpa [framing_Split.f] using h
theorem refsplit_l0 (b : List Int) (hb : b.length < 2000000000000) : ∀ (m p : Nat) (acc : List (List Int)), p ≤ b.length → acc.length ≤ p → b.length - p < m →
    Ev (fun k => soundserviceref34_Split.l0 k b acc p) (acc ++ (splitP m (b.drop p)).1, (p : Int) + (splitP m (b.drop p)).2.1, (splitP m (b.drop p)).2.2) := by
  intro m
  induction m with
  | zero => intro p acc hp ha hm; omega
  | succ m ih =>
    intro p acc hp ha hm
    obtain ⟨K, hK⟩ := one_f (b.drop p) (by rw [List.length_drop]; omega)
    dsimp only at hK
    have hu := first_used (b.drop p)
    rw [List.length_drop] at hu
    simp only [splitP]
    by_cases h0 : (firstP (b.drop p)).2.1 = 0
    · rw [if_pos h0]
      refine Ev.mk (K + 1) (fun k hk => ?_)
      obtain ⟨k, rfl⟩ : ∃ m, k = m + 1 := ⟨k - 1, by omega⟩
      simp only [soundserviceref34_Split.l0]
      rw [if_pos (by omega), if_pos (by omega), Int.toNat_natCast, hK k (by omega), Option.bind_some, if_pos h0]
      simp
    · rw [if_neg h0]
      obtain ⟨u, hu1⟩ : ∃ u : Nat, (firstP (b.drop p)).2.1 = (u : Int) := ⟨_, (Int.toNat_of_nonneg (by omega)).symm⟩
      rw [hu1] at hu h0 ⊢
      obtain ⟨K2, hK2⟩ := ih (p + u) (acc ++ [(firstP (b.drop p)).1]) (by omega) (by simp; omega) (by omega)
      dsimp only at hK2
      refine Ev.mk (K + K2 + 1) (fun k hk => ?_)
      obtain ⟨k, rfl⟩ : ∃ m, k = m + 1 := ⟨k - 1, by omega⟩
      simp only [soundserviceref34_Split.l0]
      rw [if_pos (by omega), if_pos (by omega), Int.toNat_natCast, hK k (by omega), Option.bind_some, hu1, if_neg h0, if_pos (by omega),
        wrap_id _ (by omega) (by omega), show (p : Int) + (u : Int) = ((p + u : Nat) : Int) by omega, hK2 k (by omega)]
      simp only [Int.toNat_natCast, List.drop_drop, List.append_assoc, List.cons_append, List.nil_append]
      congr 3
      omega
theorem refsplit_f (b : List Int) (hb : b.length < 2000000000000) : Ev (fun k => soundserviceref34_Split.f k b) (splitP (b.length + 1) b) := by
  have h := refsplit_l0 b hb (b.length + 1) 0 [] (by omega) (by simp) (by omega)
  simpa [soundserviceref34_Split.f] using h
/-- A list of payloads is equal to itself. -/
theorem same_l0 (l : List (List Int)) (hl : l.length ≤ 4611686018427387904) : ∀ (d i : Nat), i + d = l.length → Ev (fun k => soundserviceref34_Same.l0 k l l i) true := by
  intro d
  induction d with
  | zero =>
    intro i hi
    refine Ev.mk 1 (fun k hk => ?_)
    obtain ⟨k, rfl⟩ : ∃ m, k = m + 1 := ⟨k - 1, by omega⟩
    simp only [soundserviceref34_Same.l0]
    rw [if_neg (by omega)]
  | succ d ih =>
    intro i hi
    obtain ⟨K, hK⟩ := ih (i + 1) (by omega)
    dsimp only at hK
    refine Ev.mk (K + 1) (fun k hk => ?_)
    obtain ⟨k, rfl⟩ : ∃ m, k = m + 1 := ⟨k - 1, by omega⟩
    simp only [soundserviceref34_Same.l0]
    rw [if_pos (by omega), if_pos (by omega), if_pos (by omega), if_pos trivial, wrap_succ i (by omega)]
    exact hK k (by omega)
theorem same_refl (l : List (List Int)) (hl : l.length ≤ 4611686018427387904) : Ev (fun k => soundserviceref34_Same.f k l l) true := by
  obtain ⟨K, hK⟩ := same_l0 l hl l.length 0 (by omega)
  dsimp only at hK
  refine Ev.mk K (fun k hk => ?_)
  unfold soundserviceref34_Same.f
  rw [if_pos rfl]
  exact hK k hk
end Go.Proofs.YteiboagmpgffaaaDoor.U
