/- The payloads of a deck and their frames: what the printed 'stream' makes; frames that are read again, whole or cut. Conditions: as each states. -/
import Derived.Test.YteiboagmpgffaaaDoorFC
namespace Go.Proofs.YteiboagmpgffaaaDoor.U
set_option linter.unusedSimpArgs false
set_option linter.unusedVariables false
open Go.RowKit Go.Proofs.YteiboagmpgffaaaDoor.P Go.Proofs.YteiboagmpgffaaaDoorW.PrintWords Go.Proofs.YteiboagmpgffaaaDoorW.PrintLast Go.Proofs.YteiboagmpgffaaaDoorW.PrintMore Go.Proofs.YteiboagmpgffaaaDoorW.Mine

theorem mod_f (v n : Int) (hn : 0 < n) (hn2 : n < 140737488355328) : ∃ r, soundservicemill_Mod.f v n = some r ∧ 0 ≤ r ∧ r < n := by
  unfold soundservicemill_Mod.f
  have h1 := Int.tmod_lt_of_pos v hn
  have h2 : -n < Int.tmod v n := by
    have := Int.tmod_lt_of_pos (-v) hn
    rw [Int.neg_tmod] at this
    omega
  rw [if_neg (by omega)]
  by_cases h3 : Int.tmod v n < 0
  · rw [if_pos h3]
    exact ⟨_, rfl, by rw [wrap_id _ (by omega) (by omega)]; omega, by rw [wrap_id _ (by omega) (by omega)]; omega⟩
  · rw [if_neg h3]
    exact ⟨_, rfl, by omega, h1⟩
theorem next_f (l : List Int) (hl : l.length ≤ 4611686018427387904) (p : Nat) (n : Int) (hn : 0 < n) (hn2 : n < 140737488355328) :
    ∃ (r : Int) (p' : Nat), soundservicemill_Deck_Next.f l p n = some (r, (p' : Int)) ∧ 0 ≤ r ∧ r < n := by
  unfold soundservicemill_Deck_Next.f soundservicemill_Deck_Left.f
  rw [Option.bind_some]
  by_cases h : (p : Int) < (l.length : Int)
  · have e1 : wrap64 ((p : Int) + 1) = ((p + 1 : Nat) : Int) := wrap_succ p (by omega)
    have e2 : wrap64 (((p + 1 : Nat) : Int) - 1) = (p : Int) := by rw [wrap_id _ (by omega) (by omega)]; omega
    obtain ⟨r, hr, h1, h2⟩ := mod_f (rd l p) n hn hn2
    refine ⟨r, p + 1, ?_, h1, h2⟩
    simp only
    rw [if_pos (decide_eq_true h), e1, e2, if_pos (by omega), if_pos h, hr, Option.bind_some]
  · refine ⟨0, p, ?_, by omega, hn⟩
    simp only
    rw [if_neg (by simpa using h)]
def framesP (out : List (List Int)) : List Int := (out.map encP).flatten
theorem framesP_len : ∀ (out : List (List Int)), (∀ q ∈ out, q.length ≤ 13) → (framesP out).length ≤ 19 * out.length
  | [], _ => by simp [framesP]
  | p :: r, h => by
    have h1 := encP_len p (by have := h p (by simp); omega)
    have h2 := framesP_len r (fun q hq => h q (by simp [hq]))
    have h3 := h p (by simp)
    simp only [framesP, List.map_cons, List.flatten_cons, List.length_append, List.length_cons] at h2 ⊢
    omega
theorem framesP_snoc (out : List (List Int)) (p : List Int) : framesP (out ++ [p]) = framesP out ++ encP p := by simp [framesP]
theorem stream_l1 (l : List Int) (hl : l.length ≤ 4611686018427387904) (out : List (List Int)) (n : Nat) :
    (∀ (p : List Int) (q : Nat), p.length ≤ 13 → ∃ out', (∀ z ∈ out', z.length ≤ 13) ∧ out'.length = n ∧ Ev (fun k => soundservicelaw34_stream.l0 k (out ++ [p]) (framesP (out ++ [p])) n l q) (out ++ [p] ++ out', framesP (out ++ [p] ++ out'))) →
    out.length ≤ 10 → (∀ z ∈ out, z.length ≤ 13) → n ≤ 10 →
    ∀ (d : Nat) (p : List Int) (q : Nat), p.length + d ≤ 13 →
    ∃ p' out', p'.length ≤ 13 ∧ (∀ z ∈ out', z.length ≤ 13) ∧ out'.length = n ∧ Ev (fun k => soundservicelaw34_stream.l1 k out (framesP out) ((n + 1 : Nat) : Int) p d l q) (out ++ [p'] ++ out', framesP (out ++ [p'] ++ out')) := by
  intro hn ho hz hn10 d
  induction d with
  | zero =>
    intro p q hp
    obtain ⟨out', h1, h2, K, hK⟩ := hn p q (by omega)
    dsimp only at hK
    obtain ⟨K2, hK2⟩ := refenc_f p (by omega)
    dsimp only at hK2
    have hf := framesP_len out hz
    have he := encP_len p (by omega)
    refine ⟨p, out', by omega, h1, h2, Ev.mk (K + K2 + 1) (fun k hk => ?_)⟩
    obtain ⟨k, rfl⟩ : ∃ m, k = m + 1 := ⟨k - 1, by omega⟩
    simp only [soundservicelaw34_stream.l1]
    rw [if_neg (by omega), hK2 k (by omega), Option.bind_some, if_pos (by omega), if_pos (by simp only; omega), ← framesP_snoc, wrap_id _ (by omega) (by omega), show ((n + 1 : Nat) : Int) - 1 = (n : Int) by omega]
    exact hK k (by omega)
  | succ d ih =>
    intro p q hp
    obtain ⟨r, q', hr, hr0, hr9⟩ := next_f l hl q 9 (by omega) (by omega)
    obtain ⟨p', out', h1, h2, h3, K, hK⟩ := ih (p ++ [bt (⟨#[48, 49, 50, 51, 58, 44, 97, 98, 10]⟩ : ByteArray) r]) q' (by simp; omega)
    dsimp only at hK
    refine ⟨p', out', h1, h2, h3, Ev.mk (K + 1) (fun k hk => ?_)⟩
    obtain ⟨k, rfl⟩ : ∃ m, k = m + 1 := ⟨k - 1, by omega⟩
    simp only [soundservicelaw34_stream.l1]
    rw [if_pos (by omega), hr, Option.bind_some]
    simp only
    rw [if_pos hr0, if_pos hr9, if_pos (by omega), wrap_id _ (by omega) (by omega), show ((d + 1 : Nat) : Int) - 1 = (d : Int) by omega]
    exact hK k (by omega)
theorem stream_l0 (l : List Int) (hl : l.length ≤ 4611686018427387904) : ∀ (n : Nat) (out : List (List Int)) (q : Nat), out.length + n ≤ 10 → (∀ z ∈ out, z.length ≤ 13) →
    ∃ out', (∀ z ∈ out', z.length ≤ 13) ∧ out'.length = n ∧ Ev (fun k => soundservicelaw34_stream.l0 k out (framesP out) n l q) (out ++ out', framesP (out ++ out')) := by
  intro n
  induction n with
  | zero =>
    intro out q ho hz
    refine ⟨[], by simp, rfl, Ev.mk 1 (fun k hk => ?_)⟩
    obtain ⟨k, rfl⟩ : ∃ m, k = m + 1 := ⟨k - 1, by omega⟩
    simp only [soundservicelaw34_stream.l0]
    rw [if_neg (by omega), List.append_nil]
  | succ n ih =>
    intro out q ho hz
    obtain ⟨r, q', hr, hr0, hr9⟩ := next_f l hl q 14 (by omega) (by omega)
    obtain ⟨d, rfl⟩ := Int.eq_ofNat_of_zero_le hr0
    obtain ⟨p', out', h1, h2, h3, K, hK⟩ := stream_l1 l hl out n (fun p q hp => ih (out ++ [p]) q (by simp; omega) (by
      intro z hzz
      rcases List.mem_append.1 hzz with h | h
      · exact hz z h
      · have : z = p := by simpa using h
        rw [this]; exact hp)) (by omega) hz (by omega) d [] q' (by simp; omega)
    dsimp only at hK
    refine ⟨p' :: out', ?_, by simp [h3], Ev.mk (K + 1) (fun k hk => ?_)⟩
    · intro z hzz
      rcases List.mem_cons.1 hzz with h | h
      · rw [h]; exact h1
      · exact h2 z h
    obtain ⟨k, rfl⟩ : ∃ m, k = m + 1 := ⟨k - 1, by omega⟩
    simp only [soundservicelaw34_stream.l0]
    rw [if_pos (by omega), hr, Option.bind_some]
    simp only
    have := hK k (by omega)
    simpa using this
theorem stream_f (l : List Int) (hl : l.length ≤ 4611686018427387904) : ∃ out : List (List Int), (∀ z ∈ out, z.length ≤ 13) ∧ out.length ≤ 5 ∧ Ev (fun k => soundservicelaw34_stream.f k l) (out, framesP out) := by
  obtain ⟨r, q', hr, hr0, hr9⟩ := next_f l hl 0 6 (by omega) (by omega)
  obtain ⟨d, rfl⟩ := Int.eq_ofNat_of_zero_le hr0
  obtain ⟨out, h1, h2, K, hK⟩ := stream_l0 l hl d [] q' (by simp; omega) (by simp)
  dsimp only at hK
  refine ⟨out, h1, by omega, Ev.mk K (fun k hk => ?_)⟩
  unfold soundservicelaw34_stream.f soundservicemill_New.f
  rw [Option.bind_some]
  simp only
  have h0 : ((0 : Nat) : Int) = 0 := rfl
  rw [h0] at hr
  rw [hr, Option.bind_some]
  exact hK k (by omega)

/-! ### Frames that are read again -/
theorem scan_dec1 (c : Nat) (hc : c < 10) (r : List Int) : scanP ((48 + c : Int) :: 58 :: r) 0 0 = .inr (c, 1, r) := by
  simp only [scanP]
  rw [if_neg (by omega), if_neg (by omega), show ((48 : Int) + (c : Int) - 48).toNat = c by omega, if_neg (by omega)]
  simp
theorem scan_dec2 (a c : Nat) (ha : a < 10) (ha0 : 0 < a) (hc : c < 10) (r : List Int) : scanP ((48 + a : Int) :: (48 + c : Int) :: 58 :: r) 0 0 = .inr (10 * a + c, 2, r) := by
  simp only [scanP]
  rw [if_neg (by omega), if_neg (by omega), show ((48 : Int) + (a : Int) - 48).toNat = a by omega, if_neg (by omega), if_neg (by omega), if_neg (by omega), show ((48 : Int) + (c : Int) - 48).toNat = c by omega, if_neg (by omega)]
  simp
theorem first_enc (p : List Int) (h : p.length ≤ 13) (r : List Int) : firstP (encP p ++ r) = (p, ((encP p).length : Int), 0) := by
  have key : ∀ (m : Nat), (decP p.length).length = m → scanP (encP p ++ r) 0 0 = .inr (p.length, m, p ++ [44] ++ r) → firstP (encP p ++ r) = (p, ((encP p).length : Int), 0) := by
    intro m hm hs
    unfold firstP
    rw [hs]
    simp only [finP]
    rw [if_neg (by simp)]
    have : rd (p ++ [44] ++ r) (p.length : Int) = 44 := by simp [rd, List.getD_eq_getElem?_getD]
    rw [if_pos this]
    refine Prod.ext ?_ (Prod.ext ?_ rfl)
    · simp
    · simp only [encP, List.length_append, List.length_cons, List.length_nil]
      omega
  rcases Nat.lt_or_ge p.length 10 with h1 | h1
  · refine key 1 (by rw [decP_small _ h1]; rfl) ?_
    unfold encP
    rw [decP_small _ h1]
    simp only [List.cons_append, List.nil_append, List.append_assoc]
    rw [scan_dec1 _ h1]
  · have h2 : decP p.length = [(48 + (p.length / 10 : Nat) : Int), (48 + (p.length % 10 : Nat) : Int)] := by rw [decP_big _ (by omega), decP_small _ (by omega), decP_small _ (by omega)]; rfl
    refine key 2 (by rw [h2]; rfl) ?_
    unfold encP
    rw [h2]
    simp only [List.cons_append, List.nil_append, List.append_assoc]
    rw [scan_dec2 _ _ (by omega) (by omega) (by omega), show 10 * (p.length / 10) + p.length % 10 = p.length by omega]
/-- A frame that is cut is not whole, and no error. -/
theorem first_cut (p : List Int) (h : p.length ≤ 13) (m : Nat) (hm : m < (encP p).length) : firstP ((encP p).take m) = ([], 0, 0) := by
  have tail : ∀ (n w j : Nat), p.length = n → j < n + 1 → finP (.inr (n, w, (p ++ [44]).take j)) = ([], 0, 0) := by
    intro n w j hn hj
    simp only [finP]
    rw [if_pos (by simp; omega)]
  rcases Nat.lt_or_ge p.length 10 with h1 | h1
  · have he : encP p = (48 + p.length : Int) :: 58 :: (p ++ [44]) := by unfold encP; rw [decP_small _ h1]; simp
    rw [he] at hm ⊢
    rcases m with _ | _ | m
    · rfl
    · simp only [List.take_succ_cons, List.take_zero]
      unfold firstP
      simp only [scanP]
      rw [if_neg (by omega), if_neg (by omega), if_neg (by omega)]
      rfl
    · simp only [List.take_succ_cons]
      unfold firstP
      rw [scan_dec1 _ h1]
      exact tail _ _ _ rfl (by simp at hm; omega)
  · have h2 : decP p.length = [(48 + (p.length / 10 : Nat) : Int), (48 + (p.length % 10 : Nat) : Int)] := by rw [decP_big _ (by omega), decP_small _ (by omega), decP_small _ (by omega)]; rfl
    have he : encP p = (48 + (p.length / 10 : Nat) : Int) :: (48 + (p.length % 10 : Nat) : Int) :: 58 :: (p ++ [44]) := by unfold encP; rw [h2]; simp
    rw [he] at hm ⊢
    rcases m with _ | _ | _ | m
    · rfl
    · simp only [List.take_succ_cons, List.take_zero]
      unfold firstP
      simp only [scanP]
      rw [if_neg (by omega), if_neg (by omega), if_neg (by omega)]
      rfl
    · simp only [List.take_succ_cons, List.take_zero]
      unfold firstP
      simp only [scanP]
      rw [if_neg (by omega), if_neg (by omega), if_neg (by omega), if_neg (by omega), if_neg (by omega), if_neg (by omega)]
      rfl
    · simp only [List.take_succ_cons]
      unfold firstP
      rw [scan_dec2 _ _ (by omega) (by omega) (by omega), show 10 * (p.length / 10) + p.length % 10 = p.length by omega]
      exact tail _ _ _ rfl (by simp at hm; omega)
theorem framesP_cons (p : List Int) (r : List (List Int)) : framesP (p :: r) = encP p ++ framesP r := by simp [framesP]
/-- Frames, cut anywhere: so many are read as are whole. -/
theorem split_cut : ∀ (out : List (List Int)), (∀ z ∈ out, z.length ≤ 13) → ∀ (m F : Nat), (framesP out).length < F → ∃ j, j ≤ out.length ∧ splitP F ((framesP out).take m) = (out.take j, ((framesP (out.take j)).length : Int), 0) ∧ (framesP (out.take j)).length ≤ m ∧ ((framesP out).length ≤ m → j = out.length)
  | [], _, m, F, hF => by
    refine ⟨0, by simp, ?_, by simp [framesP], by simp⟩
    cases F with
    | zero => omega
    | succ F => simp [framesP, splitP]; rfl
  | p :: r, h, m, F, hF => by
    have hp := h p (by simp)
    have hl := encP_len p (by omega)
    rw [framesP_cons] at hF ⊢
    rw [List.length_append] at hF ⊢
    obtain ⟨F, rfl⟩ : ∃ F', F = F' + 1 := ⟨F - 1, by omega⟩
    rcases Nat.lt_or_ge m (encP p).length with hm | hm
    · refine ⟨0, by omega, ?_, by simp [framesP], by omega⟩
      rw [List.take_append_of_le_length (by omega)]
      simp only [splitP]
      rw [first_cut p hp m hm]
      rfl
    · obtain ⟨j, h1, h2, h3, h4⟩ := split_cut r (fun z hz => h z (by simp [hz])) (m - (encP p).length) F (by omega)
      refine ⟨j + 1, by simp; omega, ?_, ?_, fun hmm => by simp; exact h4 (by omega)⟩
      · rw [List.take_append, List.take_of_length_le hm]
        simp only [splitP]
        rw [first_enc p hp]
        simp only
        rw [if_neg (by omega), Int.toNat_natCast, List.drop_left, h2]
        simp only [List.take_succ_cons, framesP_cons, List.length_append]
        refine Prod.ext rfl (Prod.ext ?_ rfl)
        simp
      · simp only [List.take_succ_cons, framesP_cons, List.length_append]
        omega
end Go.Proofs.YteiboagmpgffaaaDoor.U
