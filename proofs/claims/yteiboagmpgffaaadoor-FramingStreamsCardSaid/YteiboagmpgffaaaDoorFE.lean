/- The pure statements of the laws FramingStreams and FramingRecovers. Conditions: none beyond the statements'. -/
import Derived.Test.YteiboagmpgffaaaDoorFD
namespace Go.Proofs.YteiboagmpgffaaaDoor.U
set_option linter.unusedSimpArgs false
set_option linter.unusedVariables false
open Go.RowKit Go.Proofs.YteiboagmpgffaaaDoor.P Go.Proofs.YteiboagmpgffaaaDoorW.PrintWords Go.Proofs.YteiboagmpgffaaaDoorW.PrintLast Go.Proofs.YteiboagmpgffaaaDoorW.PrintMore Go.Proofs.YteiboagmpgffaaaDoorW.Mine

theorem split_F (b : List Int) (hb : b.length < 2000000000000) (F : Nat) (hF : b.length < F) : Ev (fun k => framing_Split.f k b) (splitP F b) := by
  have h := split_l0 b hb F 0 [] (by omega) (by simp) (by omega)
  simpa [framing_Split.f] using h
theorem framesP_split (out : List (List Int)) (j : Nat) : framesP out = framesP (out.take j) ++ framesP (out.drop j) := by
  unfold framesP
  rw [← List.flatten_append, ← List.map_append, List.take_append_drop]
theorem FramingStreams_pure : soundservicelaw34_FramingStreams.Pure := by
  intro l0 a1 hm hs hw hw1
  obtain ⟨Ks, hKs⟩ := sane_ev
  obtain ⟨out, hz, ho, Kt, hKt⟩ := stream_f l0 (by omega)
  dsimp only at hKs hKt
  have hf := framesP_len out hz
  have e1 : wrap64 (((framesP out).length : Int) + 1) = (((framesP out).length + 1 : Nat) : Int) := wrap_succ _ (by omega)
  obtain ⟨c, hc, hc0, hc1⟩ := mod_f a1 (((framesP out).length + 1 : Nat) : Int) (by omega) (by omega)
  obtain ⟨m, rfl⟩ := Int.eq_ofNat_of_zero_le hc0
  obtain ⟨j, hj, hsp, hle, _⟩ := split_cut out hz m ((framesP out).length + 1) (by omega)
  obtain ⟨K1, hK1⟩ := split_F ((framesP out).take m) (by simp; omega) ((framesP out).length + 1) (by simp; omega)
  dsimp only at hK1
  rw [hsp] at hK1
  have hfs := framesP_split out j
  have hfl : (framesP out).length = (framesP (out.take j)).length + (framesP (out.drop j)).length := by
    have := congrArg List.length hfs
    rwa [List.length_append] at this
  have hdrop : (framesP out).drop (framesP (out.take j)).length = framesP (out.drop j) := by
    rw [hfs, List.drop_left]
  obtain ⟨i, hi, hsp2, _, hall⟩ := split_cut (out.drop j) (fun z hzz => hz z (List.mem_of_mem_drop hzz)) (framesP (out.drop j)).length ((framesP (out.drop j)).length + 1) (by omega)
  have hii := hall (Nat.le_refl _)
  rw [hii, List.take_of_length_le (Nat.le_refl _), List.take_of_length_le (Nat.le_refl _)] at hsp2
  obtain ⟨K2, hK2⟩ := split_F (framesP (out.drop j)) (by omega) ((framesP (out.drop j)).length + 1) (by omega)
  dsimp only at hK2
  rw [hsp2] at hK2
  obtain ⟨K3, hK3⟩ := same_refl out (by omega)
  dsimp only at hK3
  refine ⟨Ks + Kt + K1 + K2 + K3 + 1, ?_⟩
  unfold soundservicelaw34_FramingStreams.f
  rw [hKs _ (by omega), Option.bind_some, if_pos rfl, hKt _ (by omega), Option.bind_some]
  simp only
  rw [e1, hc, Option.bind_some, if_pos (by omega), if_pos (by omega), Int.toNat_natCast, hK1 _ (by omega), Option.bind_some]
  simp only
  rw [if_pos trivial, if_neg (by omega), decide_eq_false (by omega)]
  simp only [soundservicelaw34_FramingStreams.j0]
  rw [if_neg (by simp), if_pos (by omega), if_pos (by omega), Int.toNat_natCast, hdrop, hK2 _ (by omega), Option.bind_some]
  simp only [Option.bind_some, List.nil_append]
  have hjl : (out.take j).length ≤ 5 := by rw [List.length_take]; omega
  have hjd : (out.drop j).length ≤ 5 := by rw [List.length_drop]; omega
  rw [if_pos trivial, wrap_id _ (by omega) (by omega), if_pos (by omega), if_pos (by simp only [List.length_nil]; omega), if_pos (by omega), List.take_append_drop, hK3 _ (by omega), Option.bind_some]

/-- Where the next frame stands. -/
theorem resync_l0 (b : List Int) (hb : b.length < 140737488355328) : ∀ (d p : Nat), p + d = b.length →
    ∃ v : Nat, p ≤ v ∧ v ≤ b.length ∧ (v < b.length → (firstP (b.drop v)).2.1 > 0) ∧ (∀ i, p ≤ i → i < v → ¬ (firstP (b.drop i)).2.1 > 0) ∧ Ev (fun k => framing_Resync.l0 k b p) (v : Int) := by
  intro d
  induction d with
  | zero =>
    intro p hp
    refine ⟨p, by omega, by omega, by omega, fun i h1 h2 => by omega, Ev.mk 1 (fun k hk => ?_)⟩
    obtain ⟨k, rfl⟩ : ∃ m, k = m + 1 := ⟨k - 1, by omega⟩
    simp only [framing_Resync.l0]
    rw [if_neg (by omega), show (b.length : Int) = (p : Int) by omega]
  | succ d ih =>
    intro p hp
    obtain ⟨K, hK⟩ := first_f (b.drop p) (by rw [List.length_drop]; omega)
    dsimp only at hK
    by_cases h : (firstP (b.drop p)).2.1 > 0
    · refine ⟨p, by omega, by omega, fun _ => h, fun i h1 h2 => by omega, Ev.mk (K + 1) (fun k hk => ?_)⟩
      obtain ⟨k, rfl⟩ : ∃ m, k = m + 1 := ⟨k - 1, by omega⟩
      simp only [framing_Resync.l0]
      rw [if_pos (by omega), if_pos (by omega), if_pos (by omega), Int.toNat_natCast, hK k (by omega), Option.bind_some, if_pos h]
    · obtain ⟨v, h1, h2, h3, h4, K2, hK2⟩ := ih (p + 1) (by omega)
      dsimp only at hK2
      refine ⟨v, by omega, h2, h3, fun i i1 i2 => ?_, Ev.mk (K + K2 + 1) (fun k hk => ?_)⟩
      · rcases Nat.eq_or_lt_of_le i1 with hi | hi
        · rw [← hi]; exact h
        · exact h4 i hi i2
      · obtain ⟨k, rfl⟩ : ∃ m, k = m + 1 := ⟨k - 1, by omega⟩
        simp only [framing_Resync.l0]
        rw [if_pos (by omega), if_pos (by omega), if_pos (by omega), Int.toNat_natCast, hK k (by omega), Option.bind_some, if_neg h, wrap_succ p (by omega)]
        exact hK2 k (by omega)
theorem resync_f (b : List Int) (hb : b.length < 140737488355328) (h0 : 0 < b.length) :
    ∃ v : Nat, 1 ≤ v ∧ v ≤ b.length ∧ (v < b.length → (firstP (b.drop v)).2.1 > 0) ∧ (∀ i, 1 ≤ i → i < v → ¬ (firstP (b.drop i)).2.1 > 0) ∧ Ev (fun k => framing_Resync.f k b) (v : Int) :=
  resync_l0 b hb (b.length - 1) 1 (by omega)
theorem FramingRecovers_pure : soundservicelaw34_FramingRecovers.Pure := by
  intro l0 l1 hm hs hw hm1 hs1 hw1
  obtain ⟨Ks, hKs⟩ := sane_ev
  obtain ⟨out, hz, ho, Kt, hKt⟩ := stream_f l0 (by omega)
  dsimp only at hKs hKt
  have hf := framesP_len out hz
  by_cases h60 : (l1.length : Int) > 60
  · refine ⟨Ks, ?_⟩
    unfold soundservicelaw34_FramingRecovers.f
    rw [hKs _ (by omega), Option.bind_some, if_pos rfl, if_pos h60]
  · have hxl : (l1 ++ framesP out).length = l1.length + (framesP out).length := List.length_append
    rcases Nat.eq_zero_or_pos (l1 ++ framesP out).length with hx | hx
    · refine ⟨Ks + Kt + 1, ?_⟩
      have hx0 : l1 ++ framesP out = [] := List.eq_nil_of_length_eq_zero hx
      unfold soundservicelaw34_FramingRecovers.f
      rw [hKs _ (by omega), Option.bind_some, if_pos rfl, if_neg h60, hKt _ (by omega), Option.bind_some, Option.bind_some]
      simp only [List.nil_append, List.length_nil]
      rw [if_pos (by omega), Option.bind_some, if_pos (by omega), Option.bind_some, hx0]
      have : framing_Resync.f (Ks + Kt + 1) [] = some 0 := rfl
      rw [this, Option.bind_some]
      rfl
    · obtain ⟨v, hv1, hv2, hv3, hv4, K1, hK1⟩ := resync_f (l1 ++ framesP out) (by omega) hx
      obtain ⟨K2, hK2⟩ := split_f ((l1 ++ framesP out).drop v) (by rw [List.length_drop]; omega)
      dsimp only at hK1 hK2
      have hu := splitP_used (((l1 ++ framesP out).drop v).length + 1) ((l1 ++ framesP out).drop v)
      have hfu := first_used ((l1 ++ framesP out).drop v)
      rw [List.length_drop] at hfu
      refine ⟨Ks + Kt + K1 + K2 + 1, ?_⟩
      unfold soundservicelaw34_FramingRecovers.f
      rw [hKs _ (by omega), Option.bind_some, if_pos rfl, if_neg h60, hKt _ (by omega), Option.bind_some, Option.bind_some]
      simp only [List.nil_append, List.length_nil]
      rw [if_pos (by omega), Option.bind_some, if_pos (by omega), Option.bind_some, hK1 _ (by omega), Option.bind_some, if_neg (by omega), if_neg (by omega), decide_eq_false (by omega)]
      simp only [soundservicelaw34_FramingRecovers.j0]
      rw [if_neg (by simp), if_pos (by omega), if_pos (by omega), Int.toNat_natCast, hK2 _ (by omega), Option.bind_some]
      by_cases hv : v < (l1 ++ framesP out).length
      · have h3 := hv3 hv
        have hF : ∀ F, 3 ≤ (splitP (F + 1) ((l1 ++ framesP out).drop v)).2.1 ∧ 1 ≤ (splitP (F + 1) ((l1 ++ framesP out).drop v)).1.length := by
          intro F
          have h4 := splitP_used F (((l1 ++ framesP out).drop v).drop (firstP ((l1 ++ framesP out).drop v)).2.1.toNat)
          simp only [splitP]
          rw [if_neg (by omega)]
          simp only [List.length_cons]
          omega
        have hF' := hF ((l1 ++ framesP out).drop v).length
        rw [List.length_drop] at hu
        rw [if_pos (by omega), if_pos (by omega), if_pos (by omega), wrap_id _ (by omega) (by omega), decide_eq_true]
        rw [List.length_drop]
        omega
      · rw [if_neg (by omega)]
        by_cases hl1 : (l1.length : Int) = 0
        · rw [if_pos hl1]
        · rw [if_neg hl1]
          cases hout : out with
          | nil => rfl
          | cons p r =>
            exfalso
            rw [hout] at hz hv4 hv hxl
            rw [framesP_cons] at hv4 hv hxl
            have hpl := encP_len p (by have := hz p (by simp); omega)
            rw [List.length_append] at hxl
            have := hv4 l1.length (by omega) (by rw [List.length_append, List.length_append] at hv; omega)
            rw [List.drop_left, first_enc p (hz p (by simp))] at this
            simp only at this
            omega
end Go.Proofs.YteiboagmpgffaaaDoor.U
