-- WRITTEN BY handprint.py, this session's program round the kit's print.py
import Derived.Test.YteiboagmpgffaaaDoorPx0
import Derived.Test.YteiboagmpgffaaaDoorPx1
import Derived.Test.YteiboagmpgffaaaDoorPx2
namespace Go.Proofs.YteiboagmpgffaaaDoor.P
open Go.RowKit Go.Proofs.YteiboagmpgffaaaDoorW.PrintWords Go.Proofs.YteiboagmpgffaaaDoorW.PrintLast Go.Proofs.YteiboagmpgffaaaDoorW.PrintMore Go.Proofs.YteiboagmpgffaaaDoorW.Mine
attribute [local go_sem] max2_int min2_int max_two min_two max_three min_three max_four min_four   -- for this text's walks alone
set_option linter.unusedVariables false
set_option linter.unusedSimpArgs false

/-! ### soundservicelaw34_FramingStreams: function 4 -/
def soundservicelaw34_FramingStreams.j0 : Nat → List (List Int) → List Int → List (List Int) → Int → Bool → Option (Bool)
  | 0, _, _, _, _, _ => none
  | k + 1, x5, x6, x8, x9, x44 => if x44 = true then (some false) else (if 0 ≤ x9 then (if x9 ≤ (x6.length : Int) then ((framing_Split.f k (x6.drop (x9 : Int).toNat)).bind fun bt234 => (if bt234.2.2 = 0 then (if (wrap64 (x9 + bt234.2.1)) = (x6.length : Int) then ((some (([] : List (List Int)) : List (List Int))).bind fun y239 => (if y239.length + x8.length < 5864062014805 then ((some (y239 ++ x8 : List (List Int))).bind fun y242 => (if y242.length + bt234.1.length < 5864062014805 then ((soundserviceref34_Same.f k (y242 ++ bt234.1) x5).bind fun t248 => (some t248)) else (none))) else (none))) else (some false)) else (some false))) else (none)) else (none))
def soundservicelaw34_FramingStreams.f (k : Nat) (l0 : List Int) (a1 : Int) : Option (Bool) := (soundservicelaw34_sane.f k).bind fun t211 => (if t211 = true then ((soundservicelaw34_stream.f k l0).bind fun bt212 => ((soundservicemill_Mod.f a1 (wrap64 ((bt212.2.length : Int) + 1))).bind fun t218 => (if 0 ≤ t218 then (if t218 ≤ (bt212.2.length : Int) then ((framing_Split.f k (bt212.2.take (t218 : Int).toNat)).bind fun bt224 => (if bt224.2.2 = 0 then (if bt224.2.1 < 0 then (soundservicelaw34_FramingStreams.j0 k bt212.1 bt212.2 bt224.1 bt224.2.1 true) else (soundservicelaw34_FramingStreams.j0 k bt212.1 bt212.2 bt224.1 bt224.2.1 (decide (bt224.2.1 > t218)))) else (soundservicelaw34_FramingStreams.j0 k bt212.1 bt212.2 bt224.1 bt224.2.1 true))) else (none)) else (none)))) else (some false))
theorem soundservicelaw34_FramingStreams.mono_l : ∀ k, (∀ y0 y1 y2 y3 y4, LeO (soundservicelaw34_FramingStreams.j0 k y0 y1 y2 y3 y4) (soundservicelaw34_FramingStreams.j0 (k + 1) y0 y1 y2 y3 y4))
  | 0 => fun _ _ _ _ _ r h => by simp [soundservicelaw34_FramingStreams.j0] at h
  | k + 1 => by
    have ih0 := soundservicelaw34_FramingStreams.mono_l k
    · intro y0 y1 y2 y3 y4
      unfold soundservicelaw34_FramingStreams.j0
      repeat' first
      | (with_reducible exact ih0 _ _ _ _ _)
      | (with_reducible exact framing_Split.mono _ _)
      | (with_reducible exact soundservicelaw34_sane.mono _)
      | (with_reducible exact soundservicelaw34_stream.mono _ _)
      | (with_reducible exact soundserviceref34_Same.mono _ _ _)
      | (with_reducible exact LeO.refl _)
      | (with_reducible exact LeO.none _)
      | (with_reducible refine LeO.ite ?_ ?_)
      | (with_reducible refine LeO.bind ?_ (fun _ => ?_))
      | exact ih0 _ _ _ _ _
      | exact framing_Split.mono _ _
      | exact soundservicelaw34_sane.mono _
      | exact soundservicelaw34_stream.mono _ _
      | exact soundserviceref34_Same.mono _ _ _
      | exact LeO.none _
      | refine LeO.ite ?_ ?_
      | refine LeO.bind ?_ (fun _ => ?_)
theorem soundservicelaw34_FramingStreams.mono : ∀ a0 a1 k, LeO (soundservicelaw34_FramingStreams.f k a0 a1) (soundservicelaw34_FramingStreams.f (k + 1) a0 a1) := by
  intro a0 a1 k
  have ih0 := soundservicelaw34_FramingStreams.mono_l k
  unfold soundservicelaw34_FramingStreams.f
  repeat' first
      | (with_reducible exact ih0 _ _ _ _ _)
      | (with_reducible exact framing_Split.mono _ _)
      | (with_reducible exact soundservicelaw34_sane.mono _)
      | (with_reducible exact soundservicelaw34_stream.mono _ _)
      | (with_reducible exact soundserviceref34_Same.mono _ _ _)
      | (with_reducible exact LeO.refl _)
      | (with_reducible exact LeO.none _)
      | (with_reducible refine LeO.ite ?_ ?_)
      | (with_reducible refine LeO.bind ?_ (fun _ => ?_))
      | exact ih0 _ _ _ _ _
      | exact framing_Split.mono _ _
      | exact soundservicelaw34_sane.mono _
      | exact soundservicelaw34_stream.mono _ _
      | exact soundserviceref34_Same.mono _ _ _
      | exact LeO.none _
      | refine LeO.ite ?_ ?_
      | refine LeO.bind ?_ (fun _ => ?_)
set_option maxHeartbeats 8000000 in
set_option maxRecDepth 100000 in
theorem soundservicelaw34_FramingStreams.calls (k : Nat) (A0 : Option Addr) (c0 : Nat) (l0 : List Int) (a1 : Int) (r : Bool) (w : World) (hG : Glob w) (hr0 : Kd.C (Kd.int .i64) w A0 l0.length l0) (hc0 : l0.length ≤ c0) (h : soundservicelaw34_FramingStreams.f k l0 a1 = some r) :
    Calls Tryd.prog 4 #[.slice A0 l0.length c0, .int .i64 a1] w fun e w' => e = .returned (.bool r) ∧ Below w.heap.size w w' := by
  have HG := Aside0.mk hG
  clear hG
  have HR0 := Aside0.mk hr0
  have HC0 := Aside0.mk hc0
  clear hr0 hc0
  have HB := Aside0.mk (Below.refl w.heap.size w)
  have H : ((soundservicelaw34_sane.f k).bind fun t211 => (if t211 = true then ((soundservicelaw34_stream.f k l0).bind fun bt212 => ((soundservicemill_Mod.f a1 (wrap64 ((bt212.2.length : Int) + 1))).bind fun t218 => (if 0 ≤ t218 then (if t218 ≤ (bt212.2.length : Int) then ((framing_Split.f k (bt212.2.take (t218 : Int).toNat)).bind fun bt224 => (if bt224.2.2 = 0 then (if bt224.2.1 < 0 then (soundservicelaw34_FramingStreams.j0 k bt212.1 bt212.2 bt224.1 bt224.2.1 true) else (soundservicelaw34_FramingStreams.j0 k bt212.1 bt212.2 bt224.1 bt224.2.1 (decide (bt224.2.1 > t218)))) else (soundservicelaw34_FramingStreams.j0 k bt212.1 bt212.2 bt224.1 bt224.2.1 true))) else (none)) else (none)))) else (some false))) = some r := h
  clear h
  replace H := Option.bind_eq_some_iff.mp H
  obtain ⟨t211, A30, H⟩ := H
  replace H : (if t211 = true then ((soundservicelaw34_stream.f k l0).bind fun bt212 => ((soundservicemill_Mod.f a1 (wrap64 ((bt212.2.length : Int) + 1))).bind fun t218 => (if 0 ≤ t218 then (if t218 ≤ (bt212.2.length : Int) then ((framing_Split.f k (bt212.2.take (t218 : Int).toNat)).bind fun bt224 => (if bt224.2.2 = 0 then (if bt224.2.1 < 0 then (soundservicelaw34_FramingStreams.j0 k bt212.1 bt212.2 bt224.1 bt224.2.1 true) else (soundservicelaw34_FramingStreams.j0 k bt212.1 bt212.2 bt224.1 bt224.2.1 (decide (bt224.2.1 > t218)))) else (soundservicelaw34_FramingStreams.j0 k bt212.1 bt212.2 bt224.1 bt224.2.1 true))) else (none)) else (none)))) else (some false)) = some r := H
  have A3 := Aside0.mk A30
  clear A30
  by_cases c4 : t211 = true
  · subst c4
    have H1 : ((soundservicelaw34_stream.f k l0).bind fun bt212 => ((soundservicemill_Mod.f a1 (wrap64 ((bt212.2.length : Int) + 1))).bind fun t218 => (if 0 ≤ t218 then (if t218 ≤ (bt212.2.length : Int) then ((framing_Split.f k (bt212.2.take (t218 : Int).toNat)).bind fun bt224 => (if bt224.2.2 = 0 then (if bt224.2.1 < 0 then (soundservicelaw34_FramingStreams.j0 k bt212.1 bt212.2 bt224.1 bt224.2.1 true) else (soundservicelaw34_FramingStreams.j0 k bt212.1 bt212.2 bt224.1 bt224.2.1 (decide (bt224.2.1 > t218)))) else (soundservicelaw34_FramingStreams.j0 k bt212.1 bt212.2 bt224.1 bt224.2.1 true))) else (none)) else (none)))) = some r := by rw [if_pos rfl] at H; exact H
    clear H
    have H := H1
    clear H1
    replace H := Option.bind_eq_some_iff.mp H
    obtain ⟨⟨t212, t213⟩, A50, H⟩ := H
    replace H : ((soundservicemill_Mod.f a1 (wrap64 ((t213.length : Int) + 1))).bind fun t218 => (if 0 ≤ t218 then (if t218 ≤ (t213.length : Int) then ((framing_Split.f k (t213.take (t218 : Int).toNat)).bind fun bt224 => (if bt224.2.2 = 0 then (if bt224.2.1 < 0 then (soundservicelaw34_FramingStreams.j0 k t212 t213 bt224.1 bt224.2.1 true) else (soundservicelaw34_FramingStreams.j0 k t212 t213 bt224.1 bt224.2.1 (decide (bt224.2.1 > t218)))) else (soundservicelaw34_FramingStreams.j0 k t212 t213 bt224.1 bt224.2.1 true))) else (none)) else (none))) = some r := H
    have A5 := Aside0.mk A50
    clear A50
    replace H := Option.bind_eq_some_iff.mp H
    obtain ⟨t218, A60, H⟩ := H
    replace H : (if 0 ≤ t218 then (if t218 ≤ (t213.length : Int) then ((framing_Split.f k (t213.take (t218 : Int).toNat)).bind fun bt224 => (if bt224.2.2 = 0 then (if bt224.2.1 < 0 then (soundservicelaw34_FramingStreams.j0 k t212 t213 bt224.1 bt224.2.1 true) else (soundservicelaw34_FramingStreams.j0 k t212 t213 bt224.1 bt224.2.1 (decide (bt224.2.1 > t218)))) else (soundservicelaw34_FramingStreams.j0 k t212 t213 bt224.1 bt224.2.1 true))) else (none)) else (none)) = some r := H
    have A6 := Aside0.mk A60
    clear A60
    by_cases c7 : 0 ≤ t218
    · rw [if_pos c7] at H
      have c7b0 := eq_true c7
      have c7b1 : decide (0 ≤ t218) = true := decide_eq_true c7
      clear c7
      by_cases c8 : t218 ≤ (t213.length : Int)
      · rw [if_pos c8] at H
        have c8b0 := eq_true c8
        have c8b1 : decide (t218 ≤ (t213.length : Int)) = true := decide_eq_true c8
        clear c8
        obtain ⟨y219, hy219⟩ : ∃ y_ : List Int, y_ = (t213.take (t218 : Int).toNat) := ⟨_, rfl⟩
        replace H : ((framing_Split.f k y219).bind fun bt224 => (if bt224.2.2 = 0 then (if bt224.2.1 < 0 then (soundservicelaw34_FramingStreams.j0 k t212 t213 bt224.1 bt224.2.1 true) else (soundservicelaw34_FramingStreams.j0 k t212 t213 bt224.1 bt224.2.1 (decide (bt224.2.1 > t218)))) else (soundservicelaw34_FramingStreams.j0 k t212 t213 bt224.1 bt224.2.1 true))) = some r := by first | (rw [hy219]; with_reducible exact H) | (have H2_ := (Option.bind_some _ _).symm.trans H; rw [hy219]; with_reducible exact H2_) | (have H2_ := (Option.bind_some _ _).symm.trans H; with_reducible exact H2_) | with_reducible exact H | (rw [hy219]; exact H) | exact H
        have Ny219 := Aside0.mk hy219
        clear hy219
        replace H := Option.bind_eq_some_iff.mp H
        obtain ⟨⟨t224, t225, t226⟩, A90, H⟩ := H
        replace H : (if t226 = 0 then (if t225 < 0 then (soundservicelaw34_FramingStreams.j0 k t212 t213 t224 t225 true) else (soundservicelaw34_FramingStreams.j0 k t212 t213 t224 t225 (decide (t225 > t218)))) else (soundservicelaw34_FramingStreams.j0 k t212 t213 t224 t225 true)) = some r := H
        have A9 := Aside0.mk A90
        clear A90
        have HC10 := Aside0.mk H
        clear H
        go_enter Tryd.func4, Tryd.ntmps4
        go_upto_region 6 with (first | ((with_reducible refine gate_callee (f := 7) rfl ?_); refine goesL_ (some 14) rfl rfl Tryd.func7 (by kernel_rfl) rfl #[] rfl (by (try simp only [List.map_toArray, List.map_cons, List.map_nil]); first | done | rfl | (simp only [List.length_drop, List.length_take]; rfl)) ?_; (with_reducible refine (soundservicelaw34_sane.calls k  true _ ?side1 A3.out).mono ?_); (case side1 => exact Glob.below HG.out (by repeat (first | (with_reducible first | exact HB.out | apply below_alloc | apply pw_below_drewN | apply below_drew1) | exact HB.out))); rintro e w11 ⟨rfl, hb⟩; refine ⟨_, rfl, ?_⟩; have n0_ := Aside0.mk (below_step (by repeat (first | (with_reducible first | exact HB.out | apply below_alloc | apply pw_below_drewN | apply below_drew1) | exact HB.out)) hb); clear HB; have HB := n0_; clear n0_; (try clear hb); (try clear hb2); (try clear hk); (try clear hi)) | ((with_reducible refine gate_callee (f := 14) rfl ?_); refine goesL_ (some 18) rfl rfl Tryd.func14 (by kernel_rfl) rfl #[.slice A0 l0.length c0] rfl (by (try simp only [List.map_toArray, List.map_cons, List.map_nil]); first | done | rfl | (simp only [List.length_drop, List.length_take]; rfl)) ?_; (with_reducible refine (soundservicelaw34_stream.calls k _ _ l0 t212 t213 _ ?side1 ?side2 A5.out).mono ?_); (case side1 => repeat (first | exact (Kd.C_below HR0.out HB.out) | (with_reducible refine Kd.C_alloc ?_ _) | (with_reducible refine Kd.C_drewN ?_ _) | (with_reducible refine Kd.C_drew ?_))); (case side2 => exact HC0.out); rintro e w12 ⟨v214, v216, rfl, ho0, ho1, hb⟩; refine ⟨_, rfl, ?_⟩; have n0_ := Aside0.mk (Kd.N_lower (Kd.N_mono (ok' := fun k_ => some k_ ≠ (v216 : Value).ownBlock) (Kd.S_N (Kd.S_bound ho0)) (fun k_ hk_ => hk_.1)) (below_size (by repeat (first | (with_reducible first | exact HB.out | apply below_alloc | apply pw_below_drewN | apply below_drew1) | exact HB.out)))); have n1_ := Aside0.mk (Kd.R_lower ho1 (below_size (by repeat (first | (with_reducible first | exact HB.out | apply below_alloc | apply pw_below_drewN | apply below_drew1) | exact HB.out)))); have n2_ := Aside0.mk (below_step (by repeat (first | (with_reducible first | exact HB.out | apply below_alloc | apply pw_below_drewN | apply below_drew1) | exact HB.out)) hb); clear HB; have HO215 := n0_; have HO217 := n1_; have HB := n2_; clear n0_ n1_ n2_; (try clear hb); (try clear hb2); (try clear hk); (try clear hi); (try clear ho0); (try clear ho1); obtain ⟨Ao13, co13, eo13⟩ := Kd.R_slice HO217.out; subst eo13) | ((with_reducible refine gate_callee (f := 8) rfl ?_); refine goesL_ (some 25) rfl rfl Tryd.func8 (by kernel_rfl) rfl #[.int .i64 a1, .int .i64 (wrap64 ((t213.length : Int) + 1))] rfl (by (try simp only [List.map_toArray, List.map_cons, List.map_nil]); first | done | rfl | (simp only [List.length_drop, List.length_take]; rfl)) ?_; (with_reducible refine (soundservicemill_Mod.calls a1 (wrap64 ((t213.length : Int) + 1)) t218 _ A6.out).mono ?_); rintro e w' ⟨rfl, ⟨nd, rfl⟩⟩; refine ⟨_, rfl, ?_⟩; have q14 : (t218 : Int) ≤ ((t213.length : Int) : Int) := of_decide_eq_true (by first | (with_reducible assumption) | assumption); obtain ⟨i014, hi014, _, hsz14, _⟩ := info_parts info5; have hroom14 : t213.length ≤ co13 := (Kd.R_reads' HO217.out).2.1; have hC14 : Kd.F (Kd.int .u8) _ _ Ao13 t213.length t213 := (Kd.V_at (base := w.heap.size) (Kd.R_V (Kd.R_apart' (HO217.out) (Kd.N_typed HO215.out) (by decide)))).2.2; have hcut14 := cut_to (P := Tryd.prog) 23 5 .i64 Tryd.underlying23 hi014 Ao13 t213.length co13 t218 (of_decide_eq_true (by first | (with_reducible assumption) | assumption)) q14 hroom14; have hr14 := Kd.F_take (m := (t218 : Int).toNat) hC14 (by omega); have hy14 : y219.length = (t218 : Int).toNat := (by rw [Ny219.out, List.length_take]; omega); rw [← Ny219.out] at hr14; rw [← hy14] at hcut14; have HO223 := Aside0.mk (show Kd.V (Kd.int .u8) 5 _ w.heap.size _ (.slice Ao13 y219.length co13) y219 from Kd.V_mk (by omega) hr14); have HC223 := Aside0.mk (show y219.length ≤ co13 from by omega); clear hr14 hC14 hroom14 hi014 hsz14; have KY14 := Aside0.mk hy14; clear hy14; replace q14 := eq_true q14) | ((with_reducible refine gate_callee (f := 11) rfl ?_); refine goesL_ (some 30) rfl rfl Tryd.func11 (by kernel_rfl) rfl #[.slice Ao13 y219.length co13] rfl (by (try simp only [List.map_toArray, List.map_cons, List.map_nil]); first | done | rfl | (simp only [List.length_drop, List.length_take]; rfl)) ?_; (with_reducible refine (framing_Split.calls k _ _ y219 t224 t225 t226 _ ?side1 ?side2 A9.out).mono ?_); (case side1 => repeat (first | exact (Kd.V_reads' HO223.out).2.2 | (with_reducible refine Kd.C_alloc ?_ _) | (with_reducible refine Kd.C_drewN ?_ _) | (with_reducible refine Kd.C_drew ?_))); (case side2 => exact (Kd.V_reads' HO223.out).2.1); rintro e w15 ⟨v227, rfl, ho0, hb⟩; refine ⟨_, rfl, ?_⟩; have n0_ := Aside0.mk (Kd.N_elder' (by (with_reducible repeat (first | apply Kd.N_alloc | apply Kd.N_drewN | apply Kd.N_drew)); exact HO215.out) (Kd.S_base ho0) hb); have n1_ := Aside0.mk (Kd.R_below (by (with_reducible repeat (first | apply Kd.R_alloc | apply Kd.R_drewN | apply Kd.R_drew)); exact HO217.out) hb); have n2_ := Aside0.mk (Kd.V_elder' (by (with_reducible repeat (first | apply Kd.V_alloc | apply Kd.V_drewN | apply Kd.V_drew)); exact HO223.out) (Kd.S_base ho0) hb); have n3_ := Aside0.mk (Kd.N_lower (Kd.N_mono (ok' := fun k_ => some k_ ≠ (v214 : Value).ownBlock ∧ some k_ ≠ (.slice Ao13 t213.length co13 : Value).ownBlock) (Kd.S_N (Kd.S_bound ho0)) (fun k_ hk_ => ⟨(Kd.fresh' (Kd.N_lt (by (with_reducible repeat (first | apply Kd.N_alloc | apply Kd.N_drewN | apply Kd.N_drew)); exact HO215.out)) k_ hk_.2.1), (Kd.fresh' (Kd.R_lt (by (with_reducible repeat (first | apply Kd.R_alloc | apply Kd.R_drewN | apply Kd.R_drew)); exact HO217.out)) k_ hk_.2.1)⟩)) (below_size (by repeat (first | (with_reducible first | exact HB.out | apply below_alloc | apply pw_below_drewN | apply below_drew1) | exact HB.out)))); have n4_ := Aside0.mk (below_step (by repeat (first | (with_reducible first | exact HB.out | apply below_alloc | apply pw_below_drewN | apply below_drew1) | exact HB.out)) hb); clear HO215; clear HO217; clear HO223; clear HB; have HO215 := n0_; have HO217 := n1_; have HO223 := n2_; have HO228 := n3_; have HB := n4_; clear n0_ n1_ n2_ n3_ n4_; (try clear hb); (try clear hb2); (try clear hk); (try clear hi); (try clear ho0)))
        (try simp only [Act.put, List.setIfInBounds_toArray, List.set_cons_zero, List.set_cons_succ])
        go_cut [44] (fun v44 wc => ∃ (kq : Nat) (x44_9 : Bool), v44 = .bool x44_9 ∧ Aside0 (soundservicelaw34_FramingStreams.j0 kq t212 t213 t224 t225 x44_9 = some r) ∧ Aside0 (kq ≤ k) ∧ Aside0 (Kd.N (Kd.slice 5 (Kd.int .u8)) 23 wc w.heap.size (fun k_ => some k_ ≠ ((.slice Ao13 t213.length co13) : Value).ownBlock ∧ some k_ ≠ (v227 : Value).ownBlock) v214 t212) ∧ Aside0 (Kd.R (Kd.int .u8) 5 wc w.heap.size (fun _ => True) (.slice Ao13 t213.length co13) t213) ∧ Aside0 (Kd.N (Kd.slice 5 (Kd.int .u8)) 23 wc w.heap.size (fun k_ => some k_ ≠ (v214 : Value).ownBlock ∧ some k_ ≠ ((.slice Ao13 t213.length co13) : Value).ownBlock) v227 t224) ∧ Aside0 (Below w.heap.size w wc))
        case first =>
          have H := HC10.out
          clear HC10
          by_cases c16 : t226 = 0
          · rw [if_pos c16] at H
            have c16b0 : (t226 == 0) = true := beq_iff_eq.mpr c16
            have c16b1 : (t226 != 0) = false := bne_eq_false_iff_eq.mpr c16
            clear c16
            (first | rw [c16b0] | (simp only [i64_w, i32_w]; rw [c16b0]) | skip)
            by_cases c17 : t225 < 0
            · rw [if_pos c17] at H
              have c17b0 : decide (t225 < 0) = true := decide_eq_true c17
              clear c17
              have H' := Aside0.mk H
              clear H
              go_wp2
              go_meet
              case rel => exact ⟨_, (true), (by first | rfl | (simp; done) | (simp [*]; done) | (simp [neNil_, eqNil_]; done) | (simp [*, neNil_, eqNil_]; done)), H', ⟨by first | omega | exact Nat.le_refl _⟩, ⟨by (with_reducible repeat (first | apply Kd.N_alloc | apply Kd.N_drewN | apply Kd.N_drew)); exact HO215.out⟩, ⟨by (with_reducible repeat (first | apply Kd.R_alloc | apply Kd.R_drewN | apply Kd.R_drew)); exact HO217.out⟩, ⟨by (with_reducible repeat (first | apply Kd.N_alloc | apply Kd.N_drewN | apply Kd.N_drew)); exact HO228.out⟩, ⟨by repeat (first | (with_reducible first | exact HB.out | apply below_alloc | apply pw_below_drewN | apply below_drew1) | exact HB.out)⟩⟩
            · rw [if_neg c17] at H
              have c17b0 : decide (t225 < 0) = false := decide_eq_false c17
              clear c17
              have H' := Aside0.mk H
              clear H
              go_wp2
              go_meet
              case rel => exact ⟨_, (decide (t225 > t218)), (by first | rfl | (simp; done) | (simp [*]; done) | (simp [neNil_, eqNil_]; done) | (simp [*, neNil_, eqNil_]; done)), H', ⟨by first | omega | exact Nat.le_refl _⟩, ⟨by (with_reducible repeat (first | apply Kd.N_alloc | apply Kd.N_drewN | apply Kd.N_drew)); exact HO215.out⟩, ⟨by (with_reducible repeat (first | apply Kd.R_alloc | apply Kd.R_drewN | apply Kd.R_drew)); exact HO217.out⟩, ⟨by (with_reducible repeat (first | apply Kd.N_alloc | apply Kd.N_drewN | apply Kd.N_drew)); exact HO228.out⟩, ⟨by repeat (first | (with_reducible first | exact HB.out | apply below_alloc | apply pw_below_drewN | apply below_drew1) | exact HB.out)⟩⟩
          · rw [if_neg c16] at H
            have c16b0 : (t226 == 0) = false := beq_eq_false_iff_ne.mpr c16
            have c16b1 : (t226 != 0) = true := bne_iff_ne.mpr c16
            (first | rw [c16b0] | (simp only [i64_w, i32_w]; rw [c16b0]) | skip)
            have H' := Aside0.mk H
            clear H
            go_wp2
            go_meet
            case rel => exact ⟨_, (true), (by first | rfl | (simp; done) | (simp [*]; done) | (simp [neNil_, eqNil_]; done) | (simp [*, neNil_, eqNil_]; done)), H', ⟨by first | omega | exact Nat.le_refl _⟩, ⟨by (with_reducible repeat (first | apply Kd.N_alloc | apply Kd.N_drewN | apply Kd.N_drew)); exact HO215.out⟩, ⟨by (with_reducible repeat (first | apply Kd.R_alloc | apply Kd.R_drewN | apply Kd.R_drew)); exact HO217.out⟩, ⟨by (with_reducible repeat (first | apply Kd.N_alloc | apply Kd.N_drewN | apply Kd.N_drew)); exact HO228.out⟩, ⟨by repeat (first | (with_reducible first | exact HB.out | apply below_alloc | apply pw_below_drewN | apply below_drew1) | exact HB.out)⟩⟩
        case rest =>
          clear HC10
          try clear c1
          try clear q1
          try clear p2
          try clear c4
          try clear p6
          try clear c7
          try clear c7b0
          try clear c7b1
          try clear c8
          try clear c8b0
          try clear c8b1
          try clear c11
          try clear c14
          try clear q14
          try clear c16
          try clear c16b0
          try clear c16b1
          try clear c17
          try clear c17b0
          try clear q14
          obtain ⟨kq, x44_9, rfl, HA, HJ9, HO_5, HO_6, HO_8, HB⟩ := hcut
          cases kq with
          | zero => exact absurd HA.out (by simp [soundservicelaw34_FramingStreams.j0])
          | succ kj9 =>
            have H := HA.out
            clear HA
            simp only [soundservicelaw34_FramingStreams.j0] at H
            by_cases c18 : x44_9 = true
            · subst c18
              have H1 : (some false) = some r := by rw [if_pos rfl] at H; exact H
              clear H
              have H := H1
              clear H1
              obtain rfl := Option.some.inj H
              go_wp2
              go_ret
              exact ⟨by first | rfl | (simp [errW_none, errW_some] <;> rfl) | (simp [*, errW_none, errW_some] <;> rfl), by repeat (first | (with_reducible first | exact HB.out | apply below_alloc | apply pw_below_drewN | apply below_drew1) | exact HB.out)⟩
            · replace c18 := Bool.eq_false_iff.mpr c18
              subst c18
              have H1 : (if 0 ≤ t225 then (if t225 ≤ (t213.length : Int) then ((framing_Split.f kj9 (t213.drop (t225 : Int).toNat)).bind fun bt234 => (if bt234.2.2 = 0 then (if (wrap64 (t225 + bt234.2.1)) = (t213.length : Int) then ((some (([] : List (List Int)) : List (List Int))).bind fun y239 => (if y239.length + t224.length < 5864062014805 then ((some (y239 ++ t224 : List (List Int))).bind fun y242 => (if y242.length + bt234.1.length < 5864062014805 then ((soundserviceref34_Same.f kj9 (y242 ++ bt234.1) t212).bind fun t248 => (some t248)) else (none))) else (none))) else (some false)) else (some false))) else (none)) else (none)) = some r := by rw [if_neg (show ¬ (false = true) by decide)] at H; exact H
              clear H
              have H := H1
              clear H1
              by_cases c19 : 0 ≤ t225
              · rw [if_pos c19] at H
                have c19b0 := eq_true c19
                have c19b1 : decide (0 ≤ t225) = true := decide_eq_true c19
                clear c19
                by_cases c20 : t225 ≤ (t213.length : Int)
                · rw [if_pos c20] at H
                  have c20b0 := eq_true c20
                  have c20b1 : decide (t225 ≤ (t213.length : Int)) = true := decide_eq_true c20
                  clear c20
                  obtain ⟨y229, hy229⟩ : ∃ y_ : List Int, y_ = (t213.drop (t225 : Int).toNat) := ⟨_, rfl⟩
                  replace H : ((framing_Split.f kj9 y229).bind fun bt234 => (if bt234.2.2 = 0 then (if (wrap64 (t225 + bt234.2.1)) = (t213.length : Int) then ((some (([] : List (List Int)) : List (List Int))).bind fun y239 => (if y239.length + t224.length < 5864062014805 then ((some (y239 ++ t224 : List (List Int))).bind fun y242 => (if y242.length + bt234.1.length < 5864062014805 then ((soundserviceref34_Same.f kj9 (y242 ++ bt234.1) t212).bind fun t248 => (some t248)) else (none))) else (none))) else (some false)) else (some false))) = some r := by first | (rw [hy229]; with_reducible exact H) | (have H2_ := (Option.bind_some _ _).symm.trans H; rw [hy229]; with_reducible exact H2_) | (have H2_ := (Option.bind_some _ _).symm.trans H; with_reducible exact H2_) | with_reducible exact H | (rw [hy229]; exact H) | exact H
                  have Ny229 := Aside0.mk hy229
                  clear hy229
                  replace H := Option.bind_eq_some_iff.mp H
                  obtain ⟨⟨t234, t235, t236⟩, A210, H⟩ := H
                  replace H : (if t236 = 0 then (if (wrap64 (t225 + t235)) = (t213.length : Int) then ((some (([] : List (List Int)) : List (List Int))).bind fun y239 => (if y239.length + t224.length < 5864062014805 then ((some (y239 ++ t224 : List (List Int))).bind fun y242 => (if y242.length + t234.length < 5864062014805 then ((soundserviceref34_Same.f kj9 (y242 ++ t234) t212).bind fun t248 => (some t248)) else (none))) else (none))) else (some false)) else (some false)) = some r := H
                  have A21 := Aside0.mk A210
                  clear A210
                  by_cases c22 : t236 = 0
                  · rw [if_pos c22] at H
                    have c22b0 : (t236 == 0) = true := beq_iff_eq.mpr c22
                    have c22b1 : (t236 != 0) = false := bne_eq_false_iff_eq.mpr c22
                    clear c22
                    by_cases c23 : (wrap64 (t225 + t235)) = (t213.length : Int)
                    · rw [if_pos c23] at H
                      have c23b0 : ((wrap64 (t225 + t235)) == (t213.length : Int)) = true := beq_iff_eq.mpr c23
                      have c23b1 : ((wrap64 (t225 + t235)) != (t213.length : Int)) = false := bne_eq_false_iff_eq.mpr c23
                      clear c23
                      obtain ⟨y239, hy239⟩ : ∃ y_ : List (List Int), y_ = (([] : List (List Int))) := ⟨_, rfl⟩
                      replace H : (if y239.length + t224.length < 5864062014805 then ((some (y239 ++ t224 : List (List Int))).bind fun y242 => (if y242.length + t234.length < 5864062014805 then ((soundserviceref34_Same.f kj9 (y242 ++ t234) t212).bind fun t248 => (some t248)) else (none))) else (none)) = some r := by first | (rw [hy239]; with_reducible exact H) | (have H2_ := (Option.bind_some _ _).symm.trans H; rw [hy239]; with_reducible exact H2_) | (have H2_ := (Option.bind_some _ _).symm.trans H; with_reducible exact H2_) | with_reducible exact H | (rw [hy239]; exact H) | exact H
                      have Ny239 := Aside0.mk hy239
                      clear hy239
                      by_cases c24 : y239.length + t224.length < 5864062014805
                      · rw [if_pos c24] at H
                        have LMc24 := Aside0.mk c24
                        clear c24
                        obtain ⟨y242, hy242⟩ : ∃ y_ : List (List Int), y_ = (y239 ++ t224) := ⟨_, rfl⟩
                        replace H : (if y242.length + t234.length < 5864062014805 then ((soundserviceref34_Same.f kj9 (y242 ++ t234) t212).bind fun t248 => (some t248)) else (none)) = some r := by first | (rw [hy242]; with_reducible exact H) | (have H2_ := (Option.bind_some _ _).symm.trans H; rw [hy242]; with_reducible exact H2_) | (have H2_ := (Option.bind_some _ _).symm.trans H; with_reducible exact H2_) | with_reducible exact H | (rw [hy242]; exact H) | exact H
                        have Ny242 := Aside0.mk hy242
                        clear hy242
                        by_cases c25 : y242.length + t234.length < 5864062014805
                        · rw [if_pos c25] at H
                          have LMc25 := Aside0.mk c25
                          clear c25
                          obtain ⟨y245, hy245⟩ : ∃ y_ : List (List Int), y_ = (y242 ++ t234) := ⟨_, rfl⟩
                          replace H : ((soundserviceref34_Same.f kj9 y245 t212).bind fun t248 => (some t248)) = some r := by first | (rw [hy245]; with_reducible exact H) | (have H2_ := (Option.bind_some _ _).symm.trans H; rw [hy245]; with_reducible exact H2_) | (have H2_ := (Option.bind_some _ _).symm.trans H; with_reducible exact H2_) | with_reducible exact H | (rw [hy245]; exact H) | exact H
                          have Ny245 := Aside0.mk hy245
                          clear hy245
                          replace H := Option.bind_eq_some_iff.mp H
                          obtain ⟨t248, A260, H⟩ := H
                          replace H : (some t248) = some r := H
                          have A26 := Aside0.mk A260
                          clear A260
                          obtain rfl := Option.some.inj H
                          have q27 : (t225 : Int) ≤ ((t213.length : Int) : Int) := of_decide_eq_true (by first | (with_reducible assumption) | assumption)
                          obtain ⟨i027, hi027, _, hsz27, _⟩ := info_parts info5
                          have hroom27 : t213.length ≤ co13 := (Kd.R_reads' HO_6.out).2.1
                          have hC27 : Kd.F (Kd.int .u8) _ _ Ao13 t213.length t213 := (Kd.V_at (base := w.heap.size) (Kd.R_V (Kd.R_apart' (Kd.R_apart' (HO_6.out) (Kd.N_typed HO_5.out) (by decide)) (Kd.N_typed HO_8.out) (by decide)))).2.2
                          have q027 : (0 : Int) ≤ (t225 : Int) := of_decide_eq_true (by first | (with_reducible assumption) | assumption)
                          have hcut27 := cut_from (P := Tryd.prog) 23 5 .i64 Tryd.underlying23 hi027 1 hsz27 Ao13 t213.length co13 t225 q027 q27
                          have hr27 := Kd.F_cut (m := (t225 : Int).toNat) (c := co13) hC27 (by omega) hroom27
                          obtain ⟨A27, hA27⟩ : ∃ A1, A1 = (if co13 = (t225 : Int).toNat then Ao13 else (Ao13 : Option Addr).map (·.add ((t225 : Int).toNat * 1))) := ⟨_, rfl⟩
                          obtain ⟨c27, hc27⟩ : ∃ c1, c1 = co13 - (t225 : Int).toNat := ⟨_, rfl⟩
                          have hy27 : y229.length = t213.length - (t225 : Int).toNat := (by rw [Ny229.out, List.length_drop] <;> omega)
                          rw [show (t213).drop (t225 : Int).toNat = y229 from Ny229.out.symm] at hr27
                          replace hr27 : Kd.F (Kd.int .u8) _ _ A27 y229.length y229 := (by rw [hA27]; exact hr27)
                          rw [← hy27, ← hA27, ← hc27] at hcut27
                          have HO233 := Aside0.mk (show Kd.V (Kd.int .u8) 5 _ w.heap.size _ (.slice A27 y229.length c27) y229 from Kd.V_mk (by rw [hy27, hc27]; exact Nat.sub_le_sub_right hroom27 _) hr27)
                          have HC233 := Aside0.mk (show y229.length ≤ c27 from by rw [hy27, hc27]; exact Nat.sub_le_sub_right hroom27 _)
                          clear hr27 hC27 hroom27 hi027 hsz27 hc27
                          have KY27 := Aside0.mk hy27
                          have KA27 := Aside0.mk hA27
                          clear hy27 hA27
                          replace q27 := eq_true q27
                          go_wp2_with (first | ((with_reducible refine gate_callee (f := 11) rfl ?_); refine goesL_ (some 49) rfl rfl Tryd.func11 (by kernel_rfl) rfl #[.slice A27 y229.length c27] rfl (by (try simp only [List.map_toArray, List.map_cons, List.map_nil]); first | done | rfl | (simp only [List.length_drop, List.length_take]; rfl)) ?_; (with_reducible refine (framing_Split.calls kj9 _ _ y229 t234 t235 t236 _ ?side1 ?side2 A21.out).mono ?_); (case side1 => repeat (first | exact (Kd.V_reads' HO233.out).2.2 | (with_reducible refine Kd.C_alloc ?_ _) | (with_reducible refine Kd.C_drewN ?_ _) | (with_reducible refine Kd.C_drew ?_))); (case side2 => exact (Kd.V_reads' HO233.out).2.1); rintro e w28 ⟨v237, rfl, ho0, hb⟩; refine ⟨_, rfl, ?_⟩; have n0_ := Aside0.mk (Kd.N_elder' (by (with_reducible repeat (first | apply Kd.N_alloc | apply Kd.N_drewN | apply Kd.N_drew)); exact HO_5.out) (Kd.S_base ho0) hb); have n1_ := Aside0.mk (Kd.R_below (by (with_reducible repeat (first | apply Kd.R_alloc | apply Kd.R_drewN | apply Kd.R_drew)); exact HO_6.out) hb); have n2_ := Aside0.mk (Kd.N_elder' (by (with_reducible repeat (first | apply Kd.N_alloc | apply Kd.N_drewN | apply Kd.N_drew)); exact HO_8.out) (Kd.S_base ho0) hb); have n3_ := Aside0.mk (Kd.V_elder' (by (with_reducible repeat (first | apply Kd.V_alloc | apply Kd.V_drewN | apply Kd.V_drew)); exact HO233.out) (Kd.S_base ho0) hb); have n4_ := Aside0.mk (Kd.N_lower (Kd.N_mono (ok' := fun k_ => some k_ ≠ (v214 : Value).ownBlock ∧ some k_ ≠ (.slice Ao13 t213.length co13 : Value).ownBlock ∧ some k_ ≠ (v227 : Value).ownBlock) (Kd.S_N (Kd.S_bound ho0)) (fun k_ hk_ => ⟨(Kd.fresh' (Kd.N_lt (by (with_reducible repeat (first | apply Kd.N_alloc | apply Kd.N_drewN | apply Kd.N_drew)); exact HO_5.out)) k_ hk_.2.1), (Kd.fresh' (Kd.R_lt (by (with_reducible repeat (first | apply Kd.R_alloc | apply Kd.R_drewN | apply Kd.R_drew)); exact HO_6.out)) k_ hk_.2.1), (Kd.fresh' (Kd.N_lt (by (with_reducible repeat (first | apply Kd.N_alloc | apply Kd.N_drewN | apply Kd.N_drew)); exact HO_8.out)) k_ hk_.2.1)⟩)) (below_size (by repeat (first | (with_reducible first | exact HB.out | apply below_alloc | apply pw_below_drewN | apply below_drew1) | exact HB.out)))); have n5_ := Aside0.mk (below_step (by repeat (first | (with_reducible first | exact HB.out | apply below_alloc | apply pw_below_drewN | apply below_drew1) | exact HB.out)) hb); clear HO_5; clear HO_6; clear HO_8; clear HO233; clear HB; have HO_5 := n0_; have HO_6 := n1_; have HO_8 := n2_; have HO233 := n3_; have HO238 := n4_; have HB := n5_; clear n0_ n1_ n2_ n3_ n4_ n5_; (try clear hb); (try clear hb2); (try clear hk); (try clear hi); (try clear ho0)) | ((with_reducible refine gate_dst (N := 64) rfl ?_); (try (refine gate_guard (by rfl) ?_; dsimp only)); refine Kd.N_lit (Kd.slice 5 (Kd.int .u8)) _ 23 ?hg (N' := 64) ?hd (xs := ([] : List (List Int))) (inner := []) (ok := (fun k_ => some k_ ≠ (v214 : Value).ownBlock ∧ some k_ ≠ (.slice Ao13 t213.length co13 : Value).ownBlock ∧ some k_ ≠ (v227 : Value).ownBlock ∧ some k_ ≠ (v237 : Value).ownBlock)) (okp := (fun k_ => some k_ ≠ (v214 : Value).ownBlock ∧ some k_ ≠ (.slice Ao13 t213.length co13 : Value).ownBlock ∧ some k_ ≠ (v227 : Value).ownBlock ∧ some k_ ≠ (v237 : Value).ownBlock)) ?hr ?hp (fun _ hk => hk) ((show ∀ k_, w28.heap.size ≤ k_ → (fun k_ => some k_ ≠ (v214 : Value).ownBlock ∧ some k_ ≠ (.slice Ao13 t213.length co13 : Value).ownBlock ∧ some k_ ≠ (v227 : Value).ownBlock ∧ some k_ ≠ (v237 : Value).ownBlock) k_ from fun k_ hk => ⟨Kd.fresh' (Kd.N_lt (by (with_reducible repeat (first | apply Kd.N_alloc | apply Kd.N_drewN | apply Kd.N_drew)); exact HO_5.out)) k_ hk, Kd.fresh' (Kd.R_lt (by (with_reducible repeat (first | apply Kd.R_alloc | apply Kd.R_drewN | apply Kd.R_drew)); exact HO_6.out)) k_ hk, Kd.fresh' (Kd.N_lt (by (with_reducible repeat (first | apply Kd.N_alloc | apply Kd.N_drewN | apply Kd.N_drew)); exact HO_8.out)) k_ hk, Kd.fresh' (Kd.N_lt (by (with_reducible repeat (first | apply Kd.N_alloc | apply Kd.N_drewN | apply Kd.N_drew)); exact HO238.out)) k_ hk⟩) _ (Nat.le_refl _)) (Below.refl _ _) (Nat.le_refl _) (by simp) ?_; (case hd => rfl); (case hg => rfl); (case hr => first | (go_simp; done) | (go_simp; rfl)); (case hp => exact (Reps.none _ _)); intro v240 w29 ho30 hb hg_ hnew_; clear hg_ hnew_; (first | rw [← Ny239.out] at ho30 | (simp only [Int.reduceToNat] at ho30; rw [← Ny239.out] at ho30)); have n0_ := Aside0.mk (Kd.N_elder' (by (with_reducible repeat (first | apply Kd.N_alloc | apply Kd.N_drewN | apply Kd.N_drew)); exact HO_5.out) (Kd.N_base ho30) hb); have n1_ := Aside0.mk (Kd.R_below (by (with_reducible repeat (first | apply Kd.R_alloc | apply Kd.R_drewN | apply Kd.R_drew)); exact HO_6.out) hb); have n2_ := Aside0.mk (Kd.N_elder' (by (with_reducible repeat (first | apply Kd.N_alloc | apply Kd.N_drewN | apply Kd.N_drew)); exact HO_8.out) (Kd.N_base ho30) hb); have n3_ := Aside0.mk (Kd.V_elder' (by (with_reducible repeat (first | apply Kd.V_alloc | apply Kd.V_drewN | apply Kd.V_drew)); exact HO233.out) (Kd.N_base ho30) hb); have n4_ := Aside0.mk (Kd.N_elder' (by (with_reducible repeat (first | apply Kd.N_alloc | apply Kd.N_drewN | apply Kd.N_drew)); exact HO238.out) (Kd.N_base ho30) hb); have n5_ := Aside0.mk (Kd.N_lower ho30 (below_size (by repeat (first | (with_reducible first | exact HB.out | apply below_alloc | apply pw_below_drewN | apply below_drew1) | exact HB.out)))); have n6_ := Aside0.mk (below_step (by repeat (first | (with_reducible first | exact HB.out | apply below_alloc | apply pw_below_drewN | apply below_drew1) | exact HB.out)) hb); clear HO_5; clear HO_6; clear HO_8; clear HO233; clear HO238; clear HB; have HO_5 := n0_; have HO_6 := n1_; have HO_8 := n2_; have HO233 := n3_; have HO238 := n4_; have HO241 := n5_; have HB := n6_; clear n0_ n1_ n2_ n3_ n4_ n5_ n6_; clear hb ho30; obtain ⟨Ao32, co32, eo32⟩ := Kd.N_slice HO_8.out; subst eo32) | ((with_reducible refine gate_builtin (b := .append) (xs := #[.tmp 64, .tmp 65]) rfl ?_); (try (refine gate_guard (by rfl) ?_; dsimp only)); at_builtin; refine Kd.N_append_rows (Kd.slice 5 (Kd.int .u8)) (w0 := w) w.heap.size rfl (.tmp 64) (.tmp 65) 29 23 (.slice none 0 0) 24 rfl Tryd.underlying29 info23 rfl (by decide) (by omega) v240 y239 t224 _ _ _ (fun k_ => some k_ ≠ (v214 : Value).ownBlock ∧ some k_ ≠ (.slice Ao13 t213.length co13 : Value).ownBlock ∧ some k_ ≠ (v237 : Value).ownBlock) (fun k_ => ((fun k_ => some k_ ≠ (v214 : Value).ownBlock ∧ some k_ ≠ (.slice Ao13 t213.length co13 : Value).ownBlock ∧ some k_ ≠ (v237 : Value).ownBlock)) k_ ∧ some k_ ≠ (v240 : Value).ownBlock) rfl rfl ?aO ?aR (fun _ hk => hk) ?aF ?aB ?aS ?aL ?_; (case aR => exact (by skip; exact Kd.N_F (Kd.N_mono (ok' := (fun k_ => ((fun k_ => some k_ ≠ (v214 : Value).ownBlock ∧ some k_ ≠ (.slice Ao13 t213.length co13 : Value).ownBlock ∧ some k_ ≠ (v237 : Value).ownBlock)) k_ ∧ some k_ ≠ (v240 : Value).ownBlock)) (HO_8.out) (fun k_ hk => ⟨⟨hk.1.1.1, ⟨hk.1.1.2, hk.1.2⟩⟩, hk.2⟩)))); (case aB => exact (by repeat (first | (with_reducible first | exact HB.out | apply below_alloc | apply pw_below_drewN | apply below_drew1) | exact HB.out))); (case aF => exact (fun k_ hk => ⟨Kd.fresh' (Kd.N_lt (by (with_reducible repeat (first | apply Kd.N_alloc | apply Kd.N_drewN | apply Kd.N_drew)); exact HO_5.out)) k_ hk, Kd.fresh' (Kd.R_lt (by (with_reducible repeat (first | apply Kd.R_alloc | apply Kd.R_drewN | apply Kd.R_drew)); exact HO_6.out)) k_ hk, Kd.fresh' (Kd.N_lt (by (with_reducible repeat (first | apply Kd.N_alloc | apply Kd.N_drewN | apply Kd.N_drew)); exact HO238.out)) k_ hk⟩)); (case aO => exact (by (with_reducible repeat (first | apply Kd.N_alloc | apply Kd.N_drewN | apply Kd.N_drew)); exact Kd.N_mono HO241.out (fun _ hk => ⟨hk.1, ⟨hk.2.1, hk.2.2.2⟩⟩))); (case aS => exact (below_size (by repeat (first | (with_reducible first | exact HB.out | apply below_alloc | apply pw_below_drewN | apply below_drew1) | exact HB.out)))); (case aL => have := LMc24.out; omega); intro v243 w31 ho hb hg hat; rw [← Ny242.out] at ho; have n0_ := Aside0.mk (Kd.N_afterv (ok := (fun k_ => some k_ ≠ (.slice Ao13 t213.length co13 : Value).ownBlock ∧ some k_ ≠ (.slice Ao32 t224.length co32 : Value).ownBlock ∧ some k_ ≠ (v237 : Value).ownBlock)) (by (with_reducible repeat (first | apply Kd.N_alloc | apply Kd.N_drewN | apply Kd.N_drew)); exact Kd.N_mono HO_5.out (fun _ hk => ⟨⟨hk.1.1.1, ⟨hk.1.1.2, hk.1.2⟩⟩, hk.2⟩)) hg hat); have n1_ := Aside0.mk (Kd.R_over' (by (with_reducible repeat (first | apply Kd.R_alloc | apply Kd.R_drewN | apply Kd.R_drew)); exact HO_6.out) (Kd.N_typed (by (with_reducible repeat (first | apply Kd.N_alloc | apply Kd.N_drewN | apply Kd.N_drew)); exact HO241.out)) (by decide) hg); have n2_ := Aside0.mk (Kd.N_afterv (ok := (fun k_ => some k_ ≠ (v214 : Value).ownBlock ∧ some k_ ≠ (.slice Ao13 t213.length co13 : Value).ownBlock ∧ some k_ ≠ (v237 : Value).ownBlock)) (by (with_reducible repeat (first | apply Kd.N_alloc | apply Kd.N_drewN | apply Kd.N_drew)); exact Kd.N_mono HO_8.out (fun _ hk => ⟨⟨hk.1.1.1, ⟨hk.1.1.2, hk.1.2⟩⟩, hk.2⟩)) hg hat); have n3_ := Aside0.mk (Kd.V_afterv (ok := (fun k_ => some k_ ≠ (v214 : Value).ownBlock ∧ some k_ ≠ (.slice Ao32 t224.length co32 : Value).ownBlock ∧ some k_ ≠ (v237 : Value).ownBlock)) (by (with_reducible repeat (first | apply Kd.V_alloc | apply Kd.V_drewN | apply Kd.V_drew)); exact Kd.V_mono HO233.out (fun _ hk => ⟨⟨hk.1.1.1.2, ⟨hk.1.1.2, hk.1.2⟩⟩, hk.2⟩)) hg hat); have n4_ := Aside0.mk (Kd.N_afterv (ok := (fun k_ => some k_ ≠ (v214 : Value).ownBlock ∧ some k_ ≠ (.slice Ao13 t213.length co13 : Value).ownBlock ∧ some k_ ≠ (.slice Ao32 t224.length co32 : Value).ownBlock)) (by (with_reducible repeat (first | apply Kd.N_alloc | apply Kd.N_drewN | apply Kd.N_drew)); exact HO238.out) hg hat); have n5_ := Aside0.mk (hb); have n6_ := Aside0.mk (ho); clear HO_5; clear HO_6; clear HO_8; clear HO233; clear HO238; clear HB; clear HO241; have HO_5 := n0_; have HO_6 := n1_; have HO_8 := n2_; have HO233 := n3_; have HO238 := n4_; have HB := n5_; have HO244 := n6_; clear n0_ n1_ n2_ n3_ n4_ n5_ n6_; clear ho hb hg hat; obtain ⟨Ao34, co34, eo34⟩ := Kd.N_slice HO238.out; subst eo34) | ((with_reducible refine gate_builtin (b := .append) (xs := #[.tmp 66, .tmp 67]) rfl ?_); (try (refine gate_guard (by rfl) ?_; dsimp only)); at_builtin; refine Kd.N_append_rows (Kd.slice 5 (Kd.int .u8)) (w0 := w) w.heap.size rfl (.tmp 66) (.tmp 67) 29 23 (.slice none 0 0) 24 rfl Tryd.underlying29 info23 rfl (by decide) (by omega) v243 y242 t234 _ _ _ (fun k_ => some k_ ≠ (v214 : Value).ownBlock ∧ some k_ ≠ (.slice Ao13 t213.length co13 : Value).ownBlock) (fun k_ => ((fun k_ => some k_ ≠ (v214 : Value).ownBlock ∧ some k_ ≠ (.slice Ao13 t213.length co13 : Value).ownBlock)) k_ ∧ some k_ ≠ (v243 : Value).ownBlock) rfl rfl ?aO ?aR (fun _ hk => hk) ?aF ?aB ?aS ?aL ?_; (case aR => exact (by skip; exact Kd.N_F (Kd.N_mono (ok' := (fun k_ => ((fun k_ => some k_ ≠ (v214 : Value).ownBlock ∧ some k_ ≠ (.slice Ao13 t213.length co13 : Value).ownBlock)) k_ ∧ some k_ ≠ (v243 : Value).ownBlock)) (HO238.out) (fun k_ hk => ⟨⟨hk.1.1, hk.1.2.1⟩, hk.2⟩)))); (case aB => exact (by repeat (first | (with_reducible first | exact HB.out | apply below_alloc | apply pw_below_drewN | apply below_drew1) | exact HB.out))); (case aF => exact (fun k_ hk => ⟨Kd.fresh' (Kd.N_lt (by (with_reducible repeat (first | apply Kd.N_alloc | apply Kd.N_drewN | apply Kd.N_drew)); exact HO_5.out)) k_ hk, Kd.fresh' (Kd.R_lt (by (with_reducible repeat (first | apply Kd.R_alloc | apply Kd.R_drewN | apply Kd.R_drew)); exact HO_6.out)) k_ hk⟩)); (case aO => exact (by (with_reducible repeat (first | apply Kd.N_alloc | apply Kd.N_drewN | apply Kd.N_drew)); exact Kd.N_mono HO244.out (fun _ hk => ⟨hk.1, hk.2.1⟩))); (case aS => exact (below_size (by repeat (first | (with_reducible first | exact HB.out | apply below_alloc | apply pw_below_drewN | apply below_drew1) | exact HB.out)))); (case aL => have := LMc25.out; omega); intro v246 w33 ho hb hg hat; rw [← Ny245.out] at ho; have n0_ := Aside0.mk (Kd.N_afterv (ok := (fun k_ => some k_ ≠ (.slice Ao13 t213.length co13 : Value).ownBlock ∧ some k_ ≠ (.slice Ao32 t224.length co32 : Value).ownBlock ∧ some k_ ≠ (.slice Ao34 t234.length co34 : Value).ownBlock)) (by (with_reducible repeat (first | apply Kd.N_alloc | apply Kd.N_drewN | apply Kd.N_drew)); exact HO_5.out) hg hat); have n1_ := Aside0.mk (Kd.R_over' (by (with_reducible repeat (first | apply Kd.R_alloc | apply Kd.R_drewN | apply Kd.R_drew)); exact HO_6.out) (Kd.N_typed (by (with_reducible repeat (first | apply Kd.N_alloc | apply Kd.N_drewN | apply Kd.N_drew)); exact HO244.out)) (by decide) hg); have n2_ := Aside0.mk (Kd.N_afterv (ok := (fun k_ => some k_ ≠ (v214 : Value).ownBlock ∧ some k_ ≠ (.slice Ao13 t213.length co13 : Value).ownBlock ∧ some k_ ≠ (.slice Ao34 t234.length co34 : Value).ownBlock)) (by (with_reducible repeat (first | apply Kd.N_alloc | apply Kd.N_drewN | apply Kd.N_drew)); exact HO_8.out) hg hat); have n3_ := Aside0.mk (Kd.V_afterv (ok := (fun k_ => some k_ ≠ (v214 : Value).ownBlock ∧ some k_ ≠ (.slice Ao32 t224.length co32 : Value).ownBlock ∧ some k_ ≠ (.slice Ao34 t234.length co34 : Value).ownBlock)) (by (with_reducible repeat (first | apply Kd.V_alloc | apply Kd.V_drewN | apply Kd.V_drew)); exact HO233.out) hg hat); have n4_ := Aside0.mk (Kd.N_afterv (ok := (fun k_ => some k_ ≠ (v214 : Value).ownBlock ∧ some k_ ≠ (.slice Ao13 t213.length co13 : Value).ownBlock ∧ some k_ ≠ (.slice Ao32 t224.length co32 : Value).ownBlock)) (by (with_reducible repeat (first | apply Kd.N_alloc | apply Kd.N_drewN | apply Kd.N_drew)); exact HO238.out) hg hat); have n5_ := Aside0.mk (hb); have n6_ := Aside0.mk (ho); clear HO_5; clear HO_6; clear HO_8; clear HO233; clear HO238; clear HB; clear HO244; have HO_5 := n0_; have HO_6 := n1_; have HO_8 := n2_; have HO233 := n3_; have HO238 := n4_; have HB := n5_; have HO247 := n6_; clear n0_ n1_ n2_ n3_ n4_ n5_ n6_; clear ho hb hg hat; obtain ⟨Ao35, co35, eo35⟩ := Kd.N_slice HO247.out; subst eo35; obtain ⟨Ao36, co36, eo36⟩ := Kd.N_slice HO_5.out; subst eo36) | (go_at_call 13; (with_reducible refine (soundserviceref34_Same.calls kj9 _ _ y245 _ _ t212 t248 _ ?side1 ?side2 ?side3 ?side4 A26.out).mono ?_); (case side1 => repeat (first | exact (Kd.N_reads' HO247.out).2.2 | (with_reducible refine Kd.C_alloc ?_ _) | (with_reducible refine Kd.C_drewN ?_ _) | (with_reducible refine Kd.C_drew ?_))); (case side2 => exact (Kd.N_reads' HO247.out).2.1); (case side3 => repeat (first | exact (Kd.N_reads' HO_5.out).2.2 | (with_reducible refine Kd.C_alloc ?_ _) | (with_reducible refine Kd.C_drewN ?_ _) | (with_reducible refine Kd.C_drew ?_))); (case side4 => exact (Kd.N_reads' HO_5.out).2.1); rintro e w' ⟨rfl, ⟨nd, rfl⟩⟩))
                          go_ret
                          exact ⟨by first | rfl | (simp [errW_none, errW_some] <;> rfl) | (simp [*, errW_none, errW_some] <;> rfl), by repeat (first | (with_reducible first | exact HB.out | apply below_alloc | apply pw_below_drewN | apply below_drew1) | exact HB.out)⟩
                        · rw [if_neg c25] at H
                          exact absurd H (by simp)
                      · rw [if_neg c24] at H
                        exact absurd H (by simp)
                    · rw [if_neg c23] at H
                      have c23b0 : ((wrap64 (t225 + t235)) == (t213.length : Int)) = false := beq_eq_false_iff_ne.mpr c23
                      have c23b1 : ((wrap64 (t225 + t235)) != (t213.length : Int)) = true := bne_iff_ne.mpr c23
                      obtain rfl := Option.some.inj H
                      have q37 : (t225 : Int) ≤ ((t213.length : Int) : Int) := of_decide_eq_true (by first | (with_reducible assumption) | assumption)
                      obtain ⟨i037, hi037, _, hsz37, _⟩ := info_parts info5
                      have hroom37 : t213.length ≤ co13 := (Kd.R_reads' HO_6.out).2.1
                      have hC37 : Kd.F (Kd.int .u8) _ _ Ao13 t213.length t213 := (Kd.V_at (base := w.heap.size) (Kd.R_V (Kd.R_apart' (Kd.R_apart' (HO_6.out) (Kd.N_typed HO_5.out) (by decide)) (Kd.N_typed HO_8.out) (by decide)))).2.2
                      have q037 : (0 : Int) ≤ (t225 : Int) := of_decide_eq_true (by first | (with_reducible assumption) | assumption)
                      have hcut37 := cut_from (P := Tryd.prog) 23 5 .i64 Tryd.underlying23 hi037 1 hsz37 Ao13 t213.length co13 t225 q037 q37
                      have hr37 := Kd.F_cut (m := (t225 : Int).toNat) (c := co13) hC37 (by omega) hroom37
                      obtain ⟨A37, hA37⟩ : ∃ A1, A1 = (if co13 = (t225 : Int).toNat then Ao13 else (Ao13 : Option Addr).map (·.add ((t225 : Int).toNat * 1))) := ⟨_, rfl⟩
                      obtain ⟨c37, hc37⟩ : ∃ c1, c1 = co13 - (t225 : Int).toNat := ⟨_, rfl⟩
                      have hy37 : y229.length = t213.length - (t225 : Int).toNat := (by rw [Ny229.out, List.length_drop] <;> omega)
                      rw [show (t213).drop (t225 : Int).toNat = y229 from Ny229.out.symm] at hr37
                      replace hr37 : Kd.F (Kd.int .u8) _ _ A37 y229.length y229 := (by rw [hA37]; exact hr37)
                      rw [← hy37, ← hA37, ← hc37] at hcut37
                      have HO233 := Aside0.mk (show Kd.V (Kd.int .u8) 5 _ w.heap.size _ (.slice A37 y229.length c37) y229 from Kd.V_mk (by rw [hy37, hc37]; exact Nat.sub_le_sub_right hroom37 _) hr37)
                      have HC233 := Aside0.mk (show y229.length ≤ c37 from by rw [hy37, hc37]; exact Nat.sub_le_sub_right hroom37 _)
                      clear hr37 hC37 hroom37 hi037 hsz37 hc37
                      have KY37 := Aside0.mk hy37
                      have KA37 := Aside0.mk hA37
                      clear hy37 hA37
                      replace q37 := eq_true q37
                      go_wp2_with (first | ((with_reducible refine gate_callee (f := 11) rfl ?_); refine goesL_ (some 49) rfl rfl Tryd.func11 (by kernel_rfl) rfl #[.slice A37 y229.length c37] rfl (by (try simp only [List.map_toArray, List.map_cons, List.map_nil]); first | done | rfl | (simp only [List.length_drop, List.length_take]; rfl)) ?_; (with_reducible refine (framing_Split.calls kj9 _ _ y229 t234 t235 t236 _ ?side1 ?side2 A21.out).mono ?_); (case side1 => repeat (first | exact (Kd.V_reads' HO233.out).2.2 | (with_reducible refine Kd.C_alloc ?_ _) | (with_reducible refine Kd.C_drewN ?_ _) | (with_reducible refine Kd.C_drew ?_))); (case side2 => exact (Kd.V_reads' HO233.out).2.1); rintro e w38 ⟨v237, rfl, ho0, hb⟩; refine ⟨_, rfl, ?_⟩; have n0_ := Aside0.mk (Kd.N_elder' (by (with_reducible repeat (first | apply Kd.N_alloc | apply Kd.N_drewN | apply Kd.N_drew)); exact HO_5.out) (Kd.S_base ho0) hb); have n1_ := Aside0.mk (Kd.R_below (by (with_reducible repeat (first | apply Kd.R_alloc | apply Kd.R_drewN | apply Kd.R_drew)); exact HO_6.out) hb); have n2_ := Aside0.mk (Kd.N_elder' (by (with_reducible repeat (first | apply Kd.N_alloc | apply Kd.N_drewN | apply Kd.N_drew)); exact HO_8.out) (Kd.S_base ho0) hb); have n3_ := Aside0.mk (Kd.V_elder' (by (with_reducible repeat (first | apply Kd.V_alloc | apply Kd.V_drewN | apply Kd.V_drew)); exact HO233.out) (Kd.S_base ho0) hb); have n4_ := Aside0.mk (Kd.N_lower (Kd.N_mono (ok' := fun k_ => some k_ ≠ (v214 : Value).ownBlock ∧ some k_ ≠ (.slice Ao13 t213.length co13 : Value).ownBlock ∧ some k_ ≠ (v227 : Value).ownBlock) (Kd.S_N (Kd.S_bound ho0)) (fun k_ hk_ => ⟨(Kd.fresh' (Kd.N_lt (by (with_reducible repeat (first | apply Kd.N_alloc | apply Kd.N_drewN | apply Kd.N_drew)); exact HO_5.out)) k_ hk_.2.1), (Kd.fresh' (Kd.R_lt (by (with_reducible repeat (first | apply Kd.R_alloc | apply Kd.R_drewN | apply Kd.R_drew)); exact HO_6.out)) k_ hk_.2.1), (Kd.fresh' (Kd.N_lt (by (with_reducible repeat (first | apply Kd.N_alloc | apply Kd.N_drewN | apply Kd.N_drew)); exact HO_8.out)) k_ hk_.2.1)⟩)) (below_size (by repeat (first | (with_reducible first | exact HB.out | apply below_alloc | apply pw_below_drewN | apply below_drew1) | exact HB.out)))); have n5_ := Aside0.mk (below_step (by repeat (first | (with_reducible first | exact HB.out | apply below_alloc | apply pw_below_drewN | apply below_drew1) | exact HB.out)) hb); clear HO_5; clear HO_6; clear HO_8; clear HO233; clear HB; have HO_5 := n0_; have HO_6 := n1_; have HO_8 := n2_; have HO233 := n3_; have HO238 := n4_; have HB := n5_; clear n0_ n1_ n2_ n3_ n4_ n5_; (try clear hb); (try clear hb2); (try clear hk); (try clear hi); (try clear ho0)))
                      go_ret
                      exact ⟨by first | rfl | (simp [errW_none, errW_some] <;> rfl) | (simp [*, errW_none, errW_some] <;> rfl), by repeat (first | (with_reducible first | exact HB.out | apply below_alloc | apply pw_below_drewN | apply below_drew1) | exact HB.out)⟩
                  · rw [if_neg c22] at H
                    have c22b0 : (t236 == 0) = false := beq_eq_false_iff_ne.mpr c22
                    have c22b1 : (t236 != 0) = true := bne_iff_ne.mpr c22
                    obtain rfl := Option.some.inj H
                    have q39 : (t225 : Int) ≤ ((t213.length : Int) : Int) := of_decide_eq_true (by first | (with_reducible assumption) | assumption)
                    obtain ⟨i039, hi039, _, hsz39, _⟩ := info_parts info5
                    have hroom39 : t213.length ≤ co13 := (Kd.R_reads' HO_6.out).2.1
                    have hC39 : Kd.F (Kd.int .u8) _ _ Ao13 t213.length t213 := (Kd.V_at (base := w.heap.size) (Kd.R_V (Kd.R_apart' (Kd.R_apart' (HO_6.out) (Kd.N_typed HO_5.out) (by decide)) (Kd.N_typed HO_8.out) (by decide)))).2.2
                    have q039 : (0 : Int) ≤ (t225 : Int) := of_decide_eq_true (by first | (with_reducible assumption) | assumption)
                    have hcut39 := cut_from (P := Tryd.prog) 23 5 .i64 Tryd.underlying23 hi039 1 hsz39 Ao13 t213.length co13 t225 q039 q39
                    have hr39 := Kd.F_cut (m := (t225 : Int).toNat) (c := co13) hC39 (by omega) hroom39
                    obtain ⟨A39, hA39⟩ : ∃ A1, A1 = (if co13 = (t225 : Int).toNat then Ao13 else (Ao13 : Option Addr).map (·.add ((t225 : Int).toNat * 1))) := ⟨_, rfl⟩
                    obtain ⟨c39, hc39⟩ : ∃ c1, c1 = co13 - (t225 : Int).toNat := ⟨_, rfl⟩
                    have hy39 : y229.length = t213.length - (t225 : Int).toNat := (by rw [Ny229.out, List.length_drop] <;> omega)
                    rw [show (t213).drop (t225 : Int).toNat = y229 from Ny229.out.symm] at hr39
                    replace hr39 : Kd.F (Kd.int .u8) _ _ A39 y229.length y229 := (by rw [hA39]; exact hr39)
                    rw [← hy39, ← hA39, ← hc39] at hcut39
                    have HO233 := Aside0.mk (show Kd.V (Kd.int .u8) 5 _ w.heap.size _ (.slice A39 y229.length c39) y229 from Kd.V_mk (by rw [hy39, hc39]; exact Nat.sub_le_sub_right hroom39 _) hr39)
                    have HC233 := Aside0.mk (show y229.length ≤ c39 from by rw [hy39, hc39]; exact Nat.sub_le_sub_right hroom39 _)
                    clear hr39 hC39 hroom39 hi039 hsz39 hc39
                    have KY39 := Aside0.mk hy39
                    have KA39 := Aside0.mk hA39
                    clear hy39 hA39
                    replace q39 := eq_true q39
                    go_wp2_with (first | ((with_reducible refine gate_callee (f := 11) rfl ?_); refine goesL_ (some 49) rfl rfl Tryd.func11 (by kernel_rfl) rfl #[.slice A39 y229.length c39] rfl (by (try simp only [List.map_toArray, List.map_cons, List.map_nil]); first | done | rfl | (simp only [List.length_drop, List.length_take]; rfl)) ?_; (with_reducible refine (framing_Split.calls kj9 _ _ y229 t234 t235 t236 _ ?side1 ?side2 A21.out).mono ?_); (case side1 => repeat (first | exact (Kd.V_reads' HO233.out).2.2 | (with_reducible refine Kd.C_alloc ?_ _) | (with_reducible refine Kd.C_drewN ?_ _) | (with_reducible refine Kd.C_drew ?_))); (case side2 => exact (Kd.V_reads' HO233.out).2.1); rintro e w40 ⟨v237, rfl, ho0, hb⟩; refine ⟨_, rfl, ?_⟩; have n0_ := Aside0.mk (Kd.N_elder' (by (with_reducible repeat (first | apply Kd.N_alloc | apply Kd.N_drewN | apply Kd.N_drew)); exact HO_5.out) (Kd.S_base ho0) hb); have n1_ := Aside0.mk (Kd.R_below (by (with_reducible repeat (first | apply Kd.R_alloc | apply Kd.R_drewN | apply Kd.R_drew)); exact HO_6.out) hb); have n2_ := Aside0.mk (Kd.N_elder' (by (with_reducible repeat (first | apply Kd.N_alloc | apply Kd.N_drewN | apply Kd.N_drew)); exact HO_8.out) (Kd.S_base ho0) hb); have n3_ := Aside0.mk (Kd.V_elder' (by (with_reducible repeat (first | apply Kd.V_alloc | apply Kd.V_drewN | apply Kd.V_drew)); exact HO233.out) (Kd.S_base ho0) hb); have n4_ := Aside0.mk (Kd.N_lower (Kd.N_mono (ok' := fun k_ => some k_ ≠ (v214 : Value).ownBlock ∧ some k_ ≠ (.slice Ao13 t213.length co13 : Value).ownBlock ∧ some k_ ≠ (v227 : Value).ownBlock) (Kd.S_N (Kd.S_bound ho0)) (fun k_ hk_ => ⟨(Kd.fresh' (Kd.N_lt (by (with_reducible repeat (first | apply Kd.N_alloc | apply Kd.N_drewN | apply Kd.N_drew)); exact HO_5.out)) k_ hk_.2.1), (Kd.fresh' (Kd.R_lt (by (with_reducible repeat (first | apply Kd.R_alloc | apply Kd.R_drewN | apply Kd.R_drew)); exact HO_6.out)) k_ hk_.2.1), (Kd.fresh' (Kd.N_lt (by (with_reducible repeat (first | apply Kd.N_alloc | apply Kd.N_drewN | apply Kd.N_drew)); exact HO_8.out)) k_ hk_.2.1)⟩)) (below_size (by repeat (first | (with_reducible first | exact HB.out | apply below_alloc | apply pw_below_drewN | apply below_drew1) | exact HB.out)))); have n5_ := Aside0.mk (below_step (by repeat (first | (with_reducible first | exact HB.out | apply below_alloc | apply pw_below_drewN | apply below_drew1) | exact HB.out)) hb); clear HO_5; clear HO_6; clear HO_8; clear HO233; clear HB; have HO_5 := n0_; have HO_6 := n1_; have HO_8 := n2_; have HO233 := n3_; have HO238 := n4_; have HB := n5_; clear n0_ n1_ n2_ n3_ n4_ n5_; (try clear hb); (try clear hb2); (try clear hk); (try clear hi); (try clear ho0)))
                    go_ret
                    exact ⟨by first | rfl | (simp [errW_none, errW_some] <;> rfl) | (simp [*, errW_none, errW_some] <;> rfl), by repeat (first | (with_reducible first | exact HB.out | apply below_alloc | apply pw_below_drewN | apply below_drew1) | exact HB.out)⟩
                · rw [if_neg c20] at H
                  exact absurd H (by simp)
              · rw [if_neg c19] at H
                exact absurd H (by simp)
      · rw [if_neg c8] at H
        exact absurd H (by simp)
    · rw [if_neg c7] at H
      exact absurd H (by simp)
  · replace c4 := Bool.eq_false_iff.mpr c4
    subst c4
    have H1 : (some false) = some r := by rw [if_neg (show ¬ (false = true) by decide)] at H; exact H
    clear H
    have H := H1
    clear H1
    obtain rfl := Option.some.inj H
    go_enter Tryd.func4, Tryd.ntmps4
    go_wp2_with (first | ((with_reducible refine gate_callee (f := 7) rfl ?_); refine goesL_ (some 14) rfl rfl Tryd.func7 (by kernel_rfl) rfl #[] rfl (by (try simp only [List.map_toArray, List.map_cons, List.map_nil]); first | done | rfl | (simp only [List.length_drop, List.length_take]; rfl)) ?_; (with_reducible refine (soundservicelaw34_sane.calls k  false _ ?side1 A3.out).mono ?_); (case side1 => exact Glob.below HG.out (by repeat (first | (with_reducible first | exact HB.out | apply below_alloc | apply pw_below_drewN | apply below_drew1) | exact HB.out))); rintro e w41 ⟨rfl, hb⟩; refine ⟨_, rfl, ?_⟩; have n0_ := Aside0.mk (below_step (by repeat (first | (with_reducible first | exact HB.out | apply below_alloc | apply pw_below_drewN | apply below_drew1) | exact HB.out)) hb); clear HB; have HB := n0_; clear n0_; (try clear hb); (try clear hb2); (try clear hk); (try clear hi)))
    go_ret
    exact ⟨by first | rfl | (simp [errW_none, errW_some] <;> rfl) | (simp [*, errW_none, errW_some] <;> rfl), by repeat (first | (with_reducible first | exact HB.out | apply below_alloc | apply pw_below_drewN | apply below_drew1) | exact HB.out)⟩

/-- THE ONE PURE STATEMENT of soundservicelaw34_FramingStreams: yours. -/
def soundservicelaw34_FramingStreams.Pure : Prop := ∀ (l0 : List Int) (a1 : Int), l0.length ≤ maxLen → l0.length * 8 ≤ 140737488351232 → (∀ x ∈ l0, (Lit.int .i64 x).wf = true) → (Lit.int .i64 a1).wf = true → ∃ k, soundservicelaw34_FramingStreams.f k l0 a1 = some true
theorem soundservicelaw34_FramingStreams.walk (P : soundservicelaw34_FramingStreams.Pure) (a0 : Option Addr) (len0 cap0 : Nat) (z0 : List Int) (a1 : Int) (w : World) (hG : Glob w) (w0 : (a0 = none ∧ len0 = 0 ∧ cap0 = 0 ∧ z0 = []) ∨ ∃ x, a0 = some x ∧ len0 ≤ cap0 ∧ cap0 ≤ maxLen ∧ z0.length = cap0 ∧ (∀ i, i < z0.length → w.cell? (x.add i) = some (.int .i64 (z0.getD i 0))) ∧ ∀ n ∈ z0, (Lit.int .i64 n).wf = true) (y0 : len0 * 8 ≤ 140737488351232) (w1 : (Lit.int .i64 a1).wf = true) :
    Calls Tryd.prog 4 #[.slice a0 len0 cap0, .int .i64 a1] w fun e w' => e = .returned (.bool true) ∧ Below w.heap.size w w' := by
  obtain ⟨l0, rfl, hr0, hm0, hw0, hc0⟩ := ReadsInt.ofRowC w0
  obtain ⟨k, h⟩ := P l0 a1 hm0 y0 hw0 w1
  refine (soundservicelaw34_FramingStreams.calls k _ _ l0 a1 true w hG (Kd.C_of_reads (d := (0 : Int)) (h1 := fun _ => rfl) hr0) hc0 h).mono ?_
  rintro e w' ⟨rfl, hd⟩
  exact ⟨rfl, hd⟩

/-! ### framing_Resync: function 15 -/
def framing_Resync.l0 : Nat → List Int → Int → Option (Int)
  | 0, _, _ => none
  | k + 1, x0, x3 => if x3 < (x0.length : Int) then (if 0 ≤ x3 then (if x3 ≤ (x0.length : Int) then ((framing_first.f k (x0.drop (x3 : Int).toNat)).bind fun bt250 => (if bt250.2.1 > 0 then (some x3) else (framing_Resync.l0 k x0 (wrap64 (x3 + 1))))) else (none)) else (none)) else (some (x0.length : Int))
def framing_Resync.f (k : Nat) (l0 : List Int) : Option (Int) := framing_Resync.l0 k l0 1
theorem framing_Resync.mono_l : ∀ k, (∀ y0 y1, LeO (framing_Resync.l0 k y0 y1) (framing_Resync.l0 (k + 1) y0 y1))
  | 0 => fun _ _ r h => by simp [framing_Resync.l0] at h
  | k + 1 => by
    have ih0 := framing_Resync.mono_l k
    · intro y0 y1
      unfold framing_Resync.l0
      repeat' first
      | (with_reducible exact ih0 _ _)
      | (with_reducible exact framing_first.mono _ _)
      | (with_reducible exact LeO.refl _)
      | (with_reducible exact LeO.none _)
      | (with_reducible refine LeO.ite ?_ ?_)
      | (with_reducible refine LeO.bind ?_ (fun _ => ?_))
      | exact ih0 _ _
      | exact framing_first.mono _ _
      | exact LeO.none _
      | refine LeO.ite ?_ ?_
      | refine LeO.bind ?_ (fun _ => ?_)
theorem framing_Resync.mono : ∀ a0 k, LeO (framing_Resync.f k a0) (framing_Resync.f (k + 1) a0) := by
  intro a0 k
  have ih0 := framing_Resync.mono_l k
  unfold framing_Resync.f
  repeat' first
      | (with_reducible exact ih0 _ _)
      | (with_reducible exact framing_first.mono _ _)
      | (with_reducible exact LeO.refl _)
      | (with_reducible exact LeO.none _)
      | (with_reducible refine LeO.ite ?_ ?_)
      | (with_reducible refine LeO.bind ?_ (fun _ => ?_))
      | exact ih0 _ _
      | exact framing_first.mono _ _
      | exact LeO.none _
      | refine LeO.ite ?_ ?_
      | refine LeO.bind ?_ (fun _ => ?_)
set_option maxHeartbeats 8000000 in
set_option maxRecDepth 100000 in
theorem framing_Resync.calls (k : Nat) (A0 : Option Addr) (c0 : Nat) (l0 : List Int) (r : Int) (w : World) (hr0 : Kd.C (Kd.int .u8) w A0 l0.length l0) (hc0 : l0.length ≤ c0) (h : framing_Resync.f k l0 = some r) :
    Calls Tryd.prog 15 #[.slice A0 l0.length c0] w fun e w' => e = .returned (.int .i64 r) ∧ Below w.heap.size w w' := by
  have HR0 := Aside0.mk hr0
  have HC0 := Aside0.mk hc0
  clear hr0 hc0
  have HB := Aside0.mk (Below.refl w.heap.size w)
  have H : (framing_Resync.l0 k l0 1) = some r := h
  clear h
  have H' := Aside0.mk H
  clear H
  go_enter Tryd.func15, Tryd.ntmps15
  go_wp2
  go_loopg [3] k (fun kq v3 w' => ∃ (x3_1 : Int), v3 = .int .i64 x3_1 ∧ Aside0 (framing_Resync.l0 kq l0 x3_1 = some r) ∧ Aside0 (kq ≤ k) ∧ Aside0 (Below w.heap.size w w'))
  case atStart => exact ⟨(1), (by first | rfl | (simp; done) | (simp [*]; done) | (simp [neNil_, eqNil_]; done) | (simp [*, neNil_, eqNil_]; done)), H', ⟨Nat.le_refl _⟩, ⟨by repeat (first | (with_reducible first | exact HB.out | apply below_alloc | apply pw_below_drewN | apply below_drew1) | exact HB.out)⟩⟩
  case round =>
    clear H'
    try clear c1
    obtain ⟨x3_1, rfl, HA, HK1, HB⟩ := hrel
    cases gk with
    | zero => exact absurd HA.out (by simp [framing_Resync.l0])
    | succ k1 =>
      have H := HA.out
      clear HA
      simp only [framing_Resync.l0] at H
      by_cases c2 : x3_1 < (l0.length : Int)
      · rw [if_pos c2] at H
        have c2b0 : decide (x3_1 < (l0.length : Int)) = true := decide_eq_true c2
        clear c2
        by_cases c3 : 0 ≤ x3_1
        · rw [if_pos c3] at H
          have c3b0 := eq_true c3
          have c3b1 : decide (0 ≤ x3_1) = true := decide_eq_true c3
          clear c3
          by_cases c4 : x3_1 ≤ (l0.length : Int)
          · rw [if_pos c4] at H
            have c4b0 := eq_true c4
            have c4b1 : decide (x3_1 ≤ (l0.length : Int)) = true := decide_eq_true c4
            clear c4
            replace H := Option.bind_eq_some_iff.mp H
            obtain ⟨⟨t250, t253, t254⟩, A50, H⟩ := H
            replace H : (if t253 > 0 then (some x3_1) else (framing_Resync.l0 k1 l0 (wrap64 (x3_1 + 1)))) = some r := H
            have A5 := Aside0.mk A50
            clear A50
            by_cases c6 : t253 > 0
            · rw [if_pos c6] at H
              have c6b0 : decide (0 < t253) = true := decide_eq_true c6
              clear c6
              obtain rfl := Option.some.inj H
              obtain ⟨i07, hi07, _, hsz7, _⟩ := info_parts info5
              obtain ⟨A7, hcut7, hA7, hC7⟩ := print_drop_of (P := Tryd.prog) (Value.int .u8) 0 23 5 .i64 Tryd.underlying23 hi07 hsz7 A0 c0 l0 x3_1 (of_decide_eq_true (by first | (with_reducible assumption) | assumption)) (of_decide_eq_true (by first | (with_reducible assumption) | assumption)) HC0.out
              have HR249 := Aside0.mk (Kd.C_of_reads (h1 := fun _ => rfl) (hA7 _ (Kd.reads_of_C HR0.out)))
              have HC249 := Aside0.mk hC7
              clear hA7 hC7 hi07 hsz7
              go_wp2_with (first | ((with_reducible refine gate_callee (f := 19) rfl ?_); refine goesL_ (some 17) rfl rfl Tryd.func19 (by kernel_rfl) rfl #[.slice A7 (l0.drop (x3_1 : Int).toNat).length (c0 - x3_1.toNat)] rfl (by (try simp only [List.map_toArray, List.map_cons, List.map_nil]); first | done | (rw [show (l0.drop (x3_1 : Int).toNat).length = (l0.length - x3_1.toNat) from List.length_drop] <;> rfl) | rfl | (simp only [List.length_drop, List.length_take]; rfl)) ?_; (with_reducible refine (framing_first.calls k1 (fun k_ => k_ < w.heap.size) _ _ (l0.drop (x3_1 : Int).toNat) t250 t253 t254 _ ?side1 A5.out).mono ?_); (case side1 => exact Kd.V_mk HC249.out (Kd.F_below (Kd.C_F (Kd.heap_int .u8) HR249.out) (by repeat (first | (with_reducible first | exact HB.out | apply below_alloc | apply pw_below_drewN | apply below_drew1) | exact HB.out)))); rintro e w8 ⟨v251, rfl, ho0, hb⟩; refine ⟨_, rfl, ?_⟩; have n0_ := Aside0.mk (Kd.V_lower (Kd.V_mono (ok' := fun k_ => True) ho0 (fun k_ hk_ => trivial)) (below_size (by repeat (first | (with_reducible first | exact HB.out | apply below_alloc | apply pw_below_drewN | apply below_drew1) | exact HB.out)))); have n1_ := Aside0.mk (below_step (by repeat (first | (with_reducible first | exact HB.out | apply below_alloc | apply pw_below_drewN | apply below_drew1) | exact HB.out)) hb); clear HB; have HO252 := n0_; have HB := n1_; clear n0_ n1_; (try clear hb); (try clear hb2); (try clear hk); (try clear hi); (try clear ho0)))
              go_ret
              exact ⟨by first | rfl | (simp [errW_none, errW_some] <;> rfl) | (simp [*, errW_none, errW_some] <;> rfl), by repeat (first | (with_reducible first | exact HB.out | apply below_alloc | apply pw_below_drewN | apply below_drew1) | exact HB.out)⟩
            · rw [if_neg c6] at H
              have c6b0 : decide (0 < t253) = false := decide_eq_false c6
              clear c6
              have H' := Aside0.mk H
              clear H
              obtain ⟨i09, hi09, _, hsz9, _⟩ := info_parts info5
              obtain ⟨A9, hcut9, hA9, hC9⟩ := print_drop_of (P := Tryd.prog) (Value.int .u8) 0 23 5 .i64 Tryd.underlying23 hi09 hsz9 A0 c0 l0 x3_1 (of_decide_eq_true (by first | (with_reducible assumption) | assumption)) (of_decide_eq_true (by first | (with_reducible assumption) | assumption)) HC0.out
              have HR249 := Aside0.mk (Kd.C_of_reads (h1 := fun _ => rfl) (hA9 _ (Kd.reads_of_C HR0.out)))
              have HC249 := Aside0.mk hC9
              clear hA9 hC9 hi09 hsz9
              go_wp2_with (first | ((with_reducible refine gate_callee (f := 19) rfl ?_); refine goesL_ (some 17) rfl rfl Tryd.func19 (by kernel_rfl) rfl #[.slice A9 (l0.drop (x3_1 : Int).toNat).length (c0 - x3_1.toNat)] rfl (by (try simp only [List.map_toArray, List.map_cons, List.map_nil]); first | done | (rw [show (l0.drop (x3_1 : Int).toNat).length = (l0.length - x3_1.toNat) from List.length_drop] <;> rfl) | rfl | (simp only [List.length_drop, List.length_take]; rfl)) ?_; (with_reducible refine (framing_first.calls k1 (fun k_ => k_ < w.heap.size) _ _ (l0.drop (x3_1 : Int).toNat) t250 t253 t254 _ ?side1 A5.out).mono ?_); (case side1 => exact Kd.V_mk HC249.out (Kd.F_below (Kd.C_F (Kd.heap_int .u8) HR249.out) (by repeat (first | (with_reducible first | exact HB.out | apply below_alloc | apply pw_below_drewN | apply below_drew1) | exact HB.out)))); rintro e w10 ⟨v251, rfl, ho0, hb⟩; refine ⟨_, rfl, ?_⟩; have n0_ := Aside0.mk (Kd.V_lower (Kd.V_mono (ok' := fun k_ => True) ho0 (fun k_ hk_ => trivial)) (below_size (by repeat (first | (with_reducible first | exact HB.out | apply below_alloc | apply pw_below_drewN | apply below_drew1) | exact HB.out)))); have n1_ := Aside0.mk (below_step (by repeat (first | (with_reducible first | exact HB.out | apply below_alloc | apply pw_below_drewN | apply below_drew1) | exact HB.out)) hb); clear HB; have HO252 := n0_; have HB := n1_; clear n0_ n1_; (try clear hb); (try clear hb2); (try clear hk); (try clear hi); (try clear ho0)))
              go_roundg k1
              case measure => have := HK1.out; omega
              case rel => exact ⟨(wrap64 (x3_1 + 1)), (by first | rfl | (simp; done) | (simp [*]; done) | (simp [neNil_, eqNil_]; done) | (simp [*, neNil_, eqNil_]; done)), H', ⟨by have := HK1.out; omega⟩, ⟨by repeat (first | (with_reducible first | exact HB.out | apply below_alloc | apply pw_below_drewN | apply below_drew1) | exact HB.out)⟩⟩
          · rw [if_neg c4] at H
            exact absurd H (by simp)
        · rw [if_neg c3] at H
          exact absurd H (by simp)
      · rw [if_neg c2] at H
        have c2b0 : decide (x3_1 < (l0.length : Int)) = false := decide_eq_false c2
        clear c2
        obtain rfl := Option.some.inj H
        go_wp2
        go_ret
        exact ⟨by first | rfl | (simp [errW_none, errW_some] <;> rfl) | (simp [*, errW_none, errW_some] <;> rfl), by repeat (first | (with_reducible first | exact HB.out | apply below_alloc | apply pw_below_drewN | apply below_drew1) | exact HB.out)⟩

/-! ### soundservicelaw34_FramingRecovers: function 6 -/
def soundservicelaw34_FramingRecovers.j0 : Nat → List Int → List (List Int) → List Int → Int → Bool → Option (Bool)
  | 0, _, _, _, _, _ => none
  | k + 1, x1, x5, x7, x8, x41 => if x41 = true then (some false) else (if 0 ≤ x8 then (if x8 ≤ (x7.length : Int) then ((framing_Split.f k (x7.drop (x8 : Int).toNat)).bind fun bt276 => (if x8 < (x7.length : Int) then (if (bt276.1.length : Int) ≥ 1 then (if bt276.2.1 ≥ 3 then (some (decide (bt276.2.1 ≤ (wrap64 ((x7.length : Int) - x8))))) else (some false)) else (some false)) else (if (x1.length : Int) = 0 then (some true) else (some ((x5.length : Int) == 0))))) else (none)) else (none))
def soundservicelaw34_FramingRecovers.f (k : Nat) (l0 : List Int) (l1 : List Int) : Option (Bool) := (soundservicelaw34_sane.f k).bind fun t255 => (if t255 = true then (if (l1.length : Int) > 60 then (some true) else ((soundservicelaw34_stream.f k l0).bind fun bt256 => ((some (([] : List Int) : List Int)).bind fun y262 => (if y262.length + l1.length < 140737488355328 then ((some (y262 ++ l1 : List Int)).bind fun y265 => (if y265.length + bt256.2.length < 140737488355328 then ((some (y265 ++ bt256.2 : List Int)).bind fun y268 => ((framing_Resync.f k y268).bind fun t271 => (if (y268.length : Int) = 0 then (some (t271 == 0)) else (if t271 < 1 then (soundservicelaw34_FramingRecovers.j0 k l1 bt256.1 y268 t271 true) else (soundservicelaw34_FramingRecovers.j0 k l1 bt256.1 y268 t271 (decide (t271 > (y268.length : Int)))))))) else (none))) else (none))))) else (some false))
theorem soundservicelaw34_FramingRecovers.mono_l : ∀ k, (∀ y0 y1 y2 y3 y4, LeO (soundservicelaw34_FramingRecovers.j0 k y0 y1 y2 y3 y4) (soundservicelaw34_FramingRecovers.j0 (k + 1) y0 y1 y2 y3 y4))
  | 0 => fun _ _ _ _ _ r h => by simp [soundservicelaw34_FramingRecovers.j0] at h
  | k + 1 => by
    have ih0 := soundservicelaw34_FramingRecovers.mono_l k
    · intro y0 y1 y2 y3 y4
      unfold soundservicelaw34_FramingRecovers.j0
      repeat' first
      | (with_reducible exact ih0 _ _ _ _ _)
      | (with_reducible exact framing_Resync.mono _ _)
      | (with_reducible exact framing_Split.mono _ _)
      | (with_reducible exact soundservicelaw34_sane.mono _)
      | (with_reducible exact soundservicelaw34_stream.mono _ _)
      | (with_reducible exact LeO.refl _)
      | (with_reducible exact LeO.none _)
      | (with_reducible refine LeO.ite ?_ ?_)
      | (with_reducible refine LeO.bind ?_ (fun _ => ?_))
      | exact ih0 _ _ _ _ _
      | exact framing_Resync.mono _ _
      | exact framing_Split.mono _ _
      | exact soundservicelaw34_sane.mono _
      | exact soundservicelaw34_stream.mono _ _
      | exact LeO.none _
      | refine LeO.ite ?_ ?_
      | refine LeO.bind ?_ (fun _ => ?_)
theorem soundservicelaw34_FramingRecovers.mono : ∀ a0 a1 k, LeO (soundservicelaw34_FramingRecovers.f k a0 a1) (soundservicelaw34_FramingRecovers.f (k + 1) a0 a1) := by
  intro a0 a1 k
  have ih0 := soundservicelaw34_FramingRecovers.mono_l k
  unfold soundservicelaw34_FramingRecovers.f
  repeat' first
      | (with_reducible exact ih0 _ _ _ _ _)
      | (with_reducible exact framing_Resync.mono _ _)
      | (with_reducible exact framing_Split.mono _ _)
      | (with_reducible exact soundservicelaw34_sane.mono _)
      | (with_reducible exact soundservicelaw34_stream.mono _ _)
      | (with_reducible exact LeO.refl _)
      | (with_reducible exact LeO.none _)
      | (with_reducible refine LeO.ite ?_ ?_)
      | (with_reducible refine LeO.bind ?_ (fun _ => ?_))
      | exact ih0 _ _ _ _ _
      | exact framing_Resync.mono _ _
      | exact framing_Split.mono _ _
      | exact soundservicelaw34_sane.mono _
      | exact soundservicelaw34_stream.mono _ _
      | exact LeO.none _
      | refine LeO.ite ?_ ?_
      | refine LeO.bind ?_ (fun _ => ?_)
set_option maxHeartbeats 8000000 in
set_option maxRecDepth 100000 in
theorem soundservicelaw34_FramingRecovers.calls (k : Nat) (A0 : Option Addr) (c0 : Nat) (l0 : List Int) (A1 : Option Addr) (c1 : Nat) (l1 : List Int) (r : Bool) (w : World) (hG : Glob w) (hr0 : Kd.C (Kd.int .i64) w A0 l0.length l0) (hc0 : l0.length ≤ c0) (hr1 : Kd.C (Kd.int .u8) w A1 l1.length l1) (hc1 : l1.length ≤ c1) (h : soundservicelaw34_FramingRecovers.f k l0 l1 = some r) :
    Calls Tryd.prog 6 #[.slice A0 l0.length c0, .slice A1 l1.length c1] w fun e w' => e = .returned (.bool r) ∧ Below w.heap.size w w' := by
  have HG := Aside0.mk hG
  clear hG
  have HR0 := Aside0.mk hr0
  have HC0 := Aside0.mk hc0
  clear hr0 hc0
  have HR1 := Aside0.mk hr1
  have HC1 := Aside0.mk hc1
  clear hr1 hc1
  have HB := Aside0.mk (Below.refl w.heap.size w)
  have H : ((soundservicelaw34_sane.f k).bind fun t255 => (if t255 = true then (if (l1.length : Int) > 60 then (some true) else ((soundservicelaw34_stream.f k l0).bind fun bt256 => ((some (([] : List Int) : List Int)).bind fun y262 => (if y262.length + l1.length < 140737488355328 then ((some (y262 ++ l1 : List Int)).bind fun y265 => (if y265.length + bt256.2.length < 140737488355328 then ((some (y265 ++ bt256.2 : List Int)).bind fun y268 => ((framing_Resync.f k y268).bind fun t271 => (if (y268.length : Int) = 0 then (some (t271 == 0)) else (if t271 < 1 then (soundservicelaw34_FramingRecovers.j0 k l1 bt256.1 y268 t271 true) else (soundservicelaw34_FramingRecovers.j0 k l1 bt256.1 y268 t271 (decide (t271 > (y268.length : Int)))))))) else (none))) else (none))))) else (some false))) = some r := h
  clear h
  replace H := Option.bind_eq_some_iff.mp H
  obtain ⟨t255, A30, H⟩ := H
  replace H : (if t255 = true then (if (l1.length : Int) > 60 then (some true) else ((soundservicelaw34_stream.f k l0).bind fun bt256 => ((some (([] : List Int) : List Int)).bind fun y262 => (if y262.length + l1.length < 140737488355328 then ((some (y262 ++ l1 : List Int)).bind fun y265 => (if y265.length + bt256.2.length < 140737488355328 then ((some (y265 ++ bt256.2 : List Int)).bind fun y268 => ((framing_Resync.f k y268).bind fun t271 => (if (y268.length : Int) = 0 then (some (t271 == 0)) else (if t271 < 1 then (soundservicelaw34_FramingRecovers.j0 k l1 bt256.1 y268 t271 true) else (soundservicelaw34_FramingRecovers.j0 k l1 bt256.1 y268 t271 (decide (t271 > (y268.length : Int)))))))) else (none))) else (none))))) else (some false)) = some r := H
  have A3 := Aside0.mk A30
  clear A30
  by_cases c4 : t255 = true
  · subst c4
    have H1 : (if (l1.length : Int) > 60 then (some true) else ((soundservicelaw34_stream.f k l0).bind fun bt256 => ((some (([] : List Int) : List Int)).bind fun y262 => (if y262.length + l1.length < 140737488355328 then ((some (y262 ++ l1 : List Int)).bind fun y265 => (if y265.length + bt256.2.length < 140737488355328 then ((some (y265 ++ bt256.2 : List Int)).bind fun y268 => ((framing_Resync.f k y268).bind fun t271 => (if (y268.length : Int) = 0 then (some (t271 == 0)) else (if t271 < 1 then (soundservicelaw34_FramingRecovers.j0 k l1 bt256.1 y268 t271 true) else (soundservicelaw34_FramingRecovers.j0 k l1 bt256.1 y268 t271 (decide (t271 > (y268.length : Int)))))))) else (none))) else (none))))) = some r := by rw [if_pos rfl] at H; exact H
    clear H
    have H := H1
    clear H1
    by_cases c5 : (l1.length : Int) > 60
    · rw [if_pos c5] at H
      have c5b0 : decide (60 < (l1.length : Int)) = true := decide_eq_true c5
      have c5b1 : decide (60 < l1.length) = true := decide_eq_true (by omega)
      clear c5
      obtain rfl := Option.some.inj H
      go_enter Tryd.func6, Tryd.ntmps6
      go_wp2_with (first | ((with_reducible refine gate_callee (f := 7) rfl ?_); refine goesL_ (some 12) rfl rfl Tryd.func7 (by kernel_rfl) rfl #[] rfl (by (try simp only [List.map_toArray, List.map_cons, List.map_nil]); first | done | rfl | (simp only [List.length_drop, List.length_take]; rfl)) ?_; (with_reducible refine (soundservicelaw34_sane.calls k  true _ ?side1 A3.out).mono ?_); (case side1 => exact Glob.below HG.out (by repeat (first | (with_reducible first | exact HB.out | apply below_alloc | apply pw_below_drewN | apply below_drew1) | exact HB.out))); rintro e w6 ⟨rfl, hb⟩; refine ⟨_, rfl, ?_⟩; have n0_ := Aside0.mk (below_step (by repeat (first | (with_reducible first | exact HB.out | apply below_alloc | apply pw_below_drewN | apply below_drew1) | exact HB.out)) hb); clear HB; have HB := n0_; clear n0_; (try clear hb); (try clear hb2); (try clear hk); (try clear hi)))
      go_ret
      exact ⟨by first | rfl | (simp [errW_none, errW_some] <;> rfl) | (simp [*, errW_none, errW_some] <;> rfl), by repeat (first | (with_reducible first | exact HB.out | apply below_alloc | apply pw_below_drewN | apply below_drew1) | exact HB.out)⟩
    · rw [if_neg c5] at H
      have c5b0 : decide (60 < (l1.length : Int)) = false := decide_eq_false c5
      have c5b1 : decide (60 < l1.length) = false := decide_eq_false (by omega)
      clear c5
      replace H := Option.bind_eq_some_iff.mp H
      obtain ⟨⟨t256, t257⟩, A70, H⟩ := H
      replace H : ((some (([] : List Int) : List Int)).bind fun y262 => (if y262.length + l1.length < 140737488355328 then ((some (y262 ++ l1 : List Int)).bind fun y265 => (if y265.length + t257.length < 140737488355328 then ((some (y265 ++ t257 : List Int)).bind fun y268 => ((framing_Resync.f k y268).bind fun t271 => (if (y268.length : Int) = 0 then (some (t271 == 0)) else (if t271 < 1 then (soundservicelaw34_FramingRecovers.j0 k l1 t256 y268 t271 true) else (soundservicelaw34_FramingRecovers.j0 k l1 t256 y268 t271 (decide (t271 > (y268.length : Int)))))))) else (none))) else (none))) = some r := H
      have A7 := Aside0.mk A70
      clear A70
      obtain ⟨y262, hy262⟩ : ∃ y_ : List Int, y_ = (([] : List Int)) := ⟨_, rfl⟩
      replace H : (if y262.length + l1.length < 140737488355328 then ((some (y262 ++ l1 : List Int)).bind fun y265 => (if y265.length + t257.length < 140737488355328 then ((some (y265 ++ t257 : List Int)).bind fun y268 => ((framing_Resync.f k y268).bind fun t271 => (if (y268.length : Int) = 0 then (some (t271 == 0)) else (if t271 < 1 then (soundservicelaw34_FramingRecovers.j0 k l1 t256 y268 t271 true) else (soundservicelaw34_FramingRecovers.j0 k l1 t256 y268 t271 (decide (t271 > (y268.length : Int)))))))) else (none))) else (none)) = some r := by first | (rw [hy262]; with_reducible exact H) | (have H2_ := (Option.bind_some _ _).symm.trans H; rw [hy262]; with_reducible exact H2_) | (have H2_ := (Option.bind_some _ _).symm.trans H; with_reducible exact H2_) | with_reducible exact H | (rw [hy262]; exact H) | exact H
      have Ny262 := Aside0.mk hy262
      clear hy262
      by_cases c8 : y262.length + l1.length < 140737488355328
      · rw [if_pos c8] at H
        have LMc8 := Aside0.mk c8
        clear c8
        obtain ⟨y265, hy265⟩ : ∃ y_ : List Int, y_ = (y262 ++ l1) := ⟨_, rfl⟩
        replace H : (if y265.length + t257.length < 140737488355328 then ((some (y265 ++ t257 : List Int)).bind fun y268 => ((framing_Resync.f k y268).bind fun t271 => (if (y268.length : Int) = 0 then (some (t271 == 0)) else (if t271 < 1 then (soundservicelaw34_FramingRecovers.j0 k l1 t256 y268 t271 true) else (soundservicelaw34_FramingRecovers.j0 k l1 t256 y268 t271 (decide (t271 > (y268.length : Int)))))))) else (none)) = some r := by first | (rw [hy265]; with_reducible exact H) | (have H2_ := (Option.bind_some _ _).symm.trans H; rw [hy265]; with_reducible exact H2_) | (have H2_ := (Option.bind_some _ _).symm.trans H; with_reducible exact H2_) | with_reducible exact H | (rw [hy265]; exact H) | exact H
        have Ny265 := Aside0.mk hy265
        clear hy265
        by_cases c9 : y265.length + t257.length < 140737488355328
        · rw [if_pos c9] at H
          have LMc9 := Aside0.mk c9
          clear c9
          obtain ⟨y268, hy268⟩ : ∃ y_ : List Int, y_ = (y265 ++ t257) := ⟨_, rfl⟩
          replace H : ((framing_Resync.f k y268).bind fun t271 => (if (y268.length : Int) = 0 then (some (t271 == 0)) else (if t271 < 1 then (soundservicelaw34_FramingRecovers.j0 k l1 t256 y268 t271 true) else (soundservicelaw34_FramingRecovers.j0 k l1 t256 y268 t271 (decide (t271 > (y268.length : Int))))))) = some r := by first | (rw [hy268]; with_reducible exact H) | (have H2_ := (Option.bind_some _ _).symm.trans H; rw [hy268]; with_reducible exact H2_) | (have H2_ := (Option.bind_some _ _).symm.trans H; with_reducible exact H2_) | with_reducible exact H | (rw [hy268]; exact H) | exact H
          have Ny268 := Aside0.mk hy268
          clear hy268
          replace H := Option.bind_eq_some_iff.mp H
          obtain ⟨t271, A100, H⟩ := H
          replace H : (if (y268.length : Int) = 0 then (some (t271 == 0)) else (if t271 < 1 then (soundservicelaw34_FramingRecovers.j0 k l1 t256 y268 t271 true) else (soundservicelaw34_FramingRecovers.j0 k l1 t256 y268 t271 (decide (t271 > (y268.length : Int)))))) = some r := H
          have A10 := Aside0.mk A100
          clear A100
          by_cases c11 : (y268.length : Int) = 0
          · rw [if_pos c11] at H
            have c11b0 : ((y268.length : Int) == 0) = true := beq_iff_eq.mpr c11
            have c11b1 : ((y268.length : Int) != 0) = false := bne_eq_false_iff_eq.mpr c11
            clear c11
            obtain rfl := Option.some.inj H
            go_enter Tryd.func6, Tryd.ntmps6
            go_wp2_with (first | ((with_reducible refine gate_callee (f := 7) rfl ?_); refine goesL_ (some 12) rfl rfl Tryd.func7 (by kernel_rfl) rfl #[] rfl (by (try simp only [List.map_toArray, List.map_cons, List.map_nil]); first | done | rfl | (simp only [List.length_drop, List.length_take]; rfl)) ?_; (with_reducible refine (soundservicelaw34_sane.calls k  true _ ?side1 A3.out).mono ?_); (case side1 => exact Glob.below HG.out (by repeat (first | (with_reducible first | exact HB.out | apply below_alloc | apply pw_below_drewN | apply below_drew1) | exact HB.out))); rintro e w12 ⟨rfl, hb⟩; refine ⟨_, rfl, ?_⟩; have n0_ := Aside0.mk (below_step (by repeat (first | (with_reducible first | exact HB.out | apply below_alloc | apply pw_below_drewN | apply below_drew1) | exact HB.out)) hb); clear HB; have HB := n0_; clear n0_; (try clear hb); (try clear hb2); (try clear hk); (try clear hi)) | ((with_reducible refine gate_callee (f := 14) rfl ?_); refine goesL_ (some 19) rfl rfl Tryd.func14 (by kernel_rfl) rfl #[.slice A0 l0.length c0] rfl (by (try simp only [List.map_toArray, List.map_cons, List.map_nil]); first | done | rfl | (simp only [List.length_drop, List.length_take]; rfl)) ?_; (with_reducible refine (soundservicelaw34_stream.calls k _ _ l0 t256 t257 _ ?side1 ?side2 A7.out).mono ?_); (case side1 => repeat (first | exact (Kd.C_below HR0.out HB.out) | (with_reducible refine Kd.C_alloc ?_ _) | (with_reducible refine Kd.C_drewN ?_ _) | (with_reducible refine Kd.C_drew ?_))); (case side2 => exact HC0.out); rintro e w13 ⟨v258, v260, rfl, ho0, ho1, hb⟩; refine ⟨_, rfl, ?_⟩; have n0_ := Aside0.mk (Kd.S_lower ho0 (below_size (by repeat (first | (with_reducible first | exact HB.out | apply below_alloc | apply pw_below_drewN | apply below_drew1) | exact HB.out)))); have n1_ := Aside0.mk (Kd.R_lower ho1 (below_size (by repeat (first | (with_reducible first | exact HB.out | apply below_alloc | apply pw_below_drewN | apply below_drew1) | exact HB.out)))); have n2_ := Aside0.mk (below_step (by repeat (first | (with_reducible first | exact HB.out | apply below_alloc | apply pw_below_drewN | apply below_drew1) | exact HB.out)) hb); clear HB; have HO259 := n0_; have HO261 := n1_; have HB := n2_; clear n0_ n1_ n2_; (try clear hb); (try clear hb2); (try clear hk); (try clear hi); (try clear ho0); (try clear ho1)) | ((with_reducible refine gate_dst (N := 22) rfl ?_); (try (refine gate_guard (by rfl) ?_; dsimp only)); refine Kd.R_lit (Kd.int .u8) _ 5 ?hg (N := 22) ?hd (xs := ([] : List Int)) (inner := []) (ok := fun _ => True) (okp := fun _ => True) ?hr ?hp (fun _ hk => hk) trivial (Below.refl _ _) (Nat.le_refl _) (by simp) ?_; (case hd => rfl); (case hg => rfl); (case hr => first | (go_simp; done) | (go_simp; rfl)); (case hp => exact (Reps.none _ _)); intro v263 w14 ho15 hb hg_ hnew_; clear hg_ hnew_; (first | rw [← Ny262.out] at ho15 | (simp only [Int.reduceToNat] at ho15; rw [← Ny262.out] at ho15)); have n0_ := Aside0.mk (Kd.S_elder' (by (with_reducible repeat (first | apply Kd.S_alloc | apply Kd.S_drewN | apply Kd.S_drew)); exact HO259.out) (Kd.R_base ho15) hb); have n1_ := Aside0.mk (Kd.R_elder' (by (with_reducible repeat (first | apply Kd.R_alloc | apply Kd.R_drewN | apply Kd.R_drew)); exact HO261.out) (Kd.R_base ho15) hb); have n2_ := Aside0.mk (Kd.R_lower (Kd.R_new' ho15 (Kd.R_lt (by (with_reducible repeat (first | apply Kd.R_alloc | apply Kd.R_drewN | apply Kd.R_drew)); exact HO261.out))) (below_size (by repeat (first | (with_reducible first | exact HB.out | apply below_alloc | apply pw_below_drewN | apply below_drew1) | exact HB.out)))); have n3_ := Aside0.mk (below_step (by repeat (first | (with_reducible first | exact HB.out | apply below_alloc | apply pw_below_drewN | apply below_drew1) | exact HB.out)) hb); clear HO259; clear HO261; clear HB; have HO259 := n0_; have HO261 := n1_; have HO264 := n2_; have HB := n3_; clear n0_ n1_ n2_ n3_; clear hb ho15) | ((with_reducible refine gate_builtin (b := .append) (xs := #[.tmp 22, .tmp 23]) rfl ?_); (try (refine gate_guard (by rfl) ?_; dsimp only)); at_builtin; refine Kd.R_append_rows (Kd.int .u8) (w0 := w) w.heap.size rfl (.tmp 22) (.tmp 23) 23 5 (.int .u8 0) 1 rfl Tryd.underlying23 info5 rfl (by decide) (by omega) v263 y262 l1 _ _ _ (fun k_ => some k_ ≠ (v260 : Value).ownBlock) (fun _ => False) rfl rfl ?aO ?aR (fun _ _ h => h) (fun _ h => h.elim) ?aF ?aB ?aS ?aL ?_; (case aR => repeat (first | exact (Kd.C_below HR1.out HB.out) | (with_reducible refine Kd.C_alloc ?_ _) | (with_reducible refine Kd.C_drewN ?_ _) | (with_reducible refine Kd.C_drew ?_))); (case aB => exact (by repeat (first | (with_reducible first | exact HB.out | apply below_alloc | apply pw_below_drewN | apply below_drew1) | exact HB.out))); (case aF => exact (fun k_ hk => Kd.fresh' (Kd.R_lt (by (with_reducible repeat (first | apply Kd.R_alloc | apply Kd.R_drewN | apply Kd.R_drew)); exact HO261.out)) k_ hk)); (case aO => exact (by (with_reducible repeat (first | apply Kd.R_alloc | apply Kd.R_drewN | apply Kd.R_drew)); exact Kd.R_mono HO264.out (fun _ hk => hk.2))); (case aS => exact (below_size (by repeat (first | (with_reducible first | exact HB.out | apply below_alloc | apply pw_below_drewN | apply below_drew1) | exact HB.out)))); (case aL => have := LMc8.out; omega); intro v266 w16 ho hb hg hat; rw [← Ny265.out] at ho; have n0_ := Aside0.mk (Kd.S_after (ok := (fun k_ => some k_ ≠ (v260 : Value).ownBlock)) (by (with_reducible repeat (first | apply Kd.S_alloc | apply Kd.S_drewN | apply Kd.S_drew)); exact HO259.out) hg hat); have n1_ := Aside0.mk (Kd.R_after (ok := (fun _ => True)) (by (with_reducible repeat (first | apply Kd.R_alloc | apply Kd.R_drewN | apply Kd.R_drew)); exact HO261.out) hg hat); have n2_ := Aside0.mk (hb); have n3_ := Aside0.mk (ho); clear HO259; clear HO261; clear HB; clear HO264; have HO259 := n0_; have HO261 := n1_; have HB := n2_; have HO267 := n3_; clear n0_ n1_ n2_ n3_; clear ho hb hg hat; obtain ⟨Ao18, co18, eo18⟩ := Kd.R_slice HO261.out; subst eo18) | ((with_reducible refine gate_builtin (b := .append) (xs := #[.tmp 24, .tmp 25]) rfl ?_); (try (refine gate_guard (by rfl) ?_; dsimp only)); at_builtin; refine Kd.R_append_rows (Kd.int .u8) (w0 := w) w.heap.size rfl (.tmp 24) (.tmp 25) 23 5 (.int .u8 0) 1 rfl Tryd.underlying23 info5 rfl (by decide) (by omega) v266 y265 t257 _ _ _ (fun k_ => some k_ ≠ (.slice Ao18 t257.length co18 : Value).ownBlock) (fun _ => False) rfl rfl ?aO ?aR (fun _ _ h => h) (fun _ h => h.elim) ?aF ?aB ?aS ?aL ?_; (case aR => repeat (first | exact (Kd.R_reads' HO261.out).2.2 | (with_reducible refine Kd.C_alloc ?_ _) | (with_reducible refine Kd.C_drewN ?_ _) | (with_reducible refine Kd.C_drew ?_))); (case aB => exact (by repeat (first | (with_reducible first | exact HB.out | apply below_alloc | apply pw_below_drewN | apply below_drew1) | exact HB.out))); (case aF => exact (fun k_ hk => Kd.fresh' (Kd.R_lt (by (with_reducible repeat (first | apply Kd.R_alloc | apply Kd.R_drewN | apply Kd.R_drew)); exact HO261.out)) k_ hk)); (case aO => exact (by (with_reducible repeat (first | apply Kd.R_alloc | apply Kd.R_drewN | apply Kd.R_drew)); exact HO267.out)); (case aS => exact (below_size (by repeat (first | (with_reducible first | exact HB.out | apply below_alloc | apply pw_below_drewN | apply below_drew1) | exact HB.out)))); (case aL => have := LMc9.out; omega); intro v269 w17 ho hb hg hat; rw [← Ny268.out] at ho; have n0_ := Aside0.mk (Kd.S_after (ok := (fun k_ => some k_ ≠ (.slice Ao18 t257.length co18 : Value).ownBlock)) (by (with_reducible repeat (first | apply Kd.S_alloc | apply Kd.S_drewN | apply Kd.S_drew)); exact HO259.out) hg hat); have n1_ := Aside0.mk (Kd.R_after (ok := (fun _ => True)) (by (with_reducible repeat (first | apply Kd.R_alloc | apply Kd.R_drewN | apply Kd.R_drew)); exact HO261.out) hg hat); have n2_ := Aside0.mk (hb); have n3_ := Aside0.mk (ho); clear HO259; clear HO261; clear HB; clear HO267; have HO259 := n0_; have HO261 := n1_; have HB := n2_; have HO270 := n3_; clear n0_ n1_ n2_ n3_; clear ho hb hg hat; obtain ⟨Ao19, co19, eo19⟩ := Kd.R_slice HO270.out; subst eo19) | ((with_reducible refine gate_callee (f := 15) rfl ?_); refine goesL_ (some 28) rfl rfl Tryd.func15 (by kernel_rfl) rfl #[.slice Ao19 y268.length co19] rfl (by (try simp only [List.map_toArray, List.map_cons, List.map_nil]); first | done | rfl | (simp only [List.length_drop, List.length_take]; rfl)) ?_; (with_reducible refine (framing_Resync.calls k _ _ y268 t271 _ ?side1 ?side2 A10.out).mono ?_); (case side1 => repeat (first | exact (Kd.R_reads' HO270.out).2.2 | (with_reducible refine Kd.C_alloc ?_ _) | (with_reducible refine Kd.C_drewN ?_ _) | (with_reducible refine Kd.C_drew ?_))); (case side2 => exact (Kd.R_reads' HO270.out).2.1); rintro e w20 ⟨rfl, hb⟩; refine ⟨_, rfl, ?_⟩; have n0_ := Aside0.mk (Kd.S_below (by (with_reducible repeat (first | apply Kd.S_alloc | apply Kd.S_drewN | apply Kd.S_drew)); exact HO259.out) hb); have n1_ := Aside0.mk (Kd.R_below (by (with_reducible repeat (first | apply Kd.R_alloc | apply Kd.R_drewN | apply Kd.R_drew)); exact HO261.out) hb); have n2_ := Aside0.mk (Kd.R_below (by (with_reducible repeat (first | apply Kd.R_alloc | apply Kd.R_drewN | apply Kd.R_drew)); exact HO270.out) hb); have n3_ := Aside0.mk (below_step (by repeat (first | (with_reducible first | exact HB.out | apply below_alloc | apply pw_below_drewN | apply below_drew1) | exact HB.out)) hb); clear HO259; clear HO261; clear HO270; clear HB; have HO259 := n0_; have HO261 := n1_; have HO270 := n2_; have HB := n3_; clear n0_ n1_ n2_ n3_; (try clear hb); (try clear hb2); (try clear hk); (try clear hi)))
            go_ret
            exact ⟨by first | rfl | (simp [errW_none, errW_some] <;> rfl) | (simp [*, errW_none, errW_some] <;> rfl), by repeat (first | (with_reducible first | exact HB.out | apply below_alloc | apply pw_below_drewN | apply below_drew1) | exact HB.out)⟩
          · rw [if_neg c11] at H
            have c11b0 : ((y268.length : Int) == 0) = false := beq_eq_false_iff_ne.mpr c11
            have c11b1 : ((y268.length : Int) != 0) = true := bne_iff_ne.mpr c11
            have c11b2 : ¬ (y268 = []) := fun h_ => c11 (by rw [h_]; rfl)
            have HC21 := Aside0.mk H
            clear H
            go_enter Tryd.func6, Tryd.ntmps6
            go_upto_region 10 with (first | ((with_reducible refine gate_callee (f := 7) rfl ?_); refine goesL_ (some 12) rfl rfl Tryd.func7 (by kernel_rfl) rfl #[] rfl (by (try simp only [List.map_toArray, List.map_cons, List.map_nil]); first | done | rfl | (simp only [List.length_drop, List.length_take]; rfl)) ?_; (with_reducible refine (soundservicelaw34_sane.calls k  true _ ?side1 A3.out).mono ?_); (case side1 => exact Glob.below HG.out (by repeat (first | (with_reducible first | exact HB.out | apply below_alloc | apply pw_below_drewN | apply below_drew1) | exact HB.out))); rintro e w22 ⟨rfl, hb⟩; refine ⟨_, rfl, ?_⟩; have n0_ := Aside0.mk (below_step (by repeat (first | (with_reducible first | exact HB.out | apply below_alloc | apply pw_below_drewN | apply below_drew1) | exact HB.out)) hb); clear HB; have HB := n0_; clear n0_; (try clear hb); (try clear hb2); (try clear hk); (try clear hi)) | ((with_reducible refine gate_callee (f := 14) rfl ?_); refine goesL_ (some 19) rfl rfl Tryd.func14 (by kernel_rfl) rfl #[.slice A0 l0.length c0] rfl (by (try simp only [List.map_toArray, List.map_cons, List.map_nil]); first | done | rfl | (simp only [List.length_drop, List.length_take]; rfl)) ?_; (with_reducible refine (soundservicelaw34_stream.calls k _ _ l0 t256 t257 _ ?side1 ?side2 A7.out).mono ?_); (case side1 => repeat (first | exact (Kd.C_below HR0.out HB.out) | (with_reducible refine Kd.C_alloc ?_ _) | (with_reducible refine Kd.C_drewN ?_ _) | (with_reducible refine Kd.C_drew ?_))); (case side2 => exact HC0.out); rintro e w23 ⟨v258, v260, rfl, ho0, ho1, hb⟩; refine ⟨_, rfl, ?_⟩; have n0_ := Aside0.mk (Kd.S_lower ho0 (below_size (by repeat (first | (with_reducible first | exact HB.out | apply below_alloc | apply pw_below_drewN | apply below_drew1) | exact HB.out)))); have n1_ := Aside0.mk (Kd.R_lower ho1 (below_size (by repeat (first | (with_reducible first | exact HB.out | apply below_alloc | apply pw_below_drewN | apply below_drew1) | exact HB.out)))); have n2_ := Aside0.mk (below_step (by repeat (first | (with_reducible first | exact HB.out | apply below_alloc | apply pw_below_drewN | apply below_drew1) | exact HB.out)) hb); clear HB; have HO259 := n0_; have HO261 := n1_; have HB := n2_; clear n0_ n1_ n2_; (try clear hb); (try clear hb2); (try clear hk); (try clear hi); (try clear ho0); (try clear ho1)) | ((with_reducible refine gate_dst (N := 22) rfl ?_); (try (refine gate_guard (by rfl) ?_; dsimp only)); refine Kd.R_lit (Kd.int .u8) _ 5 ?hg (N := 22) ?hd (xs := ([] : List Int)) (inner := []) (ok := fun _ => True) (okp := fun _ => True) ?hr ?hp (fun _ hk => hk) trivial (Below.refl _ _) (Nat.le_refl _) (by simp) ?_; (case hd => rfl); (case hg => rfl); (case hr => first | (go_simp; done) | (go_simp; rfl)); (case hp => exact (Reps.none _ _)); intro v263 w24 ho25 hb hg_ hnew_; clear hg_ hnew_; (first | rw [← Ny262.out] at ho25 | (simp only [Int.reduceToNat] at ho25; rw [← Ny262.out] at ho25)); have n0_ := Aside0.mk (Kd.S_elder' (by (with_reducible repeat (first | apply Kd.S_alloc | apply Kd.S_drewN | apply Kd.S_drew)); exact HO259.out) (Kd.R_base ho25) hb); have n1_ := Aside0.mk (Kd.R_elder' (by (with_reducible repeat (first | apply Kd.R_alloc | apply Kd.R_drewN | apply Kd.R_drew)); exact HO261.out) (Kd.R_base ho25) hb); have n2_ := Aside0.mk (Kd.R_lower (Kd.R_new' ho25 (Kd.R_lt (by (with_reducible repeat (first | apply Kd.R_alloc | apply Kd.R_drewN | apply Kd.R_drew)); exact HO261.out))) (below_size (by repeat (first | (with_reducible first | exact HB.out | apply below_alloc | apply pw_below_drewN | apply below_drew1) | exact HB.out)))); have n3_ := Aside0.mk (below_step (by repeat (first | (with_reducible first | exact HB.out | apply below_alloc | apply pw_below_drewN | apply below_drew1) | exact HB.out)) hb); clear HO259; clear HO261; clear HB; have HO259 := n0_; have HO261 := n1_; have HO264 := n2_; have HB := n3_; clear n0_ n1_ n2_ n3_; clear hb ho25) | ((with_reducible refine gate_builtin (b := .append) (xs := #[.tmp 22, .tmp 23]) rfl ?_); (try (refine gate_guard (by rfl) ?_; dsimp only)); at_builtin; refine Kd.R_append_rows (Kd.int .u8) (w0 := w) w.heap.size rfl (.tmp 22) (.tmp 23) 23 5 (.int .u8 0) 1 rfl Tryd.underlying23 info5 rfl (by decide) (by omega) v263 y262 l1 _ _ _ (fun k_ => some k_ ≠ (v260 : Value).ownBlock) (fun _ => False) rfl rfl ?aO ?aR (fun _ _ h => h) (fun _ h => h.elim) ?aF ?aB ?aS ?aL ?_; (case aR => repeat (first | exact (Kd.C_below HR1.out HB.out) | (with_reducible refine Kd.C_alloc ?_ _) | (with_reducible refine Kd.C_drewN ?_ _) | (with_reducible refine Kd.C_drew ?_))); (case aB => exact (by repeat (first | (with_reducible first | exact HB.out | apply below_alloc | apply pw_below_drewN | apply below_drew1) | exact HB.out))); (case aF => exact (fun k_ hk => Kd.fresh' (Kd.R_lt (by (with_reducible repeat (first | apply Kd.R_alloc | apply Kd.R_drewN | apply Kd.R_drew)); exact HO261.out)) k_ hk)); (case aO => exact (by (with_reducible repeat (first | apply Kd.R_alloc | apply Kd.R_drewN | apply Kd.R_drew)); exact Kd.R_mono HO264.out (fun _ hk => hk.2))); (case aS => exact (below_size (by repeat (first | (with_reducible first | exact HB.out | apply below_alloc | apply pw_below_drewN | apply below_drew1) | exact HB.out)))); (case aL => have := LMc8.out; omega); intro v266 w26 ho hb hg hat; rw [← Ny265.out] at ho; have n0_ := Aside0.mk (Kd.S_after (ok := (fun k_ => some k_ ≠ (v260 : Value).ownBlock)) (by (with_reducible repeat (first | apply Kd.S_alloc | apply Kd.S_drewN | apply Kd.S_drew)); exact HO259.out) hg hat); have n1_ := Aside0.mk (Kd.R_after (ok := (fun _ => True)) (by (with_reducible repeat (first | apply Kd.R_alloc | apply Kd.R_drewN | apply Kd.R_drew)); exact HO261.out) hg hat); have n2_ := Aside0.mk (hb); have n3_ := Aside0.mk (ho); clear HO259; clear HO261; clear HB; clear HO264; have HO259 := n0_; have HO261 := n1_; have HB := n2_; have HO267 := n3_; clear n0_ n1_ n2_ n3_; clear ho hb hg hat; obtain ⟨Ao28, co28, eo28⟩ := Kd.R_slice HO261.out; subst eo28) | ((with_reducible refine gate_builtin (b := .append) (xs := #[.tmp 24, .tmp 25]) rfl ?_); (try (refine gate_guard (by rfl) ?_; dsimp only)); at_builtin; refine Kd.R_append_rows (Kd.int .u8) (w0 := w) w.heap.size rfl (.tmp 24) (.tmp 25) 23 5 (.int .u8 0) 1 rfl Tryd.underlying23 info5 rfl (by decide) (by omega) v266 y265 t257 _ _ _ (fun k_ => some k_ ≠ (.slice Ao28 t257.length co28 : Value).ownBlock) (fun _ => False) rfl rfl ?aO ?aR (fun _ _ h => h) (fun _ h => h.elim) ?aF ?aB ?aS ?aL ?_; (case aR => repeat (first | exact (Kd.R_reads' HO261.out).2.2 | (with_reducible refine Kd.C_alloc ?_ _) | (with_reducible refine Kd.C_drewN ?_ _) | (with_reducible refine Kd.C_drew ?_))); (case aB => exact (by repeat (first | (with_reducible first | exact HB.out | apply below_alloc | apply pw_below_drewN | apply below_drew1) | exact HB.out))); (case aF => exact (fun k_ hk => Kd.fresh' (Kd.R_lt (by (with_reducible repeat (first | apply Kd.R_alloc | apply Kd.R_drewN | apply Kd.R_drew)); exact HO261.out)) k_ hk)); (case aO => exact (by (with_reducible repeat (first | apply Kd.R_alloc | apply Kd.R_drewN | apply Kd.R_drew)); exact HO267.out)); (case aS => exact (below_size (by repeat (first | (with_reducible first | exact HB.out | apply below_alloc | apply pw_below_drewN | apply below_drew1) | exact HB.out)))); (case aL => have := LMc9.out; omega); intro v269 w27 ho hb hg hat; rw [← Ny268.out] at ho; have n0_ := Aside0.mk (Kd.S_after (ok := (fun k_ => some k_ ≠ (.slice Ao28 t257.length co28 : Value).ownBlock)) (by (with_reducible repeat (first | apply Kd.S_alloc | apply Kd.S_drewN | apply Kd.S_drew)); exact HO259.out) hg hat); have n1_ := Aside0.mk (Kd.R_after (ok := (fun _ => True)) (by (with_reducible repeat (first | apply Kd.R_alloc | apply Kd.R_drewN | apply Kd.R_drew)); exact HO261.out) hg hat); have n2_ := Aside0.mk (hb); have n3_ := Aside0.mk (ho); clear HO259; clear HO261; clear HB; clear HO267; have HO259 := n0_; have HO261 := n1_; have HB := n2_; have HO270 := n3_; clear n0_ n1_ n2_ n3_; clear ho hb hg hat; obtain ⟨Ao29, co29, eo29⟩ := Kd.R_slice HO270.out; subst eo29) | ((with_reducible refine gate_callee (f := 15) rfl ?_); refine goesL_ (some 28) rfl rfl Tryd.func15 (by kernel_rfl) rfl #[.slice Ao29 y268.length co29] rfl (by (try simp only [List.map_toArray, List.map_cons, List.map_nil]); first | done | rfl | (simp only [List.length_drop, List.length_take]; rfl)) ?_; (with_reducible refine (framing_Resync.calls k _ _ y268 t271 _ ?side1 ?side2 A10.out).mono ?_); (case side1 => repeat (first | exact (Kd.R_reads' HO270.out).2.2 | (with_reducible refine Kd.C_alloc ?_ _) | (with_reducible refine Kd.C_drewN ?_ _) | (with_reducible refine Kd.C_drew ?_))); (case side2 => exact (Kd.R_reads' HO270.out).2.1); rintro e w30 ⟨rfl, hb⟩; refine ⟨_, rfl, ?_⟩; have n0_ := Aside0.mk (Kd.S_below (by (with_reducible repeat (first | apply Kd.S_alloc | apply Kd.S_drewN | apply Kd.S_drew)); exact HO259.out) hb); have n1_ := Aside0.mk (Kd.R_below (by (with_reducible repeat (first | apply Kd.R_alloc | apply Kd.R_drewN | apply Kd.R_drew)); exact HO261.out) hb); have n2_ := Aside0.mk (Kd.R_below (by (with_reducible repeat (first | apply Kd.R_alloc | apply Kd.R_drewN | apply Kd.R_drew)); exact HO270.out) hb); have n3_ := Aside0.mk (below_step (by repeat (first | (with_reducible first | exact HB.out | apply below_alloc | apply pw_below_drewN | apply below_drew1) | exact HB.out)) hb); clear HO259; clear HO261; clear HO270; clear HB; have HO259 := n0_; have HO261 := n1_; have HO270 := n2_; have HB := n3_; clear n0_ n1_ n2_ n3_; (try clear hb); (try clear hb2); (try clear hk); (try clear hi)))
            (try simp only [Act.put, List.setIfInBounds_toArray, List.set_cons_zero, List.set_cons_succ])
            go_cut [41] (fun v41 wc => ∃ (kq : Nat) (x41_20 : Bool), v41 = .bool x41_20 ∧ Aside0 (soundservicelaw34_FramingRecovers.j0 kq l1 t256 y268 t271 x41_20 = some r) ∧ Aside0 (kq ≤ k) ∧ Aside0 (Kd.S (Kd.slice 5 (Kd.int .u8)) 23 wc w.heap.size (fun k_ => some k_ ≠ ((.slice Ao29 y268.length co29) : Value).ownBlock) v258 t256) ∧ Aside0 (Kd.R (Kd.int .u8) 5 wc w.heap.size (fun _ => True) (.slice Ao29 y268.length co29) y268) ∧ Aside0 (Below w.heap.size w wc))
            case first =>
              have H := HC21.out
              clear HC21
              by_cases c31 : t271 < 1
              · rw [if_pos c31] at H
                have c31b0 : decide (t271 < 1) = true := decide_eq_true c31
                clear c31
                (first | rw [c31b0] | (simp only [i64_w, i32_w]; rw [c31b0]) | skip)
                have H' := Aside0.mk H
                clear H
                go_wp2
                go_meet
                case rel => exact ⟨_, (true), (by first | rfl | (simp; done) | (simp [*]; done) | (simp [neNil_, eqNil_]; done) | (simp [*, neNil_, eqNil_]; done)), H', ⟨by first | omega | exact Nat.le_refl _⟩, ⟨by (with_reducible repeat (first | apply Kd.S_alloc | apply Kd.S_drewN | apply Kd.S_drew)); exact Kd.S_mono HO259.out (fun _ hk => hk.2)⟩, ⟨by (with_reducible repeat (first | apply Kd.R_alloc | apply Kd.R_drewN | apply Kd.R_drew)); exact Kd.R_mono HO270.out (fun _ hk => trivial)⟩, ⟨by repeat (first | (with_reducible first | exact HB.out | apply below_alloc | apply pw_below_drewN | apply below_drew1) | exact HB.out)⟩⟩
              · rw [if_neg c31] at H
                have c31b0 : decide (t271 < 1) = false := decide_eq_false c31
                clear c31
                (first | rw [c31b0] | (simp only [i64_w, i32_w]; rw [c31b0]) | skip)
                have H' := Aside0.mk H
                clear H
                go_wp2
                go_meet
                case rel => exact ⟨_, (decide (t271 > (y268.length : Int))), (by first | rfl | (simp; done) | (simp [*]; done) | (simp [neNil_, eqNil_]; done) | (simp [*, neNil_, eqNil_]; done)), H', ⟨by first | omega | exact Nat.le_refl _⟩, ⟨by (with_reducible repeat (first | apply Kd.S_alloc | apply Kd.S_drewN | apply Kd.S_drew)); exact Kd.S_mono HO259.out (fun _ hk => hk.2)⟩, ⟨by (with_reducible repeat (first | apply Kd.R_alloc | apply Kd.R_drewN | apply Kd.R_drew)); exact Kd.R_mono HO270.out (fun _ hk => trivial)⟩, ⟨by repeat (first | (with_reducible first | exact HB.out | apply below_alloc | apply pw_below_drewN | apply below_drew1) | exact HB.out)⟩⟩
            case rest =>
              clear HC21
              try clear c1
              try clear p2
              try clear c3
              try clear c4
              try clear c5
              try clear c5b0
              try clear c5b1
              try clear c6
              try clear c7
              try clear c8
              try clear c9
              try clear c11
              try clear c11b0
              try clear c11b1
              try clear c11b2
              try clear c14
              try clear c15
              try clear c31
              try clear c31b0
              obtain ⟨kq, x41_20, rfl, HA, HJ20, HO_5, HO_7, HB⟩ := hcut
              cases kq with
              | zero => exact absurd HA.out (by simp [soundservicelaw34_FramingRecovers.j0])
              | succ kj20 =>
                have H := HA.out
                clear HA
                simp only [soundservicelaw34_FramingRecovers.j0] at H
                by_cases c32 : x41_20 = true
                · subst c32
                  have H1 : (some false) = some r := by rw [if_pos rfl] at H; exact H
                  clear H
                  have H := H1
                  clear H1
                  obtain rfl := Option.some.inj H
                  go_wp2
                  go_ret
                  exact ⟨by first | rfl | (simp [errW_none, errW_some] <;> rfl) | (simp [*, errW_none, errW_some] <;> rfl), by repeat (first | (with_reducible first | exact HB.out | apply below_alloc | apply pw_below_drewN | apply below_drew1) | exact HB.out)⟩
                · replace c32 := Bool.eq_false_iff.mpr c32
                  subst c32
                  have H1 : (if 0 ≤ t271 then (if t271 ≤ (y268.length : Int) then ((framing_Split.f kj20 (y268.drop (t271 : Int).toNat)).bind fun bt276 => (if t271 < (y268.length : Int) then (if (bt276.1.length : Int) ≥ 1 then (if bt276.2.1 ≥ 3 then (some (decide (bt276.2.1 ≤ (wrap64 ((y268.length : Int) - t271))))) else (some false)) else (some false)) else (if (l1.length : Int) = 0 then (some true) else (some ((t256.length : Int) == 0))))) else (none)) else (none)) = some r := by rw [if_neg (show ¬ (false = true) by decide)] at H; exact H
                  clear H
                  have H := H1
                  clear H1
                  by_cases c33 : 0 ≤ t271
                  · rw [if_pos c33] at H
                    have c33b0 := eq_true c33
                    have c33b1 : decide (0 ≤ t271) = true := decide_eq_true c33
                    clear c33
                    by_cases c34 : t271 ≤ (y268.length : Int)
                    · rw [if_pos c34] at H
                      have c34b0 := eq_true c34
                      have c34b1 : decide (t271 ≤ (y268.length : Int)) = true := decide_eq_true c34
                      clear c34
                      obtain ⟨y272, hy272⟩ : ∃ y_ : List Int, y_ = (y268.drop (t271 : Int).toNat) := ⟨_, rfl⟩
                      replace H : ((framing_Split.f kj20 y272).bind fun bt276 => (if t271 < (y268.length : Int) then (if (bt276.1.length : Int) ≥ 1 then (if bt276.2.1 ≥ 3 then (some (decide (bt276.2.1 ≤ (wrap64 ((y268.length : Int) - t271))))) else (some false)) else (some false)) else (if (l1.length : Int) = 0 then (some true) else (some ((t256.length : Int) == 0))))) = some r := by first | (rw [hy272]; with_reducible exact H) | (have H2_ := (Option.bind_some _ _).symm.trans H; rw [hy272]; with_reducible exact H2_) | (have H2_ := (Option.bind_some _ _).symm.trans H; with_reducible exact H2_) | with_reducible exact H | (rw [hy272]; exact H) | exact H
                      have Ny272 := Aside0.mk hy272
                      clear hy272
                      replace H := Option.bind_eq_some_iff.mp H
                      obtain ⟨⟨t276, t277, t278⟩, A350, H⟩ := H
                      replace H : (if t271 < (y268.length : Int) then (if (t276.length : Int) ≥ 1 then (if t277 ≥ 3 then (some (decide (t277 ≤ (wrap64 ((y268.length : Int) - t271))))) else (some false)) else (some false)) else (if (l1.length : Int) = 0 then (some true) else (some ((t256.length : Int) == 0)))) = some r := H
                      have A35 := Aside0.mk A350
                      clear A350
                      by_cases c36 : t271 < (y268.length : Int)
                      · rw [if_pos c36] at H
                        have c36b0 : decide (t271 < (y268.length : Int)) = true := decide_eq_true c36
                        clear c36
                        by_cases c37 : (t276.length : Int) ≥ 1
                        · rw [if_pos c37] at H
                          have c37b0 : decide (1 ≤ (t276.length : Int)) = true := decide_eq_true c37
                          have c37b1 : decide (1 ≤ t276.length) = true := decide_eq_true (by omega)
                          clear c37
                          by_cases c38 : t277 ≥ 3
                          · rw [if_pos c38] at H
                            have c38b0 : decide (3 ≤ t277) = true := decide_eq_true c38
                            clear c38
                            obtain rfl := Option.some.inj H
                            have q39 : (t271 : Int) ≤ ((y268.length : Int) : Int) := of_decide_eq_true (by first | (with_reducible assumption) | assumption)
                            obtain ⟨i039, hi039, _, hsz39, _⟩ := info_parts info5
                            have hroom39 : y268.length ≤ co29 := (Kd.R_reads' HO_7.out).2.1
                            have hC39 : Kd.C (Kd.int .u8) _ Ao29 y268.length y268 := (Kd.R_reads' HO_7.out).2.2
                            have q039 : (0 : Int) ≤ (t271 : Int) := of_decide_eq_true (by first | (with_reducible assumption) | assumption)
                            have hcut39 := cut_from (P := Tryd.prog) 23 5 .i64 Tryd.underlying23 hi039 1 hsz39 Ao29 y268.length co29 t271 q039 q39
                            have hr39 := Kd.C_drop (m := (t271 : Int).toNat) (c := co29) hC39 (by omega) hroom39
                            obtain ⟨A39, hA39⟩ : ∃ A1, A1 = (if co29 = (t271 : Int).toNat then Ao29 else (Ao29 : Option Addr).map (·.add ((t271 : Int).toNat * 1))) := ⟨_, rfl⟩
                            obtain ⟨c39, hc39⟩ : ∃ c1, c1 = co29 - (t271 : Int).toNat := ⟨_, rfl⟩
                            have hy39 : y272.length = y268.length - (t271 : Int).toNat := (by rw [Ny272.out, List.length_drop] <;> omega)
                            rw [show (y268).drop (t271 : Int).toNat = y272 from Ny272.out.symm] at hr39
                            replace hr39 : Kd.C (Kd.int .u8) _ A39 y272.length y272 := (by rw [hA39]; exact hr39)
                            rw [← hy39, ← hA39, ← hc39] at hcut39
                            have HR275 := Aside0.mk hr39
                            have HC275 := Aside0.mk (show y272.length ≤ c39 from by rw [hy39, hc39]; exact Nat.sub_le_sub_right hroom39 _)
                            clear hr39 hC39 hroom39 hi039 hsz39 hc39
                            have KY39 := Aside0.mk hy39
                            have KA39 := Aside0.mk hA39
                            clear hy39 hA39
                            have KL39 := Aside0.mk (show (t271 : Int).toNat ≤ y268.length from by omega)
                            replace q39 := eq_true q39
                            go_wp2_with (first | ((with_reducible refine gate_callee (f := 11) rfl ?_); refine goesL_ (some 46) rfl rfl Tryd.func11 (by kernel_rfl) rfl #[.slice A39 y272.length c39] rfl (by (try simp only [List.map_toArray, List.map_cons, List.map_nil]); first | done | rfl | (simp only [List.length_drop, List.length_take]; rfl)) ?_; (with_reducible refine (framing_Split.calls kj20 _ _ y272 t276 t277 t278 _ ?side1 ?side2 A35.out).mono ?_); (case side1 => repeat (first | exact (by repeat (first | (with_reducible exact HR275.out) | (with_reducible refine Kd.C_alloc ?_ _) | (with_reducible refine Kd.C_drewN ?_ _) | (with_reducible refine Kd.C_drew ?_) | exact HR275.out)) | (with_reducible refine Kd.C_alloc ?_ _) | (with_reducible refine Kd.C_drewN ?_ _) | (with_reducible refine Kd.C_drew ?_))); (case side2 => exact HC275.out); rintro e w40 ⟨v279, rfl, ho0, hb⟩; refine ⟨_, rfl, ?_⟩; have n0_ := Aside0.mk (Kd.S_elder' (by (with_reducible repeat (first | apply Kd.S_alloc | apply Kd.S_drewN | apply Kd.S_drew)); exact HO_5.out) (Kd.S_base ho0) hb); have n1_ := Aside0.mk (Kd.R_below (by (with_reducible repeat (first | apply Kd.R_alloc | apply Kd.R_drewN | apply Kd.R_drew)); exact HO_7.out) hb); have n2_ := Aside0.mk (Kd.S_lower (Kd.S_new' (Kd.S_new' ho0 (Kd.S_lt (by (with_reducible repeat (first | apply Kd.S_alloc | apply Kd.S_drewN | apply Kd.S_drew)); exact HO_5.out))) (Kd.R_lt (by (with_reducible repeat (first | apply Kd.R_alloc | apply Kd.R_drewN | apply Kd.R_drew)); exact HO_7.out))) (below_size (by repeat (first | (with_reducible first | exact HB.out | apply below_alloc | apply pw_below_drewN | apply below_drew1) | exact HB.out)))); have n3_ := Aside0.mk (Kd.C_below (by repeat (first | (with_reducible exact HR275.out) | (with_reducible refine Kd.C_alloc ?_ _) | (with_reducible refine Kd.C_drewN ?_ _) | (with_reducible refine Kd.C_drew ?_) | exact HR275.out)) hb); have n4_ := Aside0.mk (below_step (by repeat (first | (with_reducible first | exact HB.out | apply below_alloc | apply pw_below_drewN | apply below_drew1) | exact HB.out)) hb); clear HO_5; clear HO_7; clear HR275; clear HB; have HO_5 := n0_; have HO_7 := n1_; have HO280 := n2_; have HR275 := n3_; have HB := n4_; clear n0_ n1_ n2_ n3_ n4_; (try clear hb); (try clear hb2); (try clear hk); (try clear hi); (try clear ho0); obtain ⟨Ao41, co41, eo41⟩ := Kd.S_slice HO280.out; subst eo41))
                            go_ret
                            exact ⟨by first | rfl | (simp [errW_none, errW_some] <;> rfl) | (simp [*, errW_none, errW_some] <;> rfl), by repeat (first | (with_reducible first | exact HB.out | apply below_alloc | apply pw_below_drewN | apply below_drew1) | exact HB.out)⟩
                          · rw [if_neg c38] at H
                            have c38b0 : decide (3 ≤ t277) = false := decide_eq_false c38
                            clear c38
                            obtain rfl := Option.some.inj H
                            have q42 : (t271 : Int) ≤ ((y268.length : Int) : Int) := of_decide_eq_true (by first | (with_reducible assumption) | assumption)
                            obtain ⟨i042, hi042, _, hsz42, _⟩ := info_parts info5
                            have hroom42 : y268.length ≤ co29 := (Kd.R_reads' HO_7.out).2.1
                            have hC42 : Kd.C (Kd.int .u8) _ Ao29 y268.length y268 := (Kd.R_reads' HO_7.out).2.2
                            have q042 : (0 : Int) ≤ (t271 : Int) := of_decide_eq_true (by first | (with_reducible assumption) | assumption)
                            have hcut42 := cut_from (P := Tryd.prog) 23 5 .i64 Tryd.underlying23 hi042 1 hsz42 Ao29 y268.length co29 t271 q042 q42
                            have hr42 := Kd.C_drop (m := (t271 : Int).toNat) (c := co29) hC42 (by omega) hroom42
                            obtain ⟨A42, hA42⟩ : ∃ A1, A1 = (if co29 = (t271 : Int).toNat then Ao29 else (Ao29 : Option Addr).map (·.add ((t271 : Int).toNat * 1))) := ⟨_, rfl⟩
                            obtain ⟨c42, hc42⟩ : ∃ c1, c1 = co29 - (t271 : Int).toNat := ⟨_, rfl⟩
                            have hy42 : y272.length = y268.length - (t271 : Int).toNat := (by rw [Ny272.out, List.length_drop] <;> omega)
                            rw [show (y268).drop (t271 : Int).toNat = y272 from Ny272.out.symm] at hr42
                            replace hr42 : Kd.C (Kd.int .u8) _ A42 y272.length y272 := (by rw [hA42]; exact hr42)
                            rw [← hy42, ← hA42, ← hc42] at hcut42
                            have HR275 := Aside0.mk hr42
                            have HC275 := Aside0.mk (show y272.length ≤ c42 from by rw [hy42, hc42]; exact Nat.sub_le_sub_right hroom42 _)
                            clear hr42 hC42 hroom42 hi042 hsz42 hc42
                            have KY42 := Aside0.mk hy42
                            have KA42 := Aside0.mk hA42
                            clear hy42 hA42
                            have KL42 := Aside0.mk (show (t271 : Int).toNat ≤ y268.length from by omega)
                            replace q42 := eq_true q42
                            go_wp2_with (first | ((with_reducible refine gate_callee (f := 11) rfl ?_); refine goesL_ (some 46) rfl rfl Tryd.func11 (by kernel_rfl) rfl #[.slice A42 y272.length c42] rfl (by (try simp only [List.map_toArray, List.map_cons, List.map_nil]); first | done | rfl | (simp only [List.length_drop, List.length_take]; rfl)) ?_; (with_reducible refine (framing_Split.calls kj20 _ _ y272 t276 t277 t278 _ ?side1 ?side2 A35.out).mono ?_); (case side1 => repeat (first | exact (by repeat (first | (with_reducible exact HR275.out) | (with_reducible refine Kd.C_alloc ?_ _) | (with_reducible refine Kd.C_drewN ?_ _) | (with_reducible refine Kd.C_drew ?_) | exact HR275.out)) | (with_reducible refine Kd.C_alloc ?_ _) | (with_reducible refine Kd.C_drewN ?_ _) | (with_reducible refine Kd.C_drew ?_))); (case side2 => exact HC275.out); rintro e w43 ⟨v279, rfl, ho0, hb⟩; refine ⟨_, rfl, ?_⟩; have n0_ := Aside0.mk (Kd.S_elder' (by (with_reducible repeat (first | apply Kd.S_alloc | apply Kd.S_drewN | apply Kd.S_drew)); exact HO_5.out) (Kd.S_base ho0) hb); have n1_ := Aside0.mk (Kd.R_below (by (with_reducible repeat (first | apply Kd.R_alloc | apply Kd.R_drewN | apply Kd.R_drew)); exact HO_7.out) hb); have n2_ := Aside0.mk (Kd.S_lower (Kd.S_new' (Kd.S_new' ho0 (Kd.S_lt (by (with_reducible repeat (first | apply Kd.S_alloc | apply Kd.S_drewN | apply Kd.S_drew)); exact HO_5.out))) (Kd.R_lt (by (with_reducible repeat (first | apply Kd.R_alloc | apply Kd.R_drewN | apply Kd.R_drew)); exact HO_7.out))) (below_size (by repeat (first | (with_reducible first | exact HB.out | apply below_alloc | apply pw_below_drewN | apply below_drew1) | exact HB.out)))); have n3_ := Aside0.mk (Kd.C_below (by repeat (first | (with_reducible exact HR275.out) | (with_reducible refine Kd.C_alloc ?_ _) | (with_reducible refine Kd.C_drewN ?_ _) | (with_reducible refine Kd.C_drew ?_) | exact HR275.out)) hb); have n4_ := Aside0.mk (below_step (by repeat (first | (with_reducible first | exact HB.out | apply below_alloc | apply pw_below_drewN | apply below_drew1) | exact HB.out)) hb); clear HO_5; clear HO_7; clear HR275; clear HB; have HO_5 := n0_; have HO_7 := n1_; have HO280 := n2_; have HR275 := n3_; have HB := n4_; clear n0_ n1_ n2_ n3_ n4_; (try clear hb); (try clear hb2); (try clear hk); (try clear hi); (try clear ho0); obtain ⟨Ao44, co44, eo44⟩ := Kd.S_slice HO280.out; subst eo44))
                            go_ret
                            exact ⟨by first | rfl | (simp [errW_none, errW_some] <;> rfl) | (simp [*, errW_none, errW_some] <;> rfl), by repeat (first | (with_reducible first | exact HB.out | apply below_alloc | apply pw_below_drewN | apply below_drew1) | exact HB.out)⟩
                        · rw [if_neg c37] at H
                          have c37b0 : decide (1 ≤ (t276.length : Int)) = false := decide_eq_false c37
                          have c37b1 : decide (1 ≤ t276.length) = false := decide_eq_false (by omega)
                          clear c37
                          obtain rfl := Option.some.inj H
                          have q45 : (t271 : Int) ≤ ((y268.length : Int) : Int) := of_decide_eq_true (by first | (with_reducible assumption) | assumption)
                          obtain ⟨i045, hi045, _, hsz45, _⟩ := info_parts info5
                          have hroom45 : y268.length ≤ co29 := (Kd.R_reads' HO_7.out).2.1
                          have hC45 : Kd.C (Kd.int .u8) _ Ao29 y268.length y268 := (Kd.R_reads' HO_7.out).2.2
                          have q045 : (0 : Int) ≤ (t271 : Int) := of_decide_eq_true (by first | (with_reducible assumption) | assumption)
                          have hcut45 := cut_from (P := Tryd.prog) 23 5 .i64 Tryd.underlying23 hi045 1 hsz45 Ao29 y268.length co29 t271 q045 q45
                          have hr45 := Kd.C_drop (m := (t271 : Int).toNat) (c := co29) hC45 (by omega) hroom45
                          obtain ⟨A45, hA45⟩ : ∃ A1, A1 = (if co29 = (t271 : Int).toNat then Ao29 else (Ao29 : Option Addr).map (·.add ((t271 : Int).toNat * 1))) := ⟨_, rfl⟩
                          obtain ⟨c45, hc45⟩ : ∃ c1, c1 = co29 - (t271 : Int).toNat := ⟨_, rfl⟩
                          have hy45 : y272.length = y268.length - (t271 : Int).toNat := (by rw [Ny272.out, List.length_drop] <;> omega)
                          rw [show (y268).drop (t271 : Int).toNat = y272 from Ny272.out.symm] at hr45
                          replace hr45 : Kd.C (Kd.int .u8) _ A45 y272.length y272 := (by rw [hA45]; exact hr45)
                          rw [← hy45, ← hA45, ← hc45] at hcut45
                          have HR275 := Aside0.mk hr45
                          have HC275 := Aside0.mk (show y272.length ≤ c45 from by rw [hy45, hc45]; exact Nat.sub_le_sub_right hroom45 _)
                          clear hr45 hC45 hroom45 hi045 hsz45 hc45
                          have KY45 := Aside0.mk hy45
                          have KA45 := Aside0.mk hA45
                          clear hy45 hA45
                          have KL45 := Aside0.mk (show (t271 : Int).toNat ≤ y268.length from by omega)
                          replace q45 := eq_true q45
                          go_wp2_with (first | ((with_reducible refine gate_callee (f := 11) rfl ?_); refine goesL_ (some 46) rfl rfl Tryd.func11 (by kernel_rfl) rfl #[.slice A45 y272.length c45] rfl (by (try simp only [List.map_toArray, List.map_cons, List.map_nil]); first | done | rfl | (simp only [List.length_drop, List.length_take]; rfl)) ?_; (with_reducible refine (framing_Split.calls kj20 _ _ y272 t276 t277 t278 _ ?side1 ?side2 A35.out).mono ?_); (case side1 => repeat (first | exact (by repeat (first | (with_reducible exact HR275.out) | (with_reducible refine Kd.C_alloc ?_ _) | (with_reducible refine Kd.C_drewN ?_ _) | (with_reducible refine Kd.C_drew ?_) | exact HR275.out)) | (with_reducible refine Kd.C_alloc ?_ _) | (with_reducible refine Kd.C_drewN ?_ _) | (with_reducible refine Kd.C_drew ?_))); (case side2 => exact HC275.out); rintro e w46 ⟨v279, rfl, ho0, hb⟩; refine ⟨_, rfl, ?_⟩; have n0_ := Aside0.mk (Kd.S_elder' (by (with_reducible repeat (first | apply Kd.S_alloc | apply Kd.S_drewN | apply Kd.S_drew)); exact HO_5.out) (Kd.S_base ho0) hb); have n1_ := Aside0.mk (Kd.R_below (by (with_reducible repeat (first | apply Kd.R_alloc | apply Kd.R_drewN | apply Kd.R_drew)); exact HO_7.out) hb); have n2_ := Aside0.mk (Kd.S_lower (Kd.S_new' (Kd.S_new' ho0 (Kd.S_lt (by (with_reducible repeat (first | apply Kd.S_alloc | apply Kd.S_drewN | apply Kd.S_drew)); exact HO_5.out))) (Kd.R_lt (by (with_reducible repeat (first | apply Kd.R_alloc | apply Kd.R_drewN | apply Kd.R_drew)); exact HO_7.out))) (below_size (by repeat (first | (with_reducible first | exact HB.out | apply below_alloc | apply pw_below_drewN | apply below_drew1) | exact HB.out)))); have n3_ := Aside0.mk (Kd.C_below (by repeat (first | (with_reducible exact HR275.out) | (with_reducible refine Kd.C_alloc ?_ _) | (with_reducible refine Kd.C_drewN ?_ _) | (with_reducible refine Kd.C_drew ?_) | exact HR275.out)) hb); have n4_ := Aside0.mk (below_step (by repeat (first | (with_reducible first | exact HB.out | apply below_alloc | apply pw_below_drewN | apply below_drew1) | exact HB.out)) hb); clear HO_5; clear HO_7; clear HR275; clear HB; have HO_5 := n0_; have HO_7 := n1_; have HO280 := n2_; have HR275 := n3_; have HB := n4_; clear n0_ n1_ n2_ n3_ n4_; (try clear hb); (try clear hb2); (try clear hk); (try clear hi); (try clear ho0); obtain ⟨Ao47, co47, eo47⟩ := Kd.S_slice HO280.out; subst eo47))
                          go_ret
                          exact ⟨by first | rfl | (simp [errW_none, errW_some] <;> rfl) | (simp [*, errW_none, errW_some] <;> rfl), by repeat (first | (with_reducible first | exact HB.out | apply below_alloc | apply pw_below_drewN | apply below_drew1) | exact HB.out)⟩
                      · rw [if_neg c36] at H
                        have c36b0 : decide (t271 < (y268.length : Int)) = false := decide_eq_false c36
                        clear c36
                        by_cases c48 : (l1.length : Int) = 0
                        · rw [if_pos c48] at H
                          have c48b0 : ((l1.length : Int) == 0) = true := beq_iff_eq.mpr c48
                          have c48b1 : ((l1.length : Int) != 0) = false := bne_eq_false_iff_eq.mpr c48
                          clear c48
                          obtain rfl := Option.some.inj H
                          have q49 : (t271 : Int) ≤ ((y268.length : Int) : Int) := of_decide_eq_true (by first | (with_reducible assumption) | assumption)
                          obtain ⟨i049, hi049, _, hsz49, _⟩ := info_parts info5
                          have hroom49 : y268.length ≤ co29 := (Kd.R_reads' HO_7.out).2.1
                          have hC49 : Kd.C (Kd.int .u8) _ Ao29 y268.length y268 := (Kd.R_reads' HO_7.out).2.2
                          have q049 : (0 : Int) ≤ (t271 : Int) := of_decide_eq_true (by first | (with_reducible assumption) | assumption)
                          have hcut49 := cut_from (P := Tryd.prog) 23 5 .i64 Tryd.underlying23 hi049 1 hsz49 Ao29 y268.length co29 t271 q049 q49
                          have hr49 := Kd.C_drop (m := (t271 : Int).toNat) (c := co29) hC49 (by omega) hroom49
                          obtain ⟨A49, hA49⟩ : ∃ A1, A1 = (if co29 = (t271 : Int).toNat then Ao29 else (Ao29 : Option Addr).map (·.add ((t271 : Int).toNat * 1))) := ⟨_, rfl⟩
                          obtain ⟨c49, hc49⟩ : ∃ c1, c1 = co29 - (t271 : Int).toNat := ⟨_, rfl⟩
                          have hy49 : y272.length = y268.length - (t271 : Int).toNat := (by rw [Ny272.out, List.length_drop] <;> omega)
                          rw [show (y268).drop (t271 : Int).toNat = y272 from Ny272.out.symm] at hr49
                          replace hr49 : Kd.C (Kd.int .u8) _ A49 y272.length y272 := (by rw [hA49]; exact hr49)
                          rw [← hy49, ← hA49, ← hc49] at hcut49
                          have HR275 := Aside0.mk hr49
                          have HC275 := Aside0.mk (show y272.length ≤ c49 from by rw [hy49, hc49]; exact Nat.sub_le_sub_right hroom49 _)
                          clear hr49 hC49 hroom49 hi049 hsz49 hc49
                          have KY49 := Aside0.mk hy49
                          have KA49 := Aside0.mk hA49
                          clear hy49 hA49
                          have KL49 := Aside0.mk (show (t271 : Int).toNat ≤ y268.length from by omega)
                          replace q49 := eq_true q49
                          go_wp2_with (first | ((with_reducible refine gate_callee (f := 11) rfl ?_); refine goesL_ (some 46) rfl rfl Tryd.func11 (by kernel_rfl) rfl #[.slice A49 y272.length c49] rfl (by (try simp only [List.map_toArray, List.map_cons, List.map_nil]); first | done | rfl | (simp only [List.length_drop, List.length_take]; rfl)) ?_; (with_reducible refine (framing_Split.calls kj20 _ _ y272 t276 t277 t278 _ ?side1 ?side2 A35.out).mono ?_); (case side1 => repeat (first | exact (by repeat (first | (with_reducible exact HR275.out) | (with_reducible refine Kd.C_alloc ?_ _) | (with_reducible refine Kd.C_drewN ?_ _) | (with_reducible refine Kd.C_drew ?_) | exact HR275.out)) | (with_reducible refine Kd.C_alloc ?_ _) | (with_reducible refine Kd.C_drewN ?_ _) | (with_reducible refine Kd.C_drew ?_))); (case side2 => exact HC275.out); rintro e w50 ⟨v279, rfl, ho0, hb⟩; refine ⟨_, rfl, ?_⟩; have n0_ := Aside0.mk (Kd.S_elder' (by (with_reducible repeat (first | apply Kd.S_alloc | apply Kd.S_drewN | apply Kd.S_drew)); exact HO_5.out) (Kd.S_base ho0) hb); have n1_ := Aside0.mk (Kd.R_below (by (with_reducible repeat (first | apply Kd.R_alloc | apply Kd.R_drewN | apply Kd.R_drew)); exact HO_7.out) hb); have n2_ := Aside0.mk (Kd.S_lower (Kd.S_new' (Kd.S_new' ho0 (Kd.S_lt (by (with_reducible repeat (first | apply Kd.S_alloc | apply Kd.S_drewN | apply Kd.S_drew)); exact HO_5.out))) (Kd.R_lt (by (with_reducible repeat (first | apply Kd.R_alloc | apply Kd.R_drewN | apply Kd.R_drew)); exact HO_7.out))) (below_size (by repeat (first | (with_reducible first | exact HB.out | apply below_alloc | apply pw_below_drewN | apply below_drew1) | exact HB.out)))); have n3_ := Aside0.mk (Kd.C_below (by repeat (first | (with_reducible exact HR275.out) | (with_reducible refine Kd.C_alloc ?_ _) | (with_reducible refine Kd.C_drewN ?_ _) | (with_reducible refine Kd.C_drew ?_) | exact HR275.out)) hb); have n4_ := Aside0.mk (below_step (by repeat (first | (with_reducible first | exact HB.out | apply below_alloc | apply pw_below_drewN | apply below_drew1) | exact HB.out)) hb); clear HO_5; clear HO_7; clear HR275; clear HB; have HO_5 := n0_; have HO_7 := n1_; have HO280 := n2_; have HR275 := n3_; have HB := n4_; clear n0_ n1_ n2_ n3_ n4_; (try clear hb); (try clear hb2); (try clear hk); (try clear hi); (try clear ho0)))
                          go_ret
                          exact ⟨by first | rfl | (simp [errW_none, errW_some] <;> rfl) | (simp [*, errW_none, errW_some] <;> rfl), by repeat (first | (with_reducible first | exact HB.out | apply below_alloc | apply pw_below_drewN | apply below_drew1) | exact HB.out)⟩
                        · rw [if_neg c48] at H
                          have c48b0 : ((l1.length : Int) == 0) = false := beq_eq_false_iff_ne.mpr c48
                          have c48b1 : ((l1.length : Int) != 0) = true := bne_iff_ne.mpr c48
                          have c48b2 : ¬ (l1 = []) := fun h_ => c48 (by rw [h_]; rfl)
                          obtain rfl := Option.some.inj H
                          have q51 : (t271 : Int) ≤ ((y268.length : Int) : Int) := of_decide_eq_true (by first | (with_reducible assumption) | assumption)
                          obtain ⟨i051, hi051, _, hsz51, _⟩ := info_parts info5
                          have hroom51 : y268.length ≤ co29 := (Kd.R_reads' HO_7.out).2.1
                          have hC51 : Kd.C (Kd.int .u8) _ Ao29 y268.length y268 := (Kd.R_reads' HO_7.out).2.2
                          have q051 : (0 : Int) ≤ (t271 : Int) := of_decide_eq_true (by first | (with_reducible assumption) | assumption)
                          have hcut51 := cut_from (P := Tryd.prog) 23 5 .i64 Tryd.underlying23 hi051 1 hsz51 Ao29 y268.length co29 t271 q051 q51
                          have hr51 := Kd.C_drop (m := (t271 : Int).toNat) (c := co29) hC51 (by omega) hroom51
                          obtain ⟨A51, hA51⟩ : ∃ A1, A1 = (if co29 = (t271 : Int).toNat then Ao29 else (Ao29 : Option Addr).map (·.add ((t271 : Int).toNat * 1))) := ⟨_, rfl⟩
                          obtain ⟨c51, hc51⟩ : ∃ c1, c1 = co29 - (t271 : Int).toNat := ⟨_, rfl⟩
                          have hy51 : y272.length = y268.length - (t271 : Int).toNat := (by rw [Ny272.out, List.length_drop] <;> omega)
                          rw [show (y268).drop (t271 : Int).toNat = y272 from Ny272.out.symm] at hr51
                          replace hr51 : Kd.C (Kd.int .u8) _ A51 y272.length y272 := (by rw [hA51]; exact hr51)
                          rw [← hy51, ← hA51, ← hc51] at hcut51
                          have HR275 := Aside0.mk hr51
                          have HC275 := Aside0.mk (show y272.length ≤ c51 from by rw [hy51, hc51]; exact Nat.sub_le_sub_right hroom51 _)
                          clear hr51 hC51 hroom51 hi051 hsz51 hc51
                          have KY51 := Aside0.mk hy51
                          have KA51 := Aside0.mk hA51
                          clear hy51 hA51
                          have KL51 := Aside0.mk (show (t271 : Int).toNat ≤ y268.length from by omega)
                          replace q51 := eq_true q51
                          go_wp2_with (first | ((with_reducible refine gate_callee (f := 11) rfl ?_); refine goesL_ (some 46) rfl rfl Tryd.func11 (by kernel_rfl) rfl #[.slice A51 y272.length c51] rfl (by (try simp only [List.map_toArray, List.map_cons, List.map_nil]); first | done | rfl | (simp only [List.length_drop, List.length_take]; rfl)) ?_; (with_reducible refine (framing_Split.calls kj20 _ _ y272 t276 t277 t278 _ ?side1 ?side2 A35.out).mono ?_); (case side1 => repeat (first | exact (by repeat (first | (with_reducible exact HR275.out) | (with_reducible refine Kd.C_alloc ?_ _) | (with_reducible refine Kd.C_drewN ?_ _) | (with_reducible refine Kd.C_drew ?_) | exact HR275.out)) | (with_reducible refine Kd.C_alloc ?_ _) | (with_reducible refine Kd.C_drewN ?_ _) | (with_reducible refine Kd.C_drew ?_))); (case side2 => exact HC275.out); rintro e w52 ⟨v279, rfl, ho0, hb⟩; refine ⟨_, rfl, ?_⟩; have n0_ := Aside0.mk (Kd.S_elder' (by (with_reducible repeat (first | apply Kd.S_alloc | apply Kd.S_drewN | apply Kd.S_drew)); exact HO_5.out) (Kd.S_base ho0) hb); have n1_ := Aside0.mk (Kd.R_below (by (with_reducible repeat (first | apply Kd.R_alloc | apply Kd.R_drewN | apply Kd.R_drew)); exact HO_7.out) hb); have n2_ := Aside0.mk (Kd.S_lower (Kd.S_new' (Kd.S_new' ho0 (Kd.S_lt (by (with_reducible repeat (first | apply Kd.S_alloc | apply Kd.S_drewN | apply Kd.S_drew)); exact HO_5.out))) (Kd.R_lt (by (with_reducible repeat (first | apply Kd.R_alloc | apply Kd.R_drewN | apply Kd.R_drew)); exact HO_7.out))) (below_size (by repeat (first | (with_reducible first | exact HB.out | apply below_alloc | apply pw_below_drewN | apply below_drew1) | exact HB.out)))); have n3_ := Aside0.mk (Kd.C_below (by repeat (first | (with_reducible exact HR275.out) | (with_reducible refine Kd.C_alloc ?_ _) | (with_reducible refine Kd.C_drewN ?_ _) | (with_reducible refine Kd.C_drew ?_) | exact HR275.out)) hb); have n4_ := Aside0.mk (below_step (by repeat (first | (with_reducible first | exact HB.out | apply below_alloc | apply pw_below_drewN | apply below_drew1) | exact HB.out)) hb); clear HO_5; clear HO_7; clear HR275; clear HB; have HO_5 := n0_; have HO_7 := n1_; have HO280 := n2_; have HR275 := n3_; have HB := n4_; clear n0_ n1_ n2_ n3_ n4_; (try clear hb); (try clear hb2); (try clear hk); (try clear hi); (try clear ho0); obtain ⟨Ao53, co53, eo53⟩ := Kd.S_slice HO_5.out; subst eo53))
                          go_ret
                          exact ⟨by first | rfl | (simp [errW_none, errW_some] <;> rfl) | (simp [*, errW_none, errW_some] <;> rfl), by repeat (first | (with_reducible first | exact HB.out | apply below_alloc | apply pw_below_drewN | apply below_drew1) | exact HB.out)⟩
                    · rw [if_neg c34] at H
                      exact absurd H (by simp)
                  · rw [if_neg c33] at H
                    exact absurd H (by simp)
        · rw [if_neg c9] at H
          exact absurd H (by simp)
      · rw [if_neg c8] at H
        exact absurd H (by simp)
  · replace c4 := Bool.eq_false_iff.mpr c4
    subst c4
    have H1 : (some false) = some r := by rw [if_neg (show ¬ (false = true) by decide)] at H; exact H
    clear H
    have H := H1
    clear H1
    obtain rfl := Option.some.inj H
    go_enter Tryd.func6, Tryd.ntmps6
    go_wp2_with (first | ((with_reducible refine gate_callee (f := 7) rfl ?_); refine goesL_ (some 12) rfl rfl Tryd.func7 (by kernel_rfl) rfl #[] rfl (by (try simp only [List.map_toArray, List.map_cons, List.map_nil]); first | done | rfl | (simp only [List.length_drop, List.length_take]; rfl)) ?_; (with_reducible refine (soundservicelaw34_sane.calls k  false _ ?side1 A3.out).mono ?_); (case side1 => exact Glob.below HG.out (by repeat (first | (with_reducible first | exact HB.out | apply below_alloc | apply pw_below_drewN | apply below_drew1) | exact HB.out))); rintro e w54 ⟨rfl, hb⟩; refine ⟨_, rfl, ?_⟩; have n0_ := Aside0.mk (below_step (by repeat (first | (with_reducible first | exact HB.out | apply below_alloc | apply pw_below_drewN | apply below_drew1) | exact HB.out)) hb); clear HB; have HB := n0_; clear n0_; (try clear hb); (try clear hb2); (try clear hk); (try clear hi)))
    go_ret
    exact ⟨by first | rfl | (simp [errW_none, errW_some] <;> rfl) | (simp [*, errW_none, errW_some] <;> rfl), by repeat (first | (with_reducible first | exact HB.out | apply below_alloc | apply pw_below_drewN | apply below_drew1) | exact HB.out)⟩

/-- THE ONE PURE STATEMENT of soundservicelaw34_FramingRecovers: yours. -/
def soundservicelaw34_FramingRecovers.Pure : Prop := ∀ (l0 : List Int) (l1 : List Int), l0.length ≤ maxLen → l0.length * 8 ≤ 140737488351232 → (∀ x ∈ l0, (Lit.int .i64 x).wf = true) → l1.length ≤ maxLen → l1.length * 1 ≤ 140737488351232 → (∀ x ∈ l1, (Lit.int .u8 x).wf = true) → ∃ k, soundservicelaw34_FramingRecovers.f k l0 l1 = some true
theorem soundservicelaw34_FramingRecovers.walk (P : soundservicelaw34_FramingRecovers.Pure) (a0 : Option Addr) (len0 cap0 : Nat) (z0 : List Int) (a1 : Option Addr) (len1 cap1 : Nat) (z1 : List Int) (w : World) (hG : Glob w) (w0 : (a0 = none ∧ len0 = 0 ∧ cap0 = 0 ∧ z0 = []) ∨ ∃ x, a0 = some x ∧ len0 ≤ cap0 ∧ cap0 ≤ maxLen ∧ z0.length = cap0 ∧ (∀ i, i < z0.length → w.cell? (x.add i) = some (.int .i64 (z0.getD i 0))) ∧ ∀ n ∈ z0, (Lit.int .i64 n).wf = true) (y0 : len0 * 8 ≤ 140737488351232) (w1 : (a1 = none ∧ len1 = 0 ∧ cap1 = 0 ∧ z1 = []) ∨ ∃ x, a1 = some x ∧ len1 ≤ cap1 ∧ cap1 ≤ maxLen ∧ z1.length = cap1 ∧ (∀ i, i < z1.length → w.cell? (x.add i) = some (.int .u8 (z1.getD i 0))) ∧ ∀ n ∈ z1, (Lit.int .u8 n).wf = true) (y1 : len1 * 1 ≤ 140737488351232) :
    Calls Tryd.prog 6 #[.slice a0 len0 cap0, .slice a1 len1 cap1] w fun e w' => e = .returned (.bool true) ∧ Below w.heap.size w w' := by
  obtain ⟨l0, rfl, hr0, hm0, hw0, hc0⟩ := ReadsInt.ofRowC w0
  obtain ⟨l1, rfl, hr1, hm1, hw1, hc1⟩ := ReadsInt.ofRowC w1
  obtain ⟨k, h⟩ := P l0 l1 hm0 y0 hw0 hm1 y1 hw1
  refine (soundservicelaw34_FramingRecovers.calls k _ _ l0 _ _ l1 true w hG (Kd.C_of_reads (d := (0 : Int)) (h1 := fun _ => rfl) hr0) hc0 (Kd.C_of_reads (d := (0 : Int)) (h1 := fun _ => rfl) hr1) hc1 h).mono ?_
  rintro e w' ⟨rfl, hd⟩
  exact ⟨rfl, hd⟩

end Go.Proofs.YteiboagmpgffaaaDoor.P
