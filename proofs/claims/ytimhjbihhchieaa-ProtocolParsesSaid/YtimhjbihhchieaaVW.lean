/- V: code. Conditions: as each states. -/
import Derived.Test.YtimhjbihhchieaaVV
import Derived.Scope
import Derived.LoopN
namespace Go.V
set_option linter.unusedVariables false
set_option linter.unusedSimpArgs false

section
variable {B0 : Lab} {W0 : World} {N : Nat} {WL : World} {B : Lab} {W W' : World} {r : Regs} {m : Mem} {P : Program} {a : Act} {Snd : SND}

theorem ready_s {ops : Array Oper} (hu : upTo (ops.toList.map depsOf) 0 = true) {L : Nat → Bool} {listed : Array Bool} (hsz : listed.size = ops.size) (hl : ∀ k, k < ops.size → listed[k]? = some (L k)) (i : Nat) :
    i ∈ Region.ready .any ops listed ↔ i < ops.size ∧ Rdy (ops.toList.map depsOf) L i := by
  have hdep : ∀ (l : List (List Nat)) (n j : Nat), upTo l n = true → ∀ e ∈ l.getD j [], e < n + j := by
    intro l
    induction l with
    | nil => intro n j _ e he; simp at he
    | cons x l ih =>
      intro n j h e he
      simp only [upTo, Bool.and_eq_true, List.all_eq_true] at h
      cases j with
      | zero =>
        have := h.1 e (by simpa using he)
        simpa [Nat.blt_eq] using this
      | succ j =>
        have := ih (n + 1) j h.2 e (by simpa using he)
        omega
  unfold Region.ready
  rw [List.mem_filter, List.mem_range]
  refine and_congr_right fun hi => ?_
  have ho : ops[i]? = some ops[i] := Array.getElem?_eq_getElem hi
  have hds : (ops.toList.map depsOf).getD i [] = depsOf ops[i] := by
    simp [List.getD, ho]
  have hli : listed.getD i true = L i := by
    have := hl i hi
    simp [Array.getD_eq_getD_getElem?, this]
  rw [Bool.and_eq_true, hli, ho]
  unfold Rdy
  rw [hds]
  simp only [Option.map_some, Option.getD_some, Bool.not_eq_true', Array.all_eq_true', Bool.or_eq_true]
  refine and_congr_right fun _ => ⟨fun h e he => ?_, fun h e he => ?_⟩
  · unfold depsOf at he
    obtain ⟨x, hx, rfl⟩ := List.mem_map.1 he
    obtain ⟨hx1, hx2⟩ := List.mem_filter.1 hx
    rcases h x (by simpa using hx1) with h | h
    · rw [hx2] at h; cases h
    · have hlt : x.on < 0 + i := hdep _ _ _ hu x.on (by rw [hds]; exact he)
      have := hl x.on (by omega)
      simpa [Array.getD_eq_getD_getElem?, this] using h
  · cases hb : Region.binds .any e with
    | false => exact .inl rfl
    | true =>
      have he' : e.on ∈ depsOf ops[i] := List.mem_map.2 ⟨e, List.mem_filter.2 ⟨by simpa using he, hb⟩, rfl⟩
      have hlt : e.on < 0 + i := hdep _ _ _ hu e.on (by rw [hds]; exact he')
      have := hl e.on (by omega)
      right
      simpa [Array.getD_eq_getD_getElem?, this] using h e.on he'

theorem any_s {ops : Array Oper} {pk : Nat → Bool} {pr : List Nat} {K : Regs → Mem → Prop} {Q : Exit → Act → World → Prop} {E : AV → Mem → Prop} (hSnd : ∀ f xs m Q, Snd f xs m Q → Sound P N WL f xs m Q) (hu : upTo (ops.toList.map depsOf) 0 = true)
    (hn : Next? B0 W0 N WL K (Q .normal)) (he : Exc? B0 W0 N WL E Q) : ∀ (f : Nat) (L : Nat → Bool) (listed : Array Bool), listed.size = ops.size → (∀ k, k < ops.size → listed[k]? = some (L k)) → ∀ {B : Lab} {W : World} {r : Regs} {m : Mem} {a : Act},
      a.defers = [] → Inv B0 W0 N WL B W r m a.tmps.toList → vAny P Snd ops.toList (ops.toList.map depsOf) pk pr K E f L r m → wpAny P .any ops Q f listed a W
  | 0, L, listed, hsz, hl, B, W, r, m, a, hd, h, hv => by
    refine ⟨?_, hn _ _ _ _ _ hd h hv.2⟩
    cases e : Region.ready .any ops listed with
    | nil => rfl
    | cons i l =>
      obtain ⟨h1, h2⟩ := (ready_s hu hsz hl i).1 (by rw [e]; exact List.mem_cons_self)
      have := hv.1 i (by simpa using h1)
      rw [h2.1] at this
      cases this
  | f + 1, L, listed, hsz, hl, B, W, r, m, a, hd, h, hv => by
    refine ⟨fun hnil => hn _ _ _ _ _ hd h (hv.1 fun i hi hr => ?_), fun i hi => ?_⟩
    · have := (ready_s hu hsz hl i).2 ⟨by simpa using hi, hr⟩
      rw [hnil] at this
      cases this
    · obtain ⟨h1, h2⟩ := (ready_s hu hsz hl i).1 hi
      have ho : ops[i]? = some ops[i] := Array.getElem?_eq_getElem h1
      obtain ⟨_, _, hv2⟩ := hv.2 i ops[i] (by rw [Array.getElem?_toList]; exact ho) h2
      unfold wpOp
      rw [ho]
      refine vopG_s hSnd rfl ho (K := fun r m => vAny P Snd ops.toList (ops.toList.map depsOf) pk pr K E f (addL L i) r m) ?_ he hd h hv2
      intro B W r m a hd h hv
      refine any_s hSnd hu hn he f (addL L i) _ (by simpa using hsz) (fun k hk => ?_) hd h hv
      by_cases hki : k = i
      · subst hki
        rw [addL_self]
        simp [Array.getElem?_setIfInBounds, hsz, hk]
      · rw [addL_ne hki, Array.getElem?_setIfInBounds_ne (Ne.symm hki)]
        exact hl k hk

theorem Inv.drawn {l : List Value} (h : Inv B0 W0 N WL B W r m l) (n : Nat) : Inv B0 W0 N WL B { W with drawn := n } r m l := by
  have hx : Ext B W B { W with drawn := n } (fun _ => False) (fun _ => False) := ⟨fun b hb => ⟨hb, rfl⟩, fun b w hb _ => ⟨hb, rfl⟩, fun b k hb _ => hb⟩
  have := h.turn (B' := B) (W' := { W with drawn := n }) ⟨h.lab.dom, h.lab.rows, h.lab.objs⟩ ⟨Nat.le_refl _, rfl, rfl, rfl, fun b hb => ⟨hb, rfl⟩, fun b _ hb => ⟨hb, rfl⟩, fun b k _ _ hb => hb⟩ id
    (fun a v ha => Rep0.ext hx (fun _ _ h => h) (fun _ _ h => h) ha) (fun b k hb _ => ⟨hb, rfl⟩)
  have e1 : r.map (AV.map id) = r := by
    conv => rhs; rw [← List.map_id r]
    exact List.map_congr_left fun x _ => AV.map_id x
  have e2 : mmap id m = m := by simp [mmap]
  rwa [e1, e2] at this

theorem sndOf_s {fl : Bool} (hSnd : ∀ f xs m Q, Snd f xs m Q → Sound P N WL f xs m Q) : ∀ f xs m Q, sndOf fl Snd f xs m Q → Sound P N WL f xs m Q := fun f xs m Q h => by
  cases fl with
  | true => exact hSnd _ _ _ _ h.2
  | false => exact hSnd _ _ _ _ h

theorem draw_s {id : Nat} {ops : Array Oper} {K : Regs → Mem → Prop} {Q : Exit → Act → World → Prop} {E : AV → Mem → Prop} (hmix : P.follows .mixedOrders = true) (hn : Next? B0 W0 N WL K (Q .normal)) (he : Exc? B0 W0 N WL E Q)
    (hd : a.defers = []) (h : Inv B0 W0 N WL B W r m a.tmps.toList) (hv : vdraw P (Sound P N WL) ops.toList r m K E) : (Code.region id ops true).wp P Q a W := by
  rcases hv with ⟨fl, pr, plan, hok, hv⟩ | ⟨fl, pr, plan, hok, hv⟩
  · refine wp_region_any hmix ?_
    simp only [planOK, Bool.and_eq_true] at hok
    obtain ⟨⟨hu, hlen⟩, hgo⟩ := hok
    have hS : fl = true → ∀ f xs sm Q, sndOf fl (Sound P N WL) f xs sm Q → sm = [] := fun e f xs sm Q h => by
      subst e
      exact h.1
    have hall := plan_any hu hS plan [] r m hgo (fun x hx => by simp at hx) hv
    have hpl : plan.length = ops.size := by simpa using Nat.eq_of_beq_eq_true hlen
    rw [hpl] at hall
    exact any_s (sndOf_s fun _ _ _ _ h => h) hu hn he ops.size _ (Array.replicate ops.size false) (by simp) (fun k hk => by simp [hk]) hd (h.drawn _) hall
  · refine wp_region_any hmix ?_
    simp only [planOKT, Bool.and_eq_true] at hok
    obtain ⟨⟨hu, hlen⟩, hgo⟩ := hok
    have hS : fl = true → ∀ f xs sm Q, sndOf fl (Sound P N WL) f xs sm Q → sm = [] := fun e f xs sm Q h => by
      subst e
      exact h.1
    have hall := vAnyX_nil (plan_anyT hu hS plan ops.size [] [] r m (by simpa using Nat.le_of_ble_eq_true hlen) hgo (fun x hx => by simp at hx) hv)
    exact any_s (sndOf_s fun _ _ _ _ h => h) hu hn he ops.size _ (Array.replicate ops.size false) (by simp) (fun k hk => by simp [hk]) hd (h.drawn _) hall

def exitOf : VX → Exit
  | .normal => .normal
  | .exit id => .exit id
  | .ret => .ret
  | .panic _ => .normal

/-- what must follow code -/
structure Post (B0 : Lab) (W0 : World) (N : Nat) (WL : World) (K : VX → Regs → Mem → Prop) (Q : Exit → Act → World → Prop) : Prop where
  fin : ∀ x, (∀ v, x ≠ .panic v) → Next? B0 W0 N WL (K x) (Q (exitOf x))
  exc : ∀ r, Exc? B0 W0 N WL (fun v m => K (.panic v) r m) Q

theorem keepM_mem {p : Nat × List A0} : ∀ (ks : List Nat) (m : Mem), p ∈ keepM ks m → p ∈ m ∧ p.1 ∈ ks
  | [], m, h => by cases h
  | k :: l, m, h => by
    unfold keepM at h
    cases hi : (idxOf k l 0).isSome with
    | true =>
      rw [hi] at h
      have := keepM_mem l m h
      exact ⟨this.1, List.mem_cons_of_mem _ this.2⟩
    | false =>
      rw [hi] at h
      simp only [cond_false] at h
      split at h
      · rename_i c hc
        rcases List.mem_cons.1 h with rfl | h
        · exact ⟨mget_some hc, List.mem_cons_self⟩
        · have := keepM_mem l m h
          exact ⟨this.1, List.mem_cons_of_mem _ this.2⟩
      · have := keepM_mem l m h
        exact ⟨this.1, List.mem_cons_of_mem _ this.2⟩
theorem keepM_nodup : ∀ (ks : List Nat) (m : Mem), ((keepM ks m).map (·.1)).Nodup
  | [], m => by simp [keepM]
  | k :: l, m => by
    unfold keepM
    cases hi : (idxOf k l 0).isSome with
    | true => exact keepM_nodup l m
    | false =>
      simp only [cond_false]
      split
      · rw [List.map_cons, List.nodup_cons]
        refine ⟨fun hm => ?_, keepM_nodup l m⟩
        obtain ⟨p, hp, e⟩ := List.mem_map.1 hm
        have := (keepM_mem l m hp).2
        rw [e] at this
        obtain ⟨i, h1⟩ := idxOf_isSome (j := 0) this
        rw [h1] at hi
        cases hi
      · exact keepM_nodup l m

theorem Inv.keepR (h : Inv B0 W0 N WL B W r m a.tmps.toList) (ks kms : List Nat) : Inv B0 W0 N WL B W (keepR ks 0 r) (keepM kms m) a.tmps.toList where
  lab := h.lab
  low := h.low
  move := h.move
  regs := by
    have : ∀ {r : Regs} {l : List Value} (i : Nat), All2 (RepA B W) r l → All2 (RepA B W) (V.keepR ks i r) l := by
      intro r l i hr
      induction hr generalizing i with
      | nil => exact .nil
      | cons hx _ ih =>
        refine .cons ?_ (ih (i + 1))
        cases (idxOf i ks 0).isSome with
        | true => exact hx
        | false => trivial
    exact this 0 h.regs
  mem := ⟨keepM_nodup kms m, fun p hp => h.mem.2 p (keepM_mem kms m hp).1⟩

theorem rounds_mono {c : Code} {Q : Exit → Act → World → Prop} : ∀ {n k : Nat} {a : Act} {W : World}, n ≤ k → Code.rounds P c Q n a W → Code.rounds P c Q k a W
  | 0, _, _, _, _, h => h.elim
  | n + 1, 0, _, _, hle, _ => by omega
  | n + 1, k + 1, a, W, hle, h => by
    refine wp_mono h ?_
    intro e a w hq
    cases e with
    | normal => exact rounds_mono (by omega) hq
    | _ => exact hq

theorem vexec_s (hmix : P.follows .mixedOrders = true) : ∀ (c : Code) {K : VX → Regs → Mem → Prop} {Q : Exit → Act → World → Prop} {B : Lab} {W : World} {r : Regs} {m : Mem} {a : Act}, Post B0 W0 N WL K Q → a.defers = [] → Inv B0 W0 N WL B W r m a.tmps.toList →
    vexec P (Sound P N WL) c r m K → c.wp P Q a W
  | .skip, K, Q, B, W, r, m, a, hp, hd, h, hv => wp_skip (hp.fin .normal (fun _ e => by cases e) _ _ _ _ _ hd h hv)
  | .label _, K, Q, B, W, r, m, a, hp, hd, h, hv => wp_label (hp.fin .normal (fun _ e => by cases e) _ _ _ _ _ hd h hv)
  | .region _ ops false, K, Q, B, W, r, m, a, hp, hd, h, hv => by
    refine wp_region ?_
    have := vops_s (ops := ops) (hp.fin .normal (fun _ e => by cases e)) (hp.exc r) ops.toList [] rfl hd h hv
    rwa [List.range_eq_range']
  | .region _ ops true, K, Q, B, W, r, m, a, hp, hd, h, hv => draw_s hmix (hp.fin .normal (fun _ e => by cases e)) (hp.exc r) hd h hv
  | .seq x y, K, Q, B, W, r, m, a, hp, hd, h, hv => by
    refine wp_seq (vexec_s hmix x ?_ hd h hv)
    refine ⟨fun z hz B W r m a hd h hk => ?_, fun r B W v u m a hd h1 h2 h3 h4 h5 hk => hp.exc r _ _ _ _ _ _ hd h1 h2 h3 h4 h5 hk⟩
    cases z with
    | normal => exact vexec_s hmix y hp hd h hk
    | exit i => exact hp.fin (.exit i) (fun _ e => by cases e) _ _ _ _ _ hd h hk
    | ret => exact hp.fin .ret (fun _ e => by cases e) _ _ _ _ _ hd h hk
    | panic v => exact (hz v rfl).elim
  | .cond c x y, K, Q, B, W, r, m, a, hp, hd, h, hv => by
    simp only [vexec] at hv
    have hc := vval_rep h.regs c
    split at hv
    · rename_i t ht
      rw [ht] at hc
      refine wp_cond (rep_bool hc) ?_
      cases t with
      | true => exact vexec_s hmix x hp hd h hv
      | false => exact vexec_s hmix y hp hd h hv
    · exact hv.elim
  | .block id x, K, Q, B, W, r, m, a, hp, hd, h, hv => by
    refine wp_block (vexec_s hmix x ?_ hd h hv)
    refine ⟨fun z hz B W r m a hd h hk => ?_, fun r B W v u m a hd h1 h2 h3 h4 h5 hk => hp.exc r _ _ _ _ _ _ hd h1 h2 h3 h4 h5 hk⟩
    cases z with
    | normal => exact hp.fin .normal (fun _ e => by cases e) _ _ _ _ _ hd h hk
    | exit i =>
      simp only [exitOf, Exit.inBlock]
      cases e : Nat.beq i id with
      | true =>
        simp only [e, cond_true] at hk
        rw [if_pos (Nat.eq_of_beq_eq_true e)]
        exact hp.fin .normal (fun _ e => by cases e) _ _ _ _ _ hd h hk
      | false =>
        simp only [e, cond_false] at hk
        rw [if_neg (fun e' => by subst e'; rw [Nat.beq_refl] at e; cases e)]
        exact hp.fin (.exit i) (fun _ e => by cases e) _ _ _ _ _ hd h hk
    | ret => exact hp.fin .ret (fun _ e => by cases e) _ _ _ _ _ hd h hk
    | panic v => exact (hz v rfl).elim
  | .scope x, K, Q, B, W, r, m, a, hp, hd, h, hv => by
    refine wp_scope_straight (vexec_s hmix x ?_ hd h hv)
    refine ⟨fun z hz B W r m a hd h hk => ?_, fun r B W v u m a hd h1 h2 h3 h4 h5 hk => hp.exc r _ _ _ _ _ _ hd h1 h2 h3 h4 h5 hk⟩
    cases z with
    | normal => exact hp.fin .normal (fun _ e => by cases e) _ _ _ _ _ hd h hk
    | exit i => exact hp.fin (.exit i) (fun _ e => by cases e) _ _ _ _ _ hd h hk
    | ret => exact hp.fin .ret (fun _ e => by cases e) _ _ _ _ _ hd h hk
    | panic v => exact (hz v rfl).elim
  | .exit id, K, Q, B, W, r, m, a, hp, hd, h, hv => wp_exit (hp.fin (.exit id) (fun _ e => by cases e) _ _ _ _ _ hd h hv)
  | .ret, K, Q, B, W, r, m, a, hp, hd, h, hv => wp_ret (hp.fin .ret (fun _ e => by cases e) _ _ _ _ _ hd h hv)
  | .loop x, K, Q, B, W, r, m, a, hp, hd, h, hv => by
    obtain ⟨ks, kms, I, ⟨n, h0⟩, hstep⟩ := hv
    have key : ∀ (n : Nat) {B : Lab} {W : World} {r : Regs} {m : Mem} {a : Act}, a.defers = [] → Inv B0 W0 N WL B W r m a.tmps.toList → I n r m → Code.rounds P x Q (n + 1) a W := by
      intro n
      induction n using Nat.strongRecOn with
      | ind n ih =>
        intro B W r m a hd h hi
        refine vexec_s hmix x ?_ hd h (hstep n r m hi)
        refine ⟨fun z hz B W r m a hd h hk => ?_, fun r B W v u m a hd h1 h2 h3 h4 h5 hk => hp.exc r _ _ _ _ _ _ hd h1 h2 h3 h4 h5 hk⟩
        cases z with
        | normal =>
          obtain ⟨n', hlt, hi'⟩ := hk
          exact rounds_mono (by omega) (ih n' hlt hd (h.keepR ks kms) hi')
        | exit i => exact hp.fin (.exit i) (fun _ e => by cases e) _ _ _ _ _ hd h hk
        | ret => exact hp.fin .ret (fun _ e => by cases e) _ _ _ _ _ hd h hk
        | panic v => exact (hz v rfl).elim
    exact wp_loop_rounds (n + 1) (key n hd (h.keepR ks kms) h0)
  | .rangeFunc _ _ _ _, K, Q, B, W, r, m, a, hp, hd, h, hv => hv.elim
  | .goto _, K, Q, B, W, r, m, a, hp, hd, h, hv => hv.elim
  | .refuse _, K, Q, B, W, r, m, a, hp, hd, h, hv => hv.elim

end

end Go.V
