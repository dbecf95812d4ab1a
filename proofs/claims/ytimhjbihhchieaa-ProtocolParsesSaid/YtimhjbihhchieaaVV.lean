/- V: a plan of an order stands for every order. Conditions: as each states. -/
import Derived.Test.YtimhjbihhchieaaVU
namespace Go.V
set_option linter.unusedVariables false
set_option linter.unusedSimpArgs false

section
variable {P : Program} {all : List Oper} {Snd : SND} {E : AV → Mem → Prop} {K : Regs → Mem → Prop} {pk : Nat → Bool} {fl : Bool}

theorem contains_cons (i : Nat) (L : List Nat) : (fun k => (i :: L).contains k) = addL (fun k => L.contains k) i := by
  funext k
  simp only [addL, List.contains_cons]
  congr 1
  cases e : Nat.beq k i with
  | true => simp [Nat.eq_of_beq_eq_true e]
  | false =>
    have : k ≠ i := fun e' => by rw [e', Nat.beq_refl] at e; cases e
    simpa using this

theorem all_deps {ds : List (List Nat)} {L : List Nat} {j : Nat} : ((ds.getD j []).all (L.contains ·)) = true ↔ ∀ e ∈ ds.getD j [], (fun k => L.contains k) e = true := by
  rw [List.all_eq_true]

theorem getD_slot {r : Regs} {d : Nat} {v : AV} (h : inDst (r.set d v) (some d) = true) : inA v = true := by
  unfold inDst at h
  by_cases hlt : d < r.length
  · simpa [hlt] using h
  · simp [hlt] at h

def topTmp : List Operand → Nat
  | [] => 0
  | .tmp t :: l => (t + 1) + topTmp l
  | _ :: l => topTmp l
theorem topTmp_s {d : Nat} : ∀ {l : List Operand}, topTmp l ≤ d → ∀ x ∈ l, x ≠ .tmp d
  | x :: l, h, y, hy => by
    have hl : topTmp l ≤ topTmp (x :: l) := by
      cases x with
      | tmp t => exact Nat.le_add_left _ _
      | _ => exact Nat.le_refl _
    rcases List.mem_cons.1 hy with rfl | hy
    · intro e
      subst e
      have : (d + 1) + topTmp l ≤ d := h
      exact absurd this (by omega)
    · exact topTmp_s (Nat.le_trans hl h) y hy

theorem short_rr (n : Nat) (dst : Option Nat) (st : Bool) : RR Snd (fun r _ => r.length ≤ n) dst st (fun _ => True) where
  map := fun f r m hf h => by simpa using h
  set := fun d' r m u hd h => by simpa using h
  mem := fun _ r m k c _ h => h
  call := fun _ r m m' ks mv d' f xs Q h1 h => by simpa using h

theorem vop_mono {o : Oper} {r : Regs} {m : Mem} {K' : Regs → Mem → Prop} (hw : (wKind o.op || calm P all o r m) = true) (hk : ∀ r m, K r m → K' r m) (h : vop P Snd all o r m K E) : vop P Snd all o r m K' E := by
  cases hw' : wKind o.op with
  | true =>
    let d := r.length + topTmp (opnds o.op) + (match o.dst with | some d => d + 1 | none => 0)
    have hd : o.dst ≠ some d := fun e => by
      have : d = r.length + topTmp (opnds o.op) + (match o.dst with | some d => d + 1 | none => 0) := rfl
      rw [e] at this
      simp only at this
      omega
    have hset : r.set d (.lf .undef) = r := List.set_eq_of_length_le (by show r.length ≤ _; omega)
    have := vop_frame (P := P) (Snd := Snd) (E := E) (all := all) (m := m) (r := r) (K := K) (K' := K') (d := d) (v := .lf .undef) (R := fun r _ => r.length ≤ d) (tg := fun _ => True) hw' (fun _ _ _ _ _ _ _ _ _ _ => trivial) (short_rr d _ _) (topTmp_s (by show _ ≤ d; omega)) hd rfl (by show r.length ≤ d; omega)
      (fun r' m' hle h => by rw [List.set_eq_of_length_le hle] at h; exact hk _ _ h)
    rw [hset] at this
    exact this h
  | false =>
    rw [hw', Bool.false_or] at hw
    rw [vop_calm hw] at h ⊢
    obtain ⟨u, hu, hF⟩ := vcalm_det _ h
    refine hF _ ?_
    cases hd : o.dst with
    | none => rw [hd] at hu; exact hk _ _ hu
    | some d =>
      rw [hd] at hu
      rw [vput_some] at hu ⊢
      exact hk _ _ hu

theorem vopG_mono {o : Oper} {r : Regs} {m : Mem} {K' : Regs → Mem → Prop} (hw : (wKind o.op || calm P all o r m) = true) (hk : ∀ r m, K r m → K' r m) (h : vopG P Snd all o r m K E) : vopG P Snd all o r m K' E := by
  unfold vopG at h ⊢
  refine vguard_mono (fun h => vop_mono hw hk h) (fun h => ?_) h
  cases hd : o.dst with
  | none => rw [hd] at h; exact hk _ _ h
  | some d =>
    rw [hd] at h
    rw [vput_some] at h ⊢
    exact hk _ _ h

theorem plan_any {pr : List Nat} (hu : upTo (all.map depsOf) 0 = true) (hS : fl = true → ∀ f xs sm Q, Snd f xs sm Q → sm = []) :
    ∀ (plan : List (Nat × Nat)) (L : List Nat) (r : Regs) (m : Mem), planGo all (all.map depsOf) (clos (all.map depsOf) []) pk L plan = true → Cl (clos (all.map depsOf) []) (fun k => L.contains k) →
      vplan P Snd all fl pr plan r m K E → vAny P Snd all (all.map depsOf) pk pr K E plan.length (fun k => L.contains k) r m
  | [], L, r, m, hg, hcl, hv => by
    refine ⟨fun k hk => ?_, hv⟩
    simp only [planGo, List.all_eq_true] at hg
    exact hg k (List.mem_range.2 hk)
  | (i, md) :: rest, L, r, m, hg, hcl, hv => by
    simp only [planGo, Bool.and_eq_true] at hg
    obtain ⟨⟨hmd, hs⟩, hg⟩ := hg
    cases ho : all[i]? with
    | none => simp [stepOK, ho] at hs
    | some o =>
      have hi : i < all.length := (List.getElem?_eq_some_iff.1 ho).1
      simp only [stepOK, ho, Bool.and_eq_true, List.all_eq_true, Bool.or_eq_true, Bool.not_eq_true'] at hs
      obtain ⟨⟨⟨⟨hpk, hun⟩, hdep⟩, hdst⟩, hall⟩ := hs
      have hr : Rdy (all.map depsOf) (fun k => L.contains k) i := ⟨hun, fun e he => hdep e he⟩
      have hcl' : Cl (clos (all.map depsOf) []) (fun k => (i :: L).contains k) := by rw [contains_cons]; exact cl_add hu hcl hi hr
      have ih := fun r m hv => plan_any (pr := pr) hu hS rest (i :: L) r m hg hcl' hv
      rw [contains_cons] at ih
      simp only [vplan, ho] at hv
      match md, hmd with
      | 0, _ =>
        have hpk : pk i = false := by
          cases e : pk i
          · rfl
          · rw [e] at hpk; cases hpk
        simp only at hv
        obtain ⟨hw, hv⟩ := chk hv
        rw [Bool.and_eq_true] at hw
        refine ⟨fun hn => (hn i hi hr).elim, fun j p hp hrj => ?_⟩
        have hjl : j < all.length := (List.getElem?_eq_some_iff.1 hp).1
        by_cases hji : j = i
        · subst hji
          rw [ho] at hp
          cases hp
          exact ⟨fun e => (by rw [hpk] at e; cases e), fun _ => hw.2, vopG_mono hw.1 ih hv⟩
        · rcases hall j (List.mem_range.2 hjl) with (e | e) | e
          · exact (hji (Nat.eq_of_beq_eq_true e)).elim
          · have h1 : L.contains j = false := hrj.1
            rw [e] at h1; cases h1
          · simp only [Bool.not_eq_true'] at e
            rw [all_deps.2 hrj.2] at e
            cases e
      | 1, _ =>
        simp only at hv
        obtain ⟨hcalm, hv⟩ := chk hv
        obtain ⟨d, hd⟩ : ∃ d, o.dst = some d := by
          rcases hdst with e | e
          · cases e
          · exact Option.isSome_iff_exists.1 e
        have hpi : pk i = true := by
          cases e : pk i
          · rw [e] at hpk; cases hpk
          · rfl
        rw [vopG_calm hcalm] at hv
        obtain ⟨v, hv, hF⟩ := vF_det _ hv
        rw [hd, vput_some] at hv
        refine any_first hu (nm := false) (ld := False) hpi ho hd (fun e => by cases e) (fun e => by cases e) (L0 := fun k => L.contains k) (fun j p hp hji hL hw => ?_) rest.length _ r m (fun _ h => h) hcl hr ⟨hcalm, hF, (fun e => by cases e), (fun e => by cases e)⟩ (ih _ _ hv)
        have hjl : j < all.length := (List.getElem?_eq_some_iff.1 hp).1
        rcases hall j (List.mem_range.2 hjl) with (e | e) | e
        · exact (hji (Nat.eq_of_beq_eq_true e)).elim
        · have hL : L.contains j = false := hL; rw [e] at hL; cases hL
        · simp only [hw, hp, Bool.false_or, Bool.and_eq_true] at e
          refine ⟨e.1, .inl ?_⟩
          simpa using e.2
      | 2, _ =>
        simp only at hv
        obtain ⟨hcalm, hv⟩ := chk hv
        rw [Bool.and_eq_true, Bool.and_eq_true] at hcalm
        obtain ⟨⟨hcalm, hins⟩, hobj⟩ := hcalm
        obtain ⟨d, hd⟩ : ∃ d, o.dst = some d := by
          rcases hdst with e | e
          · cases e
          · exact Option.isSome_iff_exists.1 e
        have hpi : pk i = true := by
          cases e : pk i
          · rw [e] at hpk; cases hpk
          · rfl
        rw [vopG_calm hcalm] at hv
        obtain ⟨v, hv, hF⟩ := vF_det _ hv
        rw [hd, vput_some] at hv
        obtain ⟨hin, hv⟩ := chk hv
        have hfin : ∀ v', inA v' = true → (∀ X : AV → Prop, X v' → vF P all o r m X) → vplan P Snd all fl pr rest (r.set d v') m K E → vAny P Snd all (all.map depsOf) pk pr K E (rest.length + 1) (fun k => L.contains k) r m := by
          intro v' hv' hF' hpl
          refine any_first hu (nm := true) (ld := fl = true) hpi ho hd (fun _ => hv') (fun _ hl => hS hl) (L0 := fun k => L.contains k) (fun j p hp hji hL hw => ?_) rest.length _ r m (fun _ h => h) hcl hr ⟨hcalm, hF', fun _ => inSlots_s hins, fun _ t x k off hop hx => ?_⟩ (ih _ _ hpl)
          · have hjl : j < all.length := (List.getElem?_eq_some_iff.1 hp).1
            rcases hall j (List.mem_range.2 hjl) with (e | e) | e
            · exact (hji (Nat.eq_of_beq_eq_true e)).elim
            · have hL : L.contains j = false := hL; rw [e] at hL; cases hL
            · simp only [hw, hp, Bool.false_or, Bool.and_eq_true, Bool.or_eq_true] at e
              exact ⟨e.1, e.2.imp id fun ⟨_, e1⟩ => ⟨rfl, e1⟩⟩
          · unfold objOK at hobj
            rw [hop] at hobj
            simp only [hx, Bool.and_eq_true] at hobj
            obtain ⟨⟨⟨g1, g2⟩, g3⟩, g4⟩ := hobj
            refine ⟨g1, List.contains_iff_mem.1 g2, by simpa [Nat.blt_eq] using g3, ?_⟩
            cases hm : mget m k with
            | none => rw [hm] at g4; cases g4
            | some c => rw [hm] at g4; exact ⟨c, rfl, g4⟩
        exact hfin v (getD_slot hin) hF hv
      | n + 3, h => exact absurd (Nat.le_of_ble_eq_true h) (by omega)

/-- as vAny, but the next operation is none of X -/
def vAnyX (P : Program) (Snd : SND) (all : List Oper) (ds : List (List Nat)) (pk : Nat → Bool) (pr : List Nat) (K : Regs → Mem → Prop) (E : AV → Mem → Prop) (f : Nat) (L : Nat → Bool) (X : List Nat) (r : Regs) (m : Mem) : Prop :=
  match f with
  | 0 => (∀ k, k < all.length → L k = true) ∧ K r m
  | f + 1 => ((∀ i, i < all.length → ¬ Rdy ds L i) → K r m) ∧ ∀ i o, all[i]? = some o → Rdy ds L i → X.contains i = false → (pk i = true → calm P all o r m = true) ∧ (pk i = false → tgtOK pr r o = true) ∧ vopG P Snd all o r m (fun r m => vAny P Snd all ds pk pr K E f (addL L i) r m) E
theorem vAnyX_of {ds : List (List Nat)} {pr : List Nat} {f : Nat} {L : Nat → Bool} {X : List Nat} {r : Regs} {m : Mem} (h : vAny P Snd all ds pk pr K E f L r m) : vAnyX P Snd all ds pk pr K E f L X r m := by
  cases f with
  | zero => exact h
  | succ f => exact ⟨h.1, fun i o ho hr _ => h.2 i o ho hr⟩
theorem vAnyX_nil {ds : List (List Nat)} {pr : List Nat} {f : Nat} {L : Nat → Bool} {r : Regs} {m : Mem} (h : vAnyX P Snd all ds pk pr K E f L [] r m) : vAny P Snd all ds pk pr K E f L r m := by
  cases f with
  | zero => exact h
  | succ f => exact ⟨h.1, fun i o ho hr => h.2 i o ho hr rfl⟩

theorem calm_tgt {o : Oper} {pr : List Nat} {r : Regs} {m : Mem} (h : calm P all o r m = true) : tgtOK pr r o = true := by
  unfold tgtOK
  cases ho : o.op <;> first | rfl | (unfold calm at h; rw [ho] at h; cases h)
theorem vturn_s {o : Oper} {pr : List Nat} {r : Regs} {m : Mem} {i md : Nat} (hpk : (Nat.beq md 0 != pk i) = true) (h : vturn P all pr md o r m = true) : (wKind o.op || calm P all o r m) = true ∧ (pk i = true → calm P all o r m = true) ∧ (pk i = false → tgtOK pr r o = true) := by
  cases md with
  | zero =>
    have e : pk i = false := by
      cases e : pk i
      · rfl
      · rw [e] at hpk; cases hpk
    simp only [vturn, Bool.and_eq_true] at h
    exact ⟨h.1, fun e' => (by rw [e] at e'; cases e'), fun _ => h.2⟩
  | succ n =>
    have h : calm P all o r m = true := h
    exact ⟨by rw [h, Bool.or_true], fun _ => h, fun _ => calm_tgt h⟩
theorem plan_anyT {pr : List Nat} (hu : upTo (all.map depsOf) 0 = true) (hS : fl = true → ∀ f xs sm Q, Snd f xs sm Q → sm = []) :
    ∀ (plan : PT) (fu : Nat) (L X : List Nat) (r : Regs) (m : Mem), plan.depth ≤ fu → planGoT all (all.map depsOf) (clos (all.map depsOf) []) pk L X plan = true → Cl (clos (all.map depsOf) []) (fun k => L.contains k) →
      vplanT P Snd all fl pr plan r m K E → vAnyX P Snd all (all.map depsOf) pk pr K E fu (fun k => L.contains k) X r m
  | .nil, fu, L, X, r, m, hfu, hg, hcl, hv => by
    have hdone : ∀ k, k < all.length → L.contains k = true := fun k hk => by
      simp only [planGoT, List.all_eq_true] at hg
      exact hg k (List.mem_range.2 hk)
    cases fu with
    | zero => exact ⟨hdone, hv⟩
    | succ fu =>
      refine ⟨fun _ => hv, fun i o ho hr _ => ?_⟩
      have h1 : L.contains i = false := hr.1
      rw [hdone i (List.getElem?_eq_some_iff.1 ho).1] at h1
      cases h1
  | .alt i md p q, fu, L, X, r, m, hfu, hg, hcl, hv => by
    simp only [PT.depth] at hfu
    obtain ⟨fu, rfl⟩ : ∃ g, fu = g + 1 := ⟨fu - 1, by omega⟩
    simp only [planGoT, Bool.and_eq_true, Bool.not_eq_true'] at hg
    obtain ⟨⟨⟨⟨⟨hso, hpk⟩, hun⟩, hdep⟩, hg1⟩, hg2⟩ := hg
    obtain ⟨o, ho⟩ := Option.isSome_iff_exists.1 hso
    have hi : i < all.length := (List.getElem?_eq_some_iff.1 ho).1
    have hr : Rdy (all.map depsOf) (fun k => L.contains k) i := ⟨hun, fun e he => List.all_eq_true.1 hdep e he⟩
    have hcl' : Cl (clos (all.map depsOf) []) (fun k => (i :: L).contains k) := by rw [contains_cons]; exact cl_add hu hcl hi hr
    simp only [vplanT, ho] at hv
    obtain ⟨hv1, hv2⟩ := hv
    obtain ⟨hw, hv1⟩ := chk hv1
    obtain ⟨hw1, hw2, hw3⟩ := vturn_s hpk hw
    have ih1 := fun r m hv => vAnyX_nil (plan_anyT (pr := pr) hu hS p fu (i :: L) [] r m (by omega) hg1 hcl' hv)
    rw [contains_cons] at ih1
    have ih2 := plan_anyT (pr := pr) hu hS q (fu + 1) L (i :: X) r m (by omega) hg2 hcl hv2
    refine ⟨ih2.1, fun j o' hj hrj hx => ?_⟩
    by_cases hji : j = i
    · subst hji
      rw [ho] at hj
      cases hj
      exact ⟨hw2, hw3, vopG_mono hw1 ih1 hv1⟩
    · refine ih2.2 j o' hj hrj ?_
      rw [List.contains_cons, hx, Bool.or_false, beq_eq_false_iff_ne]
      exact hji
  | .st i md rest, fu, L, X, r, m, hfu, hg, hcl, hv => by
    simp only [PT.depth] at hfu
    obtain ⟨fu, rfl⟩ : ∃ g, fu = g + 1 := ⟨fu - 1, by omega⟩
    simp only [planGoT, Bool.and_eq_true] at hg
    obtain ⟨⟨hmd, hs⟩, hg⟩ := hg
    cases ho : all[i]? with
    | none => simp [stepOKT, ho] at hs
    | some o =>
      have hi : i < all.length := (List.getElem?_eq_some_iff.1 ho).1
      simp only [stepOKT, ho, Bool.and_eq_true, List.all_eq_true, Bool.or_eq_true, Bool.not_eq_true'] at hs
      obtain ⟨⟨⟨⟨hpk, hun⟩, hdep⟩, hdst⟩, hall⟩ := hs
      have hr : Rdy (all.map depsOf) (fun k => L.contains k) i := ⟨hun, fun e he => hdep e he⟩
      have hcl' : Cl (clos (all.map depsOf) []) (fun k => (i :: L).contains k) := by rw [contains_cons]; exact cl_add hu hcl hi hr
      have ih := fun r m hv => vAnyX_nil (plan_anyT (pr := pr) hu hS rest fu (i :: L) [] r m (by omega) hg hcl' hv)
      rw [contains_cons] at ih
      simp only [vplanT, ho] at hv
      match md, hmd with
      | 0, _ =>
        have hpk : pk i = false := by
          cases e : pk i
          · rfl
          · rw [e] at hpk; cases hpk
        simp only at hv
        obtain ⟨hw, hv⟩ := chk hv
        rw [Bool.and_eq_true] at hw
        refine ⟨fun hn => (hn i hi hr).elim, fun j p hp hrj hx => ?_⟩
        have hjl : j < all.length := (List.getElem?_eq_some_iff.1 hp).1
        by_cases hji : j = i
        · subst hji
          rw [ho] at hp
          cases hp
          exact ⟨fun e => (by rw [hpk] at e; cases e), fun _ => hw.2, vopG_mono hw.1 ih hv⟩
        · rcases hall j (List.mem_range.2 hjl) with (e | e) | e
          · exact (hji (Nat.eq_of_beq_eq_true e)).elim
          · have h1 : L.contains j = false := hrj.1
            rw [e] at h1; cases h1
          · simp only [Bool.or_eq_true] at e
            rcases e with e | e
            · rw [hx] at e; cases e
            · simp only [Bool.not_eq_true'] at e
              rw [all_deps.2 hrj.2] at e
              cases e
      | 1, _ =>
        simp only at hv
        obtain ⟨hcalm, hv⟩ := chk hv
        obtain ⟨d, hd⟩ : ∃ d, o.dst = some d := by
          rcases hdst with e | e
          · cases e
          · exact Option.isSome_iff_exists.1 e
        have hpi : pk i = true := by
          cases e : pk i
          · rw [e] at hpk; cases hpk
          · rfl
        rw [vopG_calm hcalm] at hv
        obtain ⟨v, hv, hF⟩ := vF_det _ hv
        rw [hd, vput_some] at hv
        refine vAnyX_of (any_first hu (nm := false) (ld := False) hpi ho hd (fun e => by cases e) (fun e => by cases e) (L0 := fun k => L.contains k) (fun j p hp hji hL hw => ?_) fu _ r m (fun _ h => h) hcl hr ⟨hcalm, hF, (fun e => by cases e), (fun e => by cases e)⟩ (ih _ _ hv))
        have hjl : j < all.length := (List.getElem?_eq_some_iff.1 hp).1
        rcases hall j (List.mem_range.2 hjl) with (e | e) | e
        · exact (hji (Nat.eq_of_beq_eq_true e)).elim
        · have hL : L.contains j = false := hL; rw [e] at hL; cases hL
        · simp only [hw, hp, Bool.false_or, Bool.and_eq_true] at e
          refine ⟨e.1, .inl ?_⟩
          simpa using e.2
      | 2, _ =>
        simp only at hv
        obtain ⟨hcalm, hv⟩ := chk hv
        rw [Bool.and_eq_true, Bool.and_eq_true] at hcalm
        obtain ⟨⟨hcalm, hins⟩, hobj⟩ := hcalm
        obtain ⟨d, hd⟩ : ∃ d, o.dst = some d := by
          rcases hdst with e | e
          · cases e
          · exact Option.isSome_iff_exists.1 e
        have hpi : pk i = true := by
          cases e : pk i
          · rw [e] at hpk; cases hpk
          · rfl
        rw [vopG_calm hcalm] at hv
        obtain ⟨v, hv, hF⟩ := vF_det _ hv
        rw [hd, vput_some] at hv
        obtain ⟨hin, hv⟩ := chk hv
        have hfin : ∀ v', inA v' = true → (∀ X : AV → Prop, X v' → vF P all o r m X) → vplanT P Snd all fl pr rest (r.set d v') m K E → vAny P Snd all (all.map depsOf) pk pr K E (fu + 1) (fun k => L.contains k) r m := by
          intro v' hv' hF' hpl
          refine any_first hu (nm := true) (ld := fl = true) hpi ho hd (fun _ => hv') (fun _ hl => hS hl) (L0 := fun k => L.contains k) (fun j p hp hji hL hw => ?_) fu _ r m (fun _ h => h) hcl hr ⟨hcalm, hF', fun _ => inSlots_s hins, fun _ t x k off hop hx => ?_⟩ (ih _ _ hpl)
          · have hjl : j < all.length := (List.getElem?_eq_some_iff.1 hp).1
            rcases hall j (List.mem_range.2 hjl) with (e | e) | e
            · exact (hji (Nat.eq_of_beq_eq_true e)).elim
            · have hL : L.contains j = false := hL; rw [e] at hL; cases hL
            · simp only [hw, hp, Bool.false_or, Bool.and_eq_true, Bool.or_eq_true] at e
              exact ⟨e.1, e.2.imp id fun e1 => ⟨rfl, e1⟩⟩
          · unfold objOK at hobj
            rw [hop] at hobj
            simp only [hx, Bool.and_eq_true] at hobj
            obtain ⟨⟨⟨g1, g2⟩, g3⟩, g4⟩ := hobj
            refine ⟨g1, List.contains_iff_mem.1 g2, by simpa [Nat.blt_eq] using g3, ?_⟩
            cases hm : mget m k with
            | none => rw [hm] at g4; cases g4
            | some c => rw [hm] at g4; exact ⟨c, rfl, g4⟩
        exact vAnyX_of (hfin v (getD_slot hin) hF hv)
      | 3, _ =>
        have hpk : pk i = true := by
          cases e : pk i
          · rw [e] at hpk; cases hpk
          · rfl
        simp only at hv
        obtain ⟨hw, hv⟩ := chk hv
        refine ⟨fun hn => (hn i hi hr).elim, fun j p hp hrj hx => ?_⟩
        have hjl : j < all.length := (List.getElem?_eq_some_iff.1 hp).1
        by_cases hji : j = i
        · subst hji
          rw [ho] at hp
          cases hp
          exact ⟨fun _ => hw, fun _ => calm_tgt hw, vopG_mono (by rw [hw, Bool.or_true]) ih hv⟩
        · rcases hall j (List.mem_range.2 hjl) with (e | e) | e
          · exact (hji (Nat.eq_of_beq_eq_true e)).elim
          · have h1 : L.contains j = false := hrj.1
            rw [e] at h1; cases h1
          · simp only [Bool.or_eq_true] at e
            rcases e with e | e
            · rw [hx] at e; cases e
            · simp only [Bool.not_eq_true'] at e
              rw [all_deps.2 hrj.2] at e
              cases e
      | n + 4, h => exact absurd (Nat.le_of_ble_eq_true h) (by omega)

end

end Go.V
