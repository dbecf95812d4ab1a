/- V: what an operation does not look at, it leaves. Conditions: as each states. -/
import Derived.Test.YtimhjbihhchieaaVS
namespace Go.V
set_option linter.unusedVariables false
set_option linter.unusedSimpArgs false

def Fixes (f : A0 → A0) : Prop := ∀ a, in0 a = true → f a = a

theorem fix_kill (w : Ow) : Fixes (A0.kill w) := fun a h => by cases a <;> first | rfl | cases h
theorem fix_ren (w u : Ow) : Fixes (A0.ren w u) := fun a h => by cases a <;> first | rfl | cases h
theorem fix_frz (w : Ow) : Fixes (A0.frz w) := fun a h => by cases a <;> first | rfl | cases h
theorem fix_upd (w : Ow) (e : Ty) (i : Nat) (g : e.den → e.den) : Fixes (A0.upd w e i g) := fun a h => by cases a <;> first | rfl | cases h
theorem fix_outn (ks : List Nat) (mv : List (Ow × Nat)) (d : Nat) : Fixes (A0.outn ks mv d) := fun a h => by
  cases a with
  | ptr k off =>
    have h : k < 3000 := by simpa [in0, Nat.blt_eq] using h
    simp only [A0.outn]
    rw [beqF (by omega)]
    rfl
  | al w e l => cases h
  | vp w e l i t off g s => cases h
  | _ => rfl

theorem inL_fix {f : A0 → A0} (hf : Fixes f) : ∀ {l : List A0}, inL l = true → l.map f = l
  | [], _ => rfl
  | a :: l, h => by
    simp only [inL, Bool.and_eq_true] at h
    rw [List.map_cons, hf a h.1, inL_fix hf h.2]
theorem inA_fix {f : A0 → A0} (hf : Fixes f) {v : AV} (h : inA v = true) : v.map f = v := by
  cases v with
  | lf a => simp only [AV.map]; rw [hf a h]
  | tup xs => simp only [AV.map]; rw [inL_fix hf h]
  | fn g a b =>
    simp only [inA, Bool.and_eq_true] at h
    simp only [AV.map]; rw [inL_fix hf h.1, inL_fix hf h.2]
  | iface t a => simp only [AV.map]; rw [hf a h]
  | st xs => simp only [AV.map]; rw [inL_fix hf h]

def Keeps (pr : List Nat) (m m' : Mem) : Prop := ∀ k c, k ∈ pr → k < 3000 → mget m k = some c → inL c = true → mget m' k = some c
theorem Keeps.refl (pr : List Nat) (m : Mem) : Keeps pr m m := fun _ _ _ _ h _ => h
theorem Keeps.trans {pr : List Nat} {m m' m'' : Mem} (h : Keeps pr m m') (g : Keeps pr m' m'') : Keeps pr m m'' := fun k c hp hk hc hi => g k c hp hk (h k c hp hk hc hi) hi

theorem mget_mmap (f : A0 → A0) (k : Nat) : ∀ (m : Mem), mget (mmap f m) k = (mget m k).map (List.map f)
  | [] => rfl
  | p :: m => by
    have ih := mget_mmap f k m
    unfold mget mmap at ih ⊢
    simp only [List.map_cons, List.find?_cons]
    cases Nat.beq p.1 k with
    | true => rfl
    | false => exact ih
theorem Keeps.mmap {pr : List Nat} {f : A0 → A0} (hf : Fixes f) (m : Mem) : Keeps pr m (mmap f m) := fun k c _ _ hc hi => by rw [mget_mmap, hc, Option.map_some, inL_fix hf hi]

theorem mget_mset {k j : Nat} {c : List A0} (h : k ≠ j) : ∀ {m : Mem}, mget (mset m j c) k = mget m k
  | [] => rfl
  | p :: m => by
    have ih := mget_mset (c := c) h (m := m)
    unfold mget mset at ih ⊢
    simp only [List.map_cons, List.find?_cons]
    cases e : Nat.beq p.1 j with
    | true =>
      have e1 : p.1 ≠ k := fun e' => h (by rw [← e', Nat.eq_of_beq_eq_true e])
      simp only [cond_true, beqF e1]
      exact ih
    | false =>
      simp only [cond_false]
      cases Nat.beq p.1 k with
      | true => rfl
      | false => exact ih

theorem mget_append {k : Nat} {c : List A0} {m' : Mem} : ∀ {m : Mem}, mget m k = some c → mget (m ++ m') k = some c
  | p :: m, h => by
    unfold mget at h ⊢
    simp only [List.cons_append, List.find?_cons] at h ⊢
    cases e : Nat.beq p.1 k with
    | true => rw [e] at h; exact h
    | false => rw [e] at h; exact mget_append (m := m) h

theorem mget_leftM {k d : Nat} {c : List A0} (hk : k < 3000) : ∀ {m : Mem}, mget m k = some c → mget (leftM m [] d) k = some c
  | p :: m, h => by
    unfold mget at h ⊢
    unfold leftM
    simp only [List.filter_cons, List.find?_cons] at h ⊢
    cases e : Nat.beq p.1 k with
    | true =>
      rw [e] at h
      have := Nat.eq_of_beq_eq_true e
      have e2 : Nat.beq p.1 (3000 + d) = false := beqF (by omega)
      simp only [idxOf, e2]
      simpa [e] using h
    | false =>
      rw [e] at h
      have ih := mget_leftM (m := m) (d := d) hk h
      split
      · simp only [List.find?_cons, e]; exact ih
      · exact ih

section
variable {P : Program} {r : Regs} {m : Mem} {o : Oper} {all : List Oper} {Snd : SND} {E : AV → Mem → Prop} {d : Nat} {v : AV}

theorem vval_set {x : Operand} (h : x ≠ .tmp d) : vval (r.set d v) x = vval r x := by
  cases x with
  | tmp t =>
    have hne : d ≠ t := fun e => h (by rw [e])
    show (r.set d v).getD t _ = r.getD t _
    simp only [List.getD, List.getElem?_set_ne hne]
  | _ => rfl

theorem set_map {f : A0 → A0} (hf : Fixes f) (hv : inA v = true) : (r.set d v).map (AV.map f) = (r.map (AV.map f)).set d v := by
  rw [List.map_set, inA_fix hf hv]

theorem vnew_eq (r : Regs) (m : Mem) (d : Nat) (e : Ty) (l : List e.den) (K : Regs → Mem → Prop) : vnew r m d e l K = K ((r.map (AV.map (A0.kill (.sl d)))).set d (.lf (.al (.sl d) e l))) (mmap (A0.kill (.sl d)) m) := by
  simp only [vnew, mapS_eq, fs_eq]

/-- K' follows from K, with d set, where R holds -/
def Fr (d : Nat) (v : AV) (R : Regs → Mem → Prop) (K K' : Regs → Mem → Prop) : Prop := ∀ r m, R r m → K (r.set d v) m → K' r m

/-- R is kept by what operations do -/
structure RR (Snd : SND) (R : Regs → Mem → Prop) (dst : Option Nat) (st : Bool) (tg : Nat → Prop) : Prop where
  map : ∀ f r m, Fixes f → R r m → R (r.map (AV.map f)) (mmap f m)
  set : ∀ d' r m u, dst = some d' → R r m → R (r.set d' u) m
  mem : st = true → ∀ r m k c, tg k → R r m → R r (mset m k c)
  call : st = false → ∀ r m m' ks mv d' f xs Q, Snd f xs (subM m ks mv ks 0) Q → R r m → R (r.map (AV.map (A0.outn ks mv d'))) (mmap (A0.outn ks mv d') (leftM m ks d') ++ backM ks d' m')

variable {R : Regs → Mem → Prop} {K K' : Regs → Mem → Prop} {st : Bool} {dst : Option Nat} {tg : Nat → Prop}

theorem fr_map {f : A0 → A0} (hR : RR Snd R dst st tg) (hf : Fixes f) (hv : inA v = true) (hm : R r m) (hk : Fr d v R K K') (h : mapS f (r.set d v) m K) : mapS f r m K' := by
  rw [mapS_eq] at h ⊢
  rw [set_map hf hv] at h
  exact hk _ _ (hR.map _ _ _ hf hm) h
theorem fr_vput {u : AV} (hR : RR Snd R dst st tg) (hd : dst ≠ some d) (hm : R r m) (hk : Fr d v R K K') (h : vput (r.set d v) m dst u K) : vput r m dst u K' := by
  cases dst with
  | none => exact hk _ _ hm h
  | some d' =>
    rw [vput_some] at h ⊢
    rw [List.set_comm _ _ (fun e => hd (by rw [e]))] at h
    exact hk _ _ (hR.set _ _ _ _ rfl hm) h
theorem fr_vnew {d' : Nat} {e : Ty} {l : List e.den} (hR : RR Snd R (some d') st tg) (hd : d' ≠ d) (hv : inA v = true) (hm : R r m) (hk : Fr d v R K K') (h : vnew (r.set d v) m d' e l K) : vnew r m d' e l K' := by
  rw [vnew_eq] at h ⊢
  rw [set_map (fix_kill _) hv, List.set_comm _ _ (Ne.symm hd)] at h
  exact hk _ _ (hR.set _ _ _ _ rfl (hR.map _ _ _ (fix_kill _) hm)) h
theorem fr_vname {u w : Ow} (hR : RR Snd R dst st tg) (hv : inA v = true) (hm : R r m) (hk : Fr d v R K K') (h : vname (r.set d v) m u w K) : vname r m u w K' := by
  unfold vname at h ⊢
  split
  · rename_i e; rw [e] at h; exact hk _ _ hm h
  · rename_i e
    rw [e] at h
    exact fr_map hR (fix_kill _) hv hm (fun r m hm h => fr_map hR (fix_ren _ _) hv hm hk h) h
theorem fr_vfreeze (hR : RR Snd R dst st tg) (hv : inA v = true) : ∀ {xs : List Operand} {r : Regs} {m : Mem}, (∀ x ∈ xs, x ≠ .tmp d) → R r m → Fr d v R K K' → vfreeze (r.set d v) m xs K → vfreeze r m xs K'
  | [], r, m, _, hm, hk, h => hk _ _ hm h
  | x :: xs, r, m, hx, hm, hk, h => by
    unfold vfreeze at h ⊢
    rw [vval_set (hx x (by simp))] at h
    split
    · rename_i e
      rw [e] at h
      exact fr_map hR (fix_frz _) hv hm (fun r m hm h => fr_vfreeze hR hv (fun y hy => hx y (by simp [hy])) hm hk h) h
    · rename_i hne
      split at h
      · rename_i e; exact (hne _ _ _ e).elim
      · exact fr_vfreeze hR hv (fun y hy => hx y (by simp [hy])) hm hk h

theorem mono_optK {α : Type} {x : Option α} {F G : α → Prop} (h : ∀ a, F a → G a) (hx : optK x F) : optK x G := by
  cases x with
  | some a => exact h a hx
  | none => exact hx
theorem mono_vchk {b : Bool} {F G : Prop} (h : F → G) (hx : vchk b F) : vchk b G := by
  cases b with
  | true => exact h hx
  | false => exact hx
theorem mono_vand {p F G : Prop} (h : F → G) (hx : vand p F) : vand p G := ⟨hx.1, h hx.2⟩

theorem fr_assign {x : Operand} (hR : RR Snd R o.dst st tg) (ho : o.op = .assign x) (hx : ∀ x ∈ opnds o.op, x ≠ .tmp d) (hd : o.dst ≠ some d) (hv : inA v = true) (hm : R r m) (hk : Fr d v R K K') (h : vop P Snd all o (r.set d v) m K E) : vop P Snd all o r m K' E := by
  have hx0 : x ≠ .tmp d := hx x (by rw [ho]; simp [opnds])
  simp only [vop, ho] at h ⊢
  rw [vval_set hx0] at h
  cases hdst : o.dst with
  | none => rw [hdst] at h; exact h.elim
  | some d' =>
    rw [hdst] at h hd hR
    have hne : d' ≠ d := fun e => hd (by rw [e])
    simp only at h ⊢
    generalize vval r x = y at h ⊢
    split
    · simp only at h
      split
      · rename_i e2
        rw [e2] at h
        exact mono_optK (fun _ h => fr_vnew hR hne hv hm hk h) h
      · rename_i hn2
        split at h
        · rename_i e2; exact (hn2 _ e2).elim
        · exact fr_vput hR hd hm hk h
    · simp only at h
      split
      · rename_i e2
        rw [e2] at h
        exact fr_vname hR hv hm (fun r m hm h => by
          have h : vput (r.set d v) m (some d') (vval (r.set d v) x) K := h
          show vput r m (some d') (vval r x) K'
          rw [vval_set hx0] at h
          exact fr_vput hR hd hm hk h) h
      · rename_i e2
        rw [e2] at h
        exact fr_vput hR hd hm hk h
    · rename_i n1 n2
      split at h
      · exact (n1 rfl).elim
      · exact (n2 _ _ _ rfl).elim
      · exact fr_vput hR hd hm hk h

theorem fr_append {args : Array Operand} {ats : Array TypeId} (hR : RR Snd R o.dst st tg) (ho : o.op = .call { callee := .builtin .append, args, argTypes := ats }) (hx : ∀ x ∈ opnds o.op, x ≠ .tmp d) (hd : o.dst ≠ some d) (hv : inA v = true) (hm : R r m) (hk : Fr d v R K K') (h : vop P Snd all o (r.set d v) m K E) : vop P Snd all o r m K' E := by
  rw [ho] at hx
  simp only [vop, ho] at h ⊢
  split
  · rename_i d' s x t u hdst ha hat
    rw [hdst] at hd hR
    have hne : d' ≠ d := fun e => hd (by rw [e])
    simp only [hdst, ha, hat] at h
    have h1 : s ≠ .tmp d := hx s (by simp [opnds, ha])
    have h2 : x ≠ .tmp d := hx x (by simp [opnds, ha])
    rw [vval_set h1, vval_set h2] at h
    refine mono_vchk ?_ h
    intro h
    unfold vappend at h ⊢
    split
    · rename_i el hu
      simp only [hu] at h
      split
      · rename_i e
        simp only [e] at h
        refine mono_vchk (mono_optK fun _ => mono_vand ?_) h
        intro h
        refine fr_map hR (fix_kill _) hv hm (fun r m hm h => ?_) h
        simp only [fs_eq] at h ⊢
        rw [List.set_comm _ _ (Ne.symm hne)] at h
        exact hk _ _ (hR.set _ _ _ _ rfl hm) h
      · rename_i e
        simp only [e] at h
        exact mono_vchk (mono_optK fun _ => mono_vand fun h => fr_vnew hR hne hv hm hk h) h
      · rename_i e
        simp only [e] at h
        exact mono_optK (fun _ => mono_vchk (mono_optK fun _ => mono_vand fun h => fr_vnew hR hne hv hm hk h)) h
      · rename_i n1 n2 n3
        split at h
        · rename_i e; exact (n1 _ _ _ e).elim
        · rename_i e; exact (n2 _ _ e).elim
        · rename_i e; exact (n3 e).elim
        · exact h
    · rename_i hn
      split at h
      · rename_i e; exact (hn _ e).elim
      · exact h
  · rename_i hn
    split at h
    · rename_i e1 e2 e3; exact (hn _ _ _ _ _ e1 e2 e3).elim
    · exact h

theorem fr_into1 {x z : Operand} (htg : ∀ r m, R r m → ∀ k off, vval r z = .lf (.ptr k off) → tg k) (hR : RR Snd R dst true tg) (hm : R r m) (hx : x ≠ .tmp d) (hz : z ≠ .tmp d) (hk : Fr d v R K K') (h : into1 z x K (r.set d v) m) : into1 z x K' r m := by
  unfold into1 at h ⊢
  rw [vval_set hx, vval_set hz] at h
  have hk' : ∀ k off c, vval r z = .lf (.ptr k off) → K (r.set d v) (mset m k c) → K' r (mset m k c) := fun k off c e h => hk r _ (hR.mem rfl _ _ _ _ (htg _ _ hm k off e) hm) h
  simp only [fl0_eq, fm_eq] at h ⊢
  generalize hp : vval r z = p at h ⊢
  generalize vval r x = q at h ⊢
  cases p with
  | lf p =>
    cases p with
    | ptr k off =>
      cases q with
      | lf y =>
        cases y with
        | undef => exact h.elim
        | vp _ _ _ _ _ _ _ _ => exact h.elim
        | full _ _ => exact h.elim
        | val T y => exact mono_vchk (mono_optK fun _ => mono_vchk (hk' _ _ _ hp)) h
        | sc u => cases u <;> first | exact h.elim | exact mono_optK (fun _ => mono_vchk (hk' _ _ _ hp)) h
        | _ => exact mono_optK (fun _ => mono_vchk (hk' _ _ _ hp)) h
      | _ => exact h.elim
    | _ => exact h.elim
  | _ => exact h.elim

theorem fr_intoN {t : TypeId} {x z : Operand} (htg : ∀ r m, R r m → ∀ k off, vval r z = .lf (.ptr k off) → tg k) (hR : RR Snd R dst true tg) (hm : R r m) (hx : x ≠ .tmp d) (hz : z ≠ .tmp d) (hk : Fr d v R K K') (h : intoN P t z x K (r.set d v) m) : intoN P t z x K' r m := by
  unfold intoN at h ⊢
  rw [vval_set hx, vval_set hz] at h
  have hk' : ∀ k off c, vval r z = .lf (.ptr k off) → K (r.set d v) (mset m k c) → K' r (mset m k c) := fun k off c e h => hk r _ (hR.mem rfl _ _ _ _ (htg _ _ hm k off e) hm) h
  simp only [fl0_eq, fm_eq] at h ⊢
  split at h
  · rename_i hp _
    exact mono_vchk (mono_optK fun _ => mono_vchk (hk' _ _ _ hp)) h
  · rename_i hp _
    exact mono_vchk (mono_optK fun _ => mono_vchk (hk' _ _ _ hp)) h
  · exact h.elim

theorem fr_intoE {t : TypeId} {x z : Operand} (htg : ∀ r m, R r m → ∀ k off, vval r z = .lf (.ptr k off) → tg k) (hR : RR Snd R dst true tg) (hm : R r m) (hx : x ≠ .tmp d) (hz : z ≠ .tmp d) (hv : inA v = true) (hk : Fr d v R K K') (h : intoE P t z x K (r.set d v) m) : intoE P t z x K' r m := by
  unfold intoE at h ⊢
  rw [vval_set hx, vval_set hz] at h
  split at h
  · exact mono_vchk (mono_optK fun _ => fr_map hR (fix_upd _ _ _ _) hv hm hk) h
  · exact h.elim

theorem fr_intoNil {t : TypeId} {z : Operand} {k off : Nat} (htg : ∀ r m, R r m → ∀ k off, vval r z = .lf (.ptr k off) → tg k) (hR : RR Snd R dst true tg) (hm : R r m) (hz : z ≠ .tmp d) (hv : inA v = true) (hk : Fr d v R K K') (h : intoNil P t z k off K (r.set d v) m) : intoNil P t z k off K' r m := by
  unfold intoNil at h ⊢
  split at h
  · refine mono_optK (fun _ => fr_map hR (fix_kill _) hv hm fun r m hm h => ?_) h
    rw [vval_set hz] at h
    simp only [fl0_eq, fm_eq] at h ⊢
    generalize hp : vval r z = p at h ⊢
    split at h
    · rename_i k' off'
      refine mono_vchk ?_ h
      intro h2
      by_cases hkk : Nat.beq k' k = true
      · have e := Nat.eq_of_beq_eq_true hkk
        subst e
        exact mono_optK (fun _ => mono_vchk (hk _ _ (hR.mem rfl _ _ _ _ (htg _ _ hm _ _ hp) hm))) h2
      · rw [Bool.not_eq_true] at hkk
        rw [hkk] at h
        exact h.elim
    · exact h.elim
  · exact h.elim

theorem fr_store {t : TypeId} {z x : Operand} (htg : ∀ r m, R r m → ∀ k off, vval r z = .lf (.ptr k off) → tg k) (hR : RR Snd R o.dst true tg) (hm : R r m) (ho : o.op = .store t z x) (hx : ∀ x ∈ opnds o.op, x ≠ .tmp d) (hv : inA v = true) (hk : Fr d v R K K') (h : vop P Snd all o (r.set d v) m K E) : vop P Snd all o r m K' E := by
  rw [ho] at hx
  have hz : z ≠ .tmp d := hx z (by simp [opnds])
  have hxx : x ≠ .tmp d := hx x (by simp [opnds])
  have hfr : ∀ y ∈ [x], y ≠ .tmp d := fun y hy => by simp at hy; rw [hy]; exact hxx
  simp only [vop, ho] at h ⊢
  cases hdst : o.dst with
  | some d' => rw [hdst] at h; exact h.elim
  | none =>
    rw [hdst] at h
    simp only at h ⊢
    unfold vstore at h ⊢
    rw [vval_set hz, vval_set hxx] at h
    generalize hp : vval r z = p at h ⊢
    cases p with
    | lf p =>
      cases p with
      | ptr k off =>
        simp only at h ⊢
        cases hag : isAggB P t with
        | true => rw [hag] at h; exact fr_vfreeze hR hv hfr hm (fun r m hm h => fr_intoN htg hR hm hxx hz hk h) h
        | false =>
          rw [hag] at h
          simp only at h ⊢
          refine mono_vchk ?_ h
          intro h
          generalize vval r x = q at h ⊢
          split
          · exact fr_intoNil htg hR hm hz hv hk h
          · simp only at h
            split
            · rename_i e2
              rw [e2] at h
              exact fr_vname hR hv hm (fun r m hm h => fr_into1 htg hR hm hxx hz hk h) h
            · rename_i e2
              rw [e2] at h
              exact fr_vfreeze hR hv hfr hm (fun r m hm h => fr_into1 htg hR hm hxx hz hk h) h
          · rename_i n1 n2
            split at h
            · exact (n1 rfl).elim
            · exact (n2 _ _ _ rfl).elim
            · exact fr_into1 htg hR hm hxx hz hk h
      | vp _ _ _ _ _ _ _ _ => exact fr_vfreeze hR hv hfr hm (fun r m hm h => fr_intoE htg hR hm hxx hz hv hk h) h
      | _ => exact h.elim
    | _ => exact h.elim

theorem argsOf_set : ∀ {l : List Operand} {ts : List TypeId}, (∀ x ∈ l, x ≠ .tmp d) → argsOf P (r.set d v) l ts = argsOf P r l ts
  | [], _, _ => rfl
  | x :: l, [], h => by simp only [argsOf]; rw [vval_set (h x (by simp)), argsOf_set fun y hy => h y (by simp [hy])]
  | x :: l, t :: ts, h => by simp only [argsOf]; rw [vval_set (h x (by simp)), argsOf_set fun y hy => h y (by simp [hy])]

theorem subM_nil {m : Mem} {mv : List (Ow × Nat)} {ks : List Nat} (h : subM m ks mv ks 0 = []) : ks = [] := by
  cases ks with
  | nil => rfl
  | cons k l => simp [subM] at h

theorem fr_call {f : Operand} {args : Array Operand} {ats : Array TypeId} (hR : RR Snd R o.dst false tg) (ho : o.op = .call { callee := .value f, args, argTypes := ats }) (hx : ∀ x ∈ opnds o.op, x ≠ .tmp d) (hd : o.dst ≠ some d) (hv : inA v = true) (hm : R r m) (hk : Fr d v R K K') (h : vop P Snd all o (r.set d v) m K E) : vop P Snd all o r m K' E := by
  rw [ho] at hx
  have hf : f ≠ .tmp d := hx f (by simp [opnds])
  simp only [vop, ho] at h ⊢
  rw [vval_set hf, argsOf_set fun x hx' => hx x (by simp only [opnds]; exact List.mem_cons_of_mem _ hx')] at h
  split
  · rename_i e
    rw [e] at h
    simp only at h
    obtain ⟨ks, mv, Q, h⟩ := h
    refine ⟨ks, mv, Q, ?_⟩
    refine mono_vchk ?_ h
    simp only [fl_eq, fm_eq, fr_eq]
    rintro ⟨h1, h2⟩
    refine ⟨h1, fun o' hq => ?_⟩
    have h3 := h2 o' hq
    cases o' with
    | panic u m' => exact h3
    | ret u m' =>
      simp only [fv_eq, fm_eq] at h3 ⊢
      rw [set_map (fix_outn _ _ _) hv] at h3
      exact fr_vput hR hd (hR.call rfl _ _ _ _ _ _ _ _ _ h1 hm) hk h3
  · rename_i hn
    split at h
    · rename_i e; exact (hn _ _ _ e).elim
    · exact h

/-- An operation that does not look at slot d runs alike without it. -/
theorem vop_frame (hw : wKind o.op = true) (htg : ∀ t z x, o.op = .store t z x → ∀ r m, R r m → ∀ k off, vval r z = .lf (.ptr k off) → tg k) (hR : RR Snd R o.dst (isStore o.op) tg) (hx : ∀ x ∈ opnds o.op, x ≠ .tmp d) (hd : o.dst ≠ some d) (hv : inA v = true) (hm : R r m) (hk : Fr d v R K K') (h : vop P Snd all o (r.set d v) m K E) : vop P Snd all o r m K' E := by
  cases ho : o.op
  case assign x => exact fr_assign hR ho hx hd hv hm hk h
  case store t z x =>
    rw [ho] at hR
    exact fr_store (htg t z x ho) hR hm ho hx hv hk h
  case call c =>
    obtain ⟨callee, args, ats⟩ := c
    cases callee with
    | value f =>
      rw [ho] at hR
      exact fr_call hR ho hx hd hv hm hk h
    | invoke x n => rw [ho] at hw; cases hw
    | builtin b =>
      cases b
      case append => exact fr_append hR ho hx hd hv hm hk h
      all_goals (rw [ho] at hw; cases hw)
  all_goals (rw [ho] at hw; cases hw)

/-- what is without names stays -/
def KeepsR (dst : Option Nat) (r0 r : Regs) : Prop := ∀ t x, dst ≠ some t → r0[t]? = some x → inA x = true → r[t]? = some x
def Stay (kp : Prop) (pr : List Nat) (dst : Option Nat) (r0 : Regs) (m0 : Mem) (r : Regs) (m : Mem) : Prop := KeepsR dst r0 r ∧ (kp → Keeps pr m0 m)

theorem Stay.refl {kp : Prop} {pr : List Nat} (r : Regs) (m : Mem) : Stay kp pr dst r m r m := ⟨fun _ _ _ h _ => h, fun _ => .refl pr m⟩

theorem keepsR_map {r0 : Regs} {f : A0 → A0} (hf : Fixes f) (h : KeepsR dst r0 r) : KeepsR dst r0 (r.map (AV.map f)) := fun t x hd hx hi => by
  rw [List.getElem?_map, h t x hd hx hi, Option.map_some, inA_fix hf hi]

theorem Stay.rr {kp : Prop} {pr : List Nat} {r0 : Regs} {m0 : Mem} (hs : st = true → kp → ∀ k, tg k → k ∉ pr) (hS : kp → ∀ f xs sm Q, Snd f xs sm Q → sm = []) : RR Snd (Stay kp pr dst r0 m0) dst st tg where
  map := fun f r m hf h => ⟨keepsR_map hf h.1, fun hp => (h.2 hp).trans (.mmap hf m)⟩
  set := fun d' r m u hd h => ⟨fun t x ht hx hi => by
    rw [List.getElem?_set_ne (fun e => ht (by rw [hd, e]))]
    exact h.1 t x ht hx hi, h.2⟩
  mem := fun e r m k c htk h => ⟨h.1, fun hp => (h.2 hp).trans fun k' c' hpr hlt hc hi => by
    rw [mget_mset (fun e' => hs e hp k htk (by rw [← e']; exact hpr))]
    exact hc⟩
  call := fun _ r m m' ks mv d' f xs Q h1 h => by
    refine ⟨keepsR_map (fix_outn _ _ _) h.1, fun hp => (h.2 hp).trans fun k c hpr hlt hc hi => ?_⟩
    have hks := subM_nil (hS hp _ _ _ _ h1)
    subst hks
    refine mget_append ?_
    rw [mget_mmap, mget_leftM hlt hc, Option.map_some, inL_fix (fix_outn _ _ _) hi]

end

end Go.V
