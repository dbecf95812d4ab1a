/- V: operations in any order. Conditions: as each states. -/
import Derived.Test.YtimhjbihhchieaaVT
import Derived.Orders
namespace Go.V
set_option linter.unusedVariables false
set_option linter.unusedSimpArgs false

theorem clos_old : ∀ (l : List (List Nat)) (acc : List Nat) (j : Nat), j < acc.length → (clos l acc).getD j 0 = acc.getD j 0
  | [], acc, j, hj => rfl
  | ds :: l, acc, j, hj => by
    simp only [clos]
    rw [clos_old l _ j (by simp; omega)]
    simp [List.getD, List.getElem?_append_left hj]

theorem foldl_bit {acc : List Nat} {i : Nat} : ∀ (ds : List Nat) (b : Nat), (ds.foldl (fun b e => b ||| (1 <<< e) ||| acc.getD e 0) b).testBit i = true → b.testBit i = true ∨ ∃ e ∈ ds, e = i ∨ (acc.getD e 0).testBit i = true
  | [], b, h => .inl h
  | e :: ds, b, h => by
    rw [List.foldl_cons] at h
    rcases foldl_bit ds _ h with h | ⟨e', he, h⟩
    · rw [Nat.testBit_or, Nat.testBit_or, Bool.or_eq_true, Bool.or_eq_true] at h
      rcases h with (h | h) | h
      · exact .inl h
      · refine .inr ⟨e, by simp, .inl ?_⟩
        rw [Nat.one_shiftLeft, Nat.testBit_two_pow] at h
        simpa using h
      · exact .inr ⟨e, by simp, .inr h⟩
    · exact .inr ⟨e', by simp [he], h⟩

theorem clos_s {i : Nat} : ∀ (l : List (List Nat)) (acc : List Nat), upTo l acc.length = true → ∀ j, acc.length ≤ j → j < acc.length + l.length → ((clos l acc).getD j 0).testBit i = true →
    ∃ e ∈ l.getD (j - acc.length) [], e = i ∨ ((clos l acc).getD e 0).testBit i = true
  | [], acc, _, j, h1, h2, _ => by simp at h2; omega
  | ds :: l, acc, hu, j, h1, h2, h => by
    simp only [upTo, Bool.and_eq_true, List.all_eq_true] at hu
    simp only [clos] at h ⊢
    by_cases hj : j = acc.length
    · subst hj
      rw [clos_old l _ _ (by simp)] at h
      have : (acc ++ [ds.foldl (fun b e => b ||| (1 <<< e) ||| acc.getD e 0) 0]).getD acc.length 0 = ds.foldl (fun b e => b ||| (1 <<< e) ||| acc.getD e 0) 0 := by simp [List.getD]
      rw [this] at h
      rcases foldl_bit ds 0 h with h | ⟨e, he, h⟩
      · simp at h
      · refine ⟨e, by simpa using he, h.imp id fun h => ?_⟩
        have hlt : e < acc.length := by have := hu.1 e he; simpa [Nat.blt_eq] using this
        rw [clos_old l _ _ (by simp; omega)]
        simpa [List.getD, List.getElem?_append_left hlt] using h
    · have := clos_s l (acc ++ [ds.foldl (fun b e => b ||| (1 <<< e) ||| acc.getD e 0) 0]) (by simpa using hu.2) j (by simp; omega) (by simp at h2 ⊢; omega) h
      obtain ⟨e, he, h⟩ := this
      refine ⟨e, ?_, h⟩
      have e1 : j - acc.length = (j - (acc.length + 1)) + 1 := by omega
      rw [e1]
      simpa using he

def addL (L : Nat → Bool) (i : Nat) : Nat → Bool := fun k => Nat.beq k i || L k
theorem addL_comm (L : Nat → Bool) (i j : Nat) : addL (addL L i) j = addL (addL L j) i := by
  funext k
  simp only [addL, ← Bool.or_assoc, Bool.or_comm (Nat.beq k j)]
theorem addL_self (L : Nat → Bool) (i : Nat) : addL L i i = true := by simp only [addL, Nat.beq_refl, Bool.true_or]
theorem addL_of {L : Nat → Bool} {i k : Nat} (h : L k = true) : addL L i k = true := by simp only [addL, h, Bool.or_true]
theorem addL_ne {L : Nat → Bool} {i k : Nat} (h : k ≠ i) : addL L i k = L k := by simp only [addL, beqF h, Bool.false_or]
theorem addL_cases {L : Nat → Bool} {i k : Nat} (h : addL L i k = true) : k = i ∨ L k = true := by
  simp only [addL, Bool.or_eq_true] at h
  exact h.imp Nat.eq_of_beq_eq_true id

def Rdy (ds : List (List Nat)) (L : Nat → Bool) (i : Nat) : Prop := L i = false ∧ ∀ e ∈ ds.getD i [], L e = true

/-- every order, and what must hold in it -/
def vAny (P : Program) (Snd : SND) (all : List Oper) (ds : List (List Nat)) (pk : Nat → Bool) (pr : List Nat) (K : Regs → Mem → Prop) (E : AV → Mem → Prop) : Nat → (Nat → Bool) → Regs → Mem → Prop
  | 0, L, r, m => (∀ k, k < all.length → L k = true) ∧ K r m
  | f + 1, L, r, m => ((∀ i, i < all.length → ¬ Rdy ds L i) → K r m) ∧ ∀ i o, all[i]? = some o → Rdy ds L i → (pk i = true → calm P all o r m = true) ∧ (pk i = false → tgtOK pr r o = true) ∧ vopG P Snd all o r m (fun r m => vAny P Snd all ds pk pr K E f (addL L i) r m) E

/-- what an operation that gives a value asks, guard and all -/
def vF (P : Program) (all : List Oper) (o : Oper) (r : Regs) (m : Mem) (X : AV → Prop) : Prop := vguard all r o (vcalm P all o r m X) (X skipped)

section
variable {P : Program} {all : List Oper} {o p : Oper} {r r' : Regs} {m m' : Mem} {Snd : SND} {E : AV → Mem → Prop} {K : Regs → Mem → Prop}

theorem vopG_calm (h : calm P all o r m = true) (K : Regs → Mem → Prop) : vopG P Snd all o r m K E = vF P all o r m fun v => vput r m o.dst v K := by
  unfold vopG vF
  rw [vop_calm h]

theorem vguard_det {F G : (AV → Prop) → Prop} (hF : DetP F) (hG : DetP G) : DetP fun X => vguard all r o (F X) (G X) := by
  unfold vguard
  split
  · exact hF
  · split
    · split
      · rename_i t _
        split
        · cases t
          · exact hG
          · exact hF
        · cases t
          · exact hF
          · exact hG
      · exact hG
      · exact DetP.no
    · exact DetP.no

theorem vF_det : DetP (vF P all o r m) := vguard_det vcalm_det (DetP.ret skipped)

theorem tmpsOf_mem {t : Nat} : ∀ {l : List Operand}, Operand.tmp t ∈ l → t ∈ tmpsOf l
  | x :: l, h => by
    rcases List.mem_cons.1 h with rfl | h
    · simp [tmpsOf]
    · have := tmpsOf_mem h
      cases x <;> simp [tmpsOf, this]

/-- the same slots -/
def Same (all : List Oper) (o : Oper) (r r' : Regs) : Prop := ∀ t ∈ slots all o, r'[t]? = r[t]?

theorem slots_op {t : Nat} (h : t ∈ tmpsOf (opnds o.op)) : t ∈ slots all o := by
  unfold slots
  split
  · exact h
  · split
    · exact List.mem_cons_of_mem _ h
    · exact h

theorem Same.vval (h : Same all o r r') : ∀ x ∈ opnds o.op, V.vval r' x = V.vval r x := by
  intro x hx
  cases x with
  | tmp t =>
    have := h t (slots_op (tmpsOf_mem hx))
    show r'.getD t _ = r.getD t _
    simp only [List.getD, this]
  | _ => rfl

theorem Same.guard (h : Same all o r r') (X Y : Prop) : vguard all r' o X Y = vguard all r o X Y := by
  unfold vguard
  cases hg : o.guard with
  | none => rfl
  | some g =>
    obtain ⟨j, want⟩ := g
    simp only
    cases hd : (all[j]?).bind (·.dst) with
    | none => rfl
    | some d =>
      have : r'[d]? = r[d]? := h d (by unfold slots; rw [hg]; simp only [hd]; exact List.mem_cons_self)
      simp only [List.getD, this]

theorem vF_same (h : Same all o r r') (hm : ∀ t x k off, o.op = .load t x → vval r x = .lf (.ptr k off) → mget m' k = mget m k) (X : AV → Prop) : vF P all o r' m' X = vF P all o r m X := by
  unfold vF
  rw [h.guard, vcalm_agree ⟨h.vval, hm⟩]

theorem apart_s (h : apart all o p = true) {d : Nat} (hd : o.dst = some d) : d ∉ slots all p ∧ p.dst ≠ some d ∧ ∀ e, p.dst = some e → e ∉ slots all o := by
  unfold apart at h
  rw [hd] at h
  simp only [Bool.and_eq_true, Bool.not_eq_true'] at h
  obtain ⟨h1, h2⟩ := h
  refine ⟨fun hm => ?_, fun e => ?_, fun e he hm => ?_⟩
  · rw [List.contains_iff_mem.2 hm] at h1; cases h1
  · rw [e] at h2
    simp only [Nat.beq_refl, Bool.not_true, Bool.false_and] at h2
    cases h2
  · rw [he] at h2
    simp only [Bool.and_eq_true, Bool.not_eq_true'] at h2
    rw [List.contains_iff_mem.2 hm] at h2
    cases h2.2

theorem same_set {d : Nat} {v : AV} (h : d ∉ slots all p) : Same all p r (r.set d v) := fun t ht => List.getElem?_set_ne fun e => h (by rw [e]; exact ht)

theorem inSlots_s : ∀ {l : List Nat}, inSlots r l = true → ∀ t ∈ l, ∃ x, r[t]? = some x ∧ inA x = true
  | t :: l, h, u, hu => by
    simp only [inSlots, Bool.and_eq_true] at h
    rcases List.mem_cons.1 hu with rfl | hu
    · cases e : r[u]? with
      | none => rw [e] at h; cases h.1
      | some x => rw [e] at h; exact ⟨x, rfl, h.1⟩
    · exact inSlots_s h.2 u hu

/-- op i may wait: it is as good later -/
structure May (P : Program) (all : List Oper) (o : Oper) (v : AV) (nm : Bool) (ld : Prop) (pr : List Nat) (r : Regs) (m : Mem) : Prop where
  calm : calm P all o r m = true
  val : ∀ X : AV → Prop, X v → vF P all o r m X
  ins : nm = true → ∀ t ∈ slots all o, ∃ x, r[t]? = some x ∧ inA x = true
  obj : nm = true → ∀ t x k off, o.op = .load t x → vval r x = .lf (.ptr k off) → ld ∧ k ∈ pr ∧ k < 3000 ∧ ∃ c, mget m k = some c ∧ inL c = true

theorem May.move {v : AV} {nm : Bool} {ld : Prop} {pr : List Nat} (h : May P all o v nm ld pr r m) (hs : Same all o r r') (hm : ∀ t x k off, o.op = .load t x → vval r x = .lf (.ptr k off) → mget m' k = mget m k) : May P all o v nm ld pr r' m' where
  calm := by rw [calm_agree ⟨hs.vval, hm⟩]; exact h.calm
  val := fun X hx => by rw [vF_same hs hm]; exact h.val X hx
  ins := fun e t ht => by rw [hs t ht]; exact h.ins e t ht
  obj := fun e t x k off ho hx => by
    have hx' : vval r x = .lf (.ptr k off) := by rw [← hs.vval x (by rw [ho]; simp [opnds])]; exact hx
    rw [hm t x k off ho hx']
    exact h.obj e t x k off ho hx'

/-- how op p may come ahead of op o -/
def Ahead (all : List Oper) (o p : Oper) (calmP nm : Bool) : Prop :=
  apart all o p = true ∧ (calmP = true ∨ (nm = true ∧ wKind p.op = true))

theorem slots_tmp {d : Nat} (h : d ∉ slots all p) : ∀ x ∈ opnds p.op, x ≠ .tmp d := fun x hx e => h (slots_op (tmpsOf_mem (by rw [← e]; exact hx)))

theorem vguard_mono {X X' Y Y' : Prop} (hx : X → X') (hy : Y → Y') (h : vguard all r o X Y) : vguard all r o X' Y' := by
  unfold vguard at h ⊢
  split
  · rename_i e; rw [e] at h; exact hx h
  · rename_i j want e
    rw [e] at h
    simp only at h ⊢
    cases hd : (all[j]?).bind (·.dst) with
    | none => rw [hd] at h; exact h.elim
    | some d =>
      rw [hd] at h
      simp only at h ⊢
      split
      · rename_i t e
        rw [e] at h
        simp only at h ⊢
        cases want <;> cases t <;> first | exact hx h | exact hy h
      · rename_i e
        rw [e] at h
        exact hy h
      · rename_i n1 n2
        split at h
        · rename_i e; exact (n1 _ e).elim
        · rename_i e; exact (n2 _ e).elim
        · exact h

/-- One op ahead of a calm one. -/
theorem ahead_s {d : Nat} {v : AV} {calmP nm : Bool} {ld : Prop} {pr : List Nat} (hd : o.dst = some d) (hA : Ahead all o p calmP nm) (hmay : May P all o v nm ld pr r m) (hv : nm = true → inA v = true) (hfl : nm = true → ld → ∀ f xs sm Q, Snd f xs sm Q → sm = [])
    (hc : calmP = true → calm P all p (r.set d v) m = true) (ht : calmP = false → tgtOK pr (r.set d v) p = true) (h : vopG P Snd all p (r.set d v) m K E) {K' : Regs → Mem → Prop} (hk : ∀ r' m', May P all o v nm ld pr r' m' → K (r'.set d v) m' → K' r' m') :
    (calmP = true → calm P all p r m = true) ∧ (calmP = false → tgtOK pr r p = true) ∧ vopG P Snd all p r m K' E := by
  obtain ⟨ha, hA⟩ := hA
  obtain ⟨h1, h2, h3⟩ := apart_s ha hd
  have hsame : Same all p r (r.set d v) := same_set h1
  have htgt : tgtOK pr (r.set d v) p = tgtOK pr r p := by
    unfold tgtOK
    cases hop : p.op
    case store t z x =>
      simp only
      rw [vval_set (slots_tmp h1 z (by rw [hop]; simp [opnds]))]
    all_goals rfl
  cases hcp : calmP with
  | true =>
    have hc := hc hcp
    have hc' : calm P all p r m = true := by rw [← calm_agree (m' := m) (r' := r.set d v) ⟨hsame.vval, fun _ _ _ _ _ _ => rfl⟩]; exact hc
    refine ⟨fun _ => hc', (fun e => by cases e), ?_⟩
    rw [vopG_calm hc, vF_same hsame (fun _ _ _ _ _ _ => rfl)] at h
    rw [vopG_calm hc']
    obtain ⟨u, hu, hF⟩ := vF_det _ h
    refine hF _ ?_
    cases hpd : p.dst with
    | none =>
      rw [hpd] at hu
      exact hk _ _ hmay hu
    | some e =>
      rw [hpd] at hu
      rw [vput_some] at hu ⊢
      rw [List.set_comm _ _ (fun q => h2 (by rw [hpd, q]))] at hu
      exact hk _ _ (hmay.move (same_set (h3 e hpd)) fun _ _ _ _ _ _ => rfl) hu
  | false =>
    have ht := ht hcp
    rw [htgt] at ht
    refine ⟨(fun e => by cases e), fun _ => ht, ?_⟩
    rcases hA with hA | ⟨hnm, hw⟩
    · rw [hcp] at hA; cases hA
    have hRR : RR Snd (Stay ld pr p.dst r m) p.dst (isStore p.op) (fun k => k ∉ pr) := Stay.rr (fun _ _ k hk => hk) (hfl hnm)
    have hstay : ∀ r' m', Stay ld pr p.dst r m r' m' → May P all o v nm ld pr r' m' := fun r' m' hs => by
      refine hmay.move (fun t ht => ?_) (fun t x k off ho hx => ?_)
      · obtain ⟨x, hx, hi⟩ := hmay.ins hnm t ht
        rw [hx]
        exact hs.1 t x (fun e => h3 t e ht) hx hi
      · obtain ⟨hld, hpr, hlt, c, hc, hi⟩ := hmay.obj hnm t x k off ho hx
        rw [hc]
        exact hs.2 hld k c hpr hlt hc hi
    have hdst : ∀ {t z x}, p.op = .store t z x → p.dst = none ∨ True := fun _ => .inr trivial
    unfold vopG at h ⊢
    rw [hsame.guard] at h
    refine vguard_mono (fun h => ?_) (fun h => ?_) h
    · refine vop_frame hw (fun t z x hop r' m' hs k off hz => ?_) hRR (slots_tmp h1) h2 (hv hnm) (Stay.refl r m) (fun r' m' hs h => hk r' m' (hstay r' m' hs) h) h
      have hnone : p.dst = none := by
        cases e : p.dst with
        | none => rfl
        | some d' => simp only [vop, hop, e] at h
      have ht2 := ht
      unfold tgtOK at ht2
      rw [hop] at ht2
      simp only at ht2
      split at ht2
      · rename_i k0 off0 e0
        rw [Bool.and_eq_true, Bool.not_eq_true'] at ht2
        have hsame' : vval r' z = vval r z := by
          cases z with
          | tmp t =>
            have : r[t]? = some (.lf (.ptr k0 off0)) := by
              have e1 : r.getD t (.lf .undef) = .lf (.ptr k0 off0) := e0
              cases e2 : r[t]? with
              | none => rw [List.getD, e2] at e1; cases e1
              | some y => rw [List.getD, e2] at e1; simp only [Option.getD_some] at e1; rw [e1]
            have := hs.1 t _ (by rw [hnone]; simp) this (by simpa [inA, in0] using ht2.1)
            show r'.getD t _ = r.getD t _
            rw [List.getD, this]
            exact e0.symm
          | _ => rfl
        rw [hsame', e0] at hz
        cases hz
        intro hm
        rw [List.contains_iff_mem.2 hm] at ht2
        cases ht2.2
      · rw [List.isEmpty_iff] at ht2
        rw [ht2]
        simp
    · exact fr_vput hRR h2 (Stay.refl r m) (fun r' m' hs h => hk r' m' (hstay r' m' hs) h) h

end

section
variable {P : Program} {all : List Oper} {Snd : SND} {E : AV → Mem → Prop} {K : Regs → Mem → Prop} {pk : Nat → Bool}

def Cl (cl : List Nat) (L : Nat → Bool) : Prop := ∀ x, L x = true → ∀ i, waits cl x i = true → L i = true

theorem waits_dep (hu : upTo (all.map depsOf) 0 = true) {j i : Nat} (hj : j < all.length) (h : waits (clos (all.map depsOf) []) j i = true) : ∃ e ∈ (all.map depsOf).getD j [], e = i ∨ waits (clos (all.map depsOf) []) e i = true := by
  have := clos_s (all.map depsOf) [] hu j (Nat.zero_le j) (by simpa using hj) h
  exact this

theorem rdy_waits (hu : upTo (all.map depsOf) 0 = true) {L : Nat → Bool} (hcl : Cl (clos (all.map depsOf) []) L) {j i : Nat} (hj : j < all.length) (hr : Rdy (all.map depsOf) L j) (h : waits (clos (all.map depsOf) []) j i = true) : L i = true := by
  obtain ⟨e, he, h⟩ := waits_dep hu hj h
  rcases h with rfl | h
  · exact hr.2 _ he
  · exact hcl e (hr.2 e he) i h

theorem cl_add (hu : upTo (all.map depsOf) 0 = true) {L : Nat → Bool} (hcl : Cl (clos (all.map depsOf) []) L) {j : Nat} (hj : j < all.length) (hr : Rdy (all.map depsOf) L j) : Cl (clos (all.map depsOf) []) (addL L j) := by
  intro x hx i hw
  rcases addL_cases hx with rfl | hx
  · exact addL_of (rdy_waits hu hcl hj hr hw)
  · exact addL_of (hcl x hx i hw)

/-- A calm operation that is ready may be taken first. -/
theorem any_first (hu : upTo (all.map depsOf) 0 = true) {i d : Nat} {o : Oper} {v : AV} {nm : Bool} {ld : Prop} {pr : List Nat} (hpi : pk i = true) (ho : all[i]? = some o) (hd : o.dst = some d) (hv : nm = true → inA v = true) (hfl : nm = true → ld → ∀ f xs sm Q, Snd f xs sm Q → sm = [])
    {L0 : Nat → Bool} (hj : ∀ j p, all[j]? = some p → j ≠ i → L0 j = false → waits (clos (all.map depsOf) []) j i = false → Ahead all o p (pk j) nm) :
    ∀ (f : Nat) (L : Nat → Bool) (r : Regs) (m : Mem), (∀ k, L0 k = true → L k = true) → Cl (clos (all.map depsOf) []) L → Rdy (all.map depsOf) L i → May P all o v nm ld pr r m →
      vAny P Snd all (all.map depsOf) pk pr K E f (addL L i) (r.set d v) m → vAny P Snd all (all.map depsOf) pk pr K E (f + 1) L r m
  | f, L, r, m, hL, hcl, hr, hmay, h => by
    have hi : i < all.length := (List.getElem?_eq_some_iff.1 ho).1
    refine ⟨fun hn => (hn i hi hr).elim, fun j p hp hrj => ?_⟩
    have hjl : j < all.length := (List.getElem?_eq_some_iff.1 hp).1
    by_cases hji : j = i
    · subst hji
      rw [ho] at hp
      cases hp
      refine ⟨fun _ => hmay.calm, (fun e => by rw [hpi] at e; cases e), ?_⟩
      rw [vopG_calm hmay.calm]
      refine hmay.val _ ?_
      rw [hd, vput_some]
      exact h
    · have hL0 : L0 j = false := by
        cases e : L0 j with
        | false => rfl
        | true => have := hL j e; rw [hrj.1] at this; cases this
      have hw : waits (clos (all.map depsOf) []) j i = false := by
        cases e : waits (clos (all.map depsOf) []) j i with
        | false => rfl
        | true => have := rdy_waits hu hcl hjl hrj e; rw [hr.1] at this; cases this
      cases f with
      | zero =>
        have := h.1 j hjl
        rw [addL_ne hji, hrj.1] at this
        cases this
      | succ f =>
        have hrj' : Rdy (all.map depsOf) (addL L i) j := ⟨by rw [addL_ne hji]; exact hrj.1, fun e he => addL_of (hrj.2 e he)⟩
        obtain ⟨hc, htg, hv2⟩ := h.2 j p hp hrj'
        refine ahead_s hd (hj j p hp hji hL0 hw) hmay hv hfl hc htg hv2 ?_
        intro r' m' hmay' hk
        rw [addL_comm] at hk
        exact any_first hu hpi ho hd hv hfl hj f (addL L j) r' m' (fun k hk => addL_of (hL k hk)) (cl_add hu hcl hjl hrj)
          ⟨by rw [addL_ne (Ne.symm hji)]; exact hr.1, fun e he => addL_of (hr.2 e he)⟩ hmay' hk

end

end Go.V
