/- Texts of this claim, one after the other: the calculus V and the functions' contracts. Conditions: as each states. -/
import Derived.Test.YtimhjbihhchieaaDoorMProtocolBack4
import Derived.Orders
import Derived.Scope
import Derived.LoopN
namespace Go.V
set_option linter.unusedVariables false
set_option linter.unusedSimpArgs false

theorem clos_old : ∀ (l : List (List Nat)) (acc : List Nat) (j : Nat), j < acc.length → (clos l acc).getD j 0 = acc.getD j 0
  | [], acc, j, hj => rfl
  | ds :: l, acc, j, hj => by
    simp only [clos]
    rw [clos_old l _ j (by simp; omega)]
    simp [List.getD, List.getElem?_append_left hj]

theorem foldl_bit {acc : List Nat} {i : Nat} : ∀ (ds : List Nat) (b : Nat), (ds.foldl (fun b e => b ||| (1 <<< e) ||| acc.getD e 0) b).testBit i = true → b.testBit i = true ∨ ∃ e ∈ ds, e = i ∨ (acc.getD e 0).testBit i = true
  | [], b, h => .inl h
  | e :: ds, b, h => by
    rw [List.foldl_cons] at h
    rcases foldl_bit ds _ h with h | ⟨e', he, h⟩
    · rw [Nat.testBit_or, Nat.testBit_or, Bool.or_eq_true, Bool.or_eq_true] at h
      rcases h with (h | h) | h
      · exact .inl h
      · refine .inr ⟨e, by simp, .inl ?_⟩
        rw [Nat.one_shiftLeft, Nat.testBit_two_pow] at h
        simpa using h
      · exact .inr ⟨e, by simp, .inr h⟩
    · exact .inr ⟨e', by simp [he], h⟩

theorem clos_s {i : Nat} : ∀ (l : List (List Nat)) (acc : List Nat), upTo l acc.length = true → ∀ j, acc.length ≤ j → j < acc.length + l.length → ((clos l acc).getD j 0).testBit i = true →
    ∃ e ∈ l.getD (j - acc.length) [], e = i ∨ ((clos l acc).getD e 0).testBit i = true
  | [], acc, _, j, h1, h2, _ => by simp at h2; omega
  | ds :: l, acc, hu, j, h1, h2, h => by
    simp only [upTo, Bool.and_eq_true, List.all_eq_true] at hu
    simp only [clos] at h ⊢
    by_cases hj : j = acc.length
    · subst hj
      rw [clos_old l _ _ (by simp)] at h
      have : (acc ++ [ds.foldl (fun b e => b ||| (1 <<< e) ||| acc.getD e 0) 0]).getD acc.length 0 = ds.foldl (fun b e => b ||| (1 <<< e) ||| acc.getD e 0) 0 := by simp [List.getD]
      rw [this] at h
      rcases foldl_bit ds 0 h with h | ⟨e, he, h⟩
      · simp at h
      · refine ⟨e, by simpa using he, h.imp id fun h => ?_⟩
        have hlt : e < acc.length := by have := hu.1 e he; simpa [Nat.blt_eq] using this
        rw [clos_old l _ _ (by simp; omega)]
        simpa [List.getD, List.getElem?_append_left hlt] using h
    · have := clos_s l (acc ++ [ds.foldl (fun b e => b ||| (1 <<< e) ||| acc.getD e 0) 0]) (by simpa using hu.2) j (by simp; omega) (by simp at h2 ⊢; omega) h
      obtain ⟨e, he, h⟩ := this
      refine ⟨e, ?_, h⟩
      have e1 : j - acc.length = (j - (acc.length + 1)) + 1 := by omega
      rw [e1]
      simpa using he

def addL (L : Nat → Bool) (i : Nat) : Nat → Bool := fun k => Nat.beq k i || L k
theorem addL_comm (L : Nat → Bool) (i j : Nat) : addL (addL L i) j = addL (addL L j) i := by
  funext k
  simp only [addL, ← Bool.or_assoc, Bool.or_comm (Nat.beq k j)]
theorem addL_self (L : Nat → Bool) (i : Nat) : addL L i i = true := by simp only [addL, Nat.beq_refl, Bool.true_or]
theorem addL_of {L : Nat → Bool} {i k : Nat} (h : L k = true) : addL L i k = true := by simp only [addL, h, Bool.or_true]
theorem addL_ne {L : Nat → Bool} {i k : Nat} (h : k ≠ i) : addL L i k = L k := by simp only [addL, beqF h, Bool.false_or]
theorem addL_cases {L : Nat → Bool} {i k : Nat} (h : addL L i k = true) : k = i ∨ L k = true := by
  simp only [addL, Bool.or_eq_true] at h
  exact h.imp Nat.eq_of_beq_eq_true id

def Rdy (ds : List (List Nat)) (L : Nat → Bool) (i : Nat) : Prop := L i = false ∧ ∀ e ∈ ds.getD i [], L e = true

/-- every order, and what must hold in it -/
def vAny (P : Program) (Snd : SND) (all : List Oper) (ds : List (List Nat)) (pk : Nat → Bool) (pr : List Nat) (K : Regs → Mem → Prop) (E : AV → Mem → Prop) : Nat → (Nat → Bool) → Regs → Mem → Prop
  | 0, L, r, m => (∀ k, k < all.length → L k = true) ∧ K r m
  | f + 1, L, r, m => ((∀ i, i < all.length → ¬ Rdy ds L i) → K r m) ∧ ∀ i o, all[i]? = some o → Rdy ds L i → (pk i = true → calm P all o r m = true) ∧ (pk i = false → tgtOK pr r o = true) ∧ vopG P Snd all o r m (fun r m => vAny P Snd all ds pk pr K E f (addL L i) r m) E

/-- what an operation that gives a value asks, guard and all -/
def vF (P : Program) (all : List Oper) (o : Oper) (r : Regs) (m : Mem) (X : AV → Prop) : Prop := vguard all r o (vcalm P all o r m X) (X skipped)

section
variable {P : Program} {all : List Oper} {o p : Oper} {r r' : Regs} {m m' : Mem} {Snd : SND} {E : AV → Mem → Prop} {K : Regs → Mem → Prop}

theorem vopG_calm (h : calm P all o r m = true) (K : Regs → Mem → Prop) : vopG P Snd all o r m K E = vF P all o r m fun v => vput r m o.dst v K := by
  unfold vopG vF
  rw [vop_calm h]

theorem vguard_det {F G : (AV → Prop) → Prop} (hF : DetP F) (hG : DetP G) : DetP fun X => vguard all r o (F X) (G X) := by
  unfold vguard
  split
  · exact hF
  · split
    · split
      · rename_i t _
        split
        · cases t
          · exact hG
          · exact hF
        · cases t
          · exact hF
          · exact hG
      · exact hG
      · exact DetP.no
    · exact DetP.no

theorem vF_det : DetP (vF P all o r m) := vguard_det vcalm_det (DetP.ret skipped)

theorem tmpsOf_mem {t : Nat} : ∀ {l : List Operand}, Operand.tmp t ∈ l → t ∈ tmpsOf l
  | x :: l, h => by
    rcases List.mem_cons.1 h with rfl | h
    · simp [tmpsOf]
    · have := tmpsOf_mem h
      cases x <;> simp [tmpsOf, this]

/-- the same slots -/
def Same (all : List Oper) (o : Oper) (r r' : Regs) : Prop := ∀ t ∈ slots all o, r'[t]? = r[t]?

theorem slots_op {t : Nat} (h : t ∈ tmpsOf (opnds o.op)) : t ∈ slots all o := by
  unfold slots
  split
  · exact h
  · split
    · exact List.mem_cons_of_mem _ h
    · exact h

theorem Same.vval (h : Same all o r r') : ∀ x ∈ opnds o.op, V.vval r' x = V.vval r x := by
  intro x hx
  cases x with
  | tmp t =>
    have := h t (slots_op (tmpsOf_mem hx))
    show r'.getD t _ = r.getD t _
    simp only [List.getD, this]
  | _ => rfl

theorem Same.guard (h : Same all o r r') (X Y : Prop) : vguard all r' o X Y = vguard all r o X Y := by
  unfold vguard
  cases hg : o.guard with
  | none => rfl
  | some g =>
    obtain ⟨j, want⟩ := g
    simp only
    cases hd : (all[j]?).bind (·.dst) with
    | none => rfl
    | some d =>
      have : r'[d]? = r[d]? := h d (by unfold slots; rw [hg]; simp only [hd]; exact List.mem_cons_self)
      simp only [List.getD, this]

theorem vF_same (h : Same all o r r') (hm : ∀ t x k off, o.op = .load t x → vval r x = .lf (.ptr k off) → mget m' k = mget m k) (X : AV → Prop) : vF P all o r' m' X = vF P all o r m X := by
  unfold vF
  rw [h.guard, vcalm_agree ⟨h.vval, hm⟩]

theorem apart_s (h : apart all o p = true) {d : Nat} (hd : o.dst = some d) : d ∉ slots all p ∧ p.dst ≠ some d ∧ ∀ e, p.dst = some e → e ∉ slots all o := by
  unfold apart at h
  rw [hd] at h
  simp only [Bool.and_eq_true, Bool.not_eq_true'] at h
  obtain ⟨h1, h2⟩ := h
  refine ⟨fun hm => ?_, fun e => ?_, fun e he hm => ?_⟩
  · rw [List.contains_iff_mem.2 hm] at h1; cases h1
  · rw [e] at h2
    simp only [Nat.beq_refl, Bool.not_true, Bool.false_and] at h2
    cases h2
  · rw [he] at h2
    simp only [Bool.and_eq_true, Bool.not_eq_true'] at h2
    rw [List.contains_iff_mem.2 hm] at h2
    cases h2.2

theorem same_set {d : Nat} {v : AV} (h : d ∉ slots all p) : Same all p r (r.set d v) := fun t ht => List.getElem?_set_ne fun e => h (by rw [e]; exact ht)

theorem inSlots_s : ∀ {l : List Nat}, inSlots r l = true → ∀ t ∈ l, ∃ x, r[t]? = some x ∧ inA x = true
  | t :: l, h, u, hu => by
    simp only [inSlots, Bool.and_eq_true] at h
    rcases List.mem_cons.1 hu with rfl | hu
    · cases e : r[u]? with
      | none => rw [e] at h; cases h.1
      | some x => rw [e] at h; exact ⟨x, rfl, h.1⟩
    · exact inSlots_s h.2 u hu

/-- op i may wait: it is as good later -/
structure May (P : Program) (all : List Oper) (o : Oper) (v : AV) (nm : Bool) (ld : Prop) (pr : List Nat) (r : Regs) (m : Mem) : Prop where
  calm : calm P all o r m = true
  val : ∀ X : AV → Prop, X v → vF P all o r m X
  ins : nm = true → ∀ t ∈ slots all o, ∃ x, r[t]? = some x ∧ inA x = true
  obj : nm = true → ∀ t x k off, o.op = .load t x → vval r x = .lf (.ptr k off) → ld ∧ k ∈ pr ∧ k < 3000 ∧ ∃ c, mget m k = some c ∧ inL c = true

theorem May.move {v : AV} {nm : Bool} {ld : Prop} {pr : List Nat} (h : May P all o v nm ld pr r m) (hs : Same all o r r') (hm : ∀ t x k off, o.op = .load t x → vval r x = .lf (.ptr k off) → mget m' k = mget m k) : May P all o v nm ld pr r' m' where
  calm := by rw [calm_agree ⟨hs.vval, hm⟩]; exact h.calm
  val := fun X hx => by rw [vF_same hs hm]; exact h.val X hx
  ins := fun e t ht => by rw [hs t ht]; exact h.ins e t ht
  obj := fun e t x k off ho hx => by
    have hx' : vval r x = .lf (.ptr k off) := by rw [← hs.vval x (by rw [ho]; simp [opnds])]; exact hx
    rw [hm t x k off ho hx']
    exact h.obj e t x k off ho hx'

/-- how op p may come ahead of op o -/
def Ahead (all : List Oper) (o p : Oper) (calmP nm : Bool) : Prop :=
  apart all o p = true ∧ (calmP = true ∨ (nm = true ∧ wKind p.op = true))

theorem slots_tmp {d : Nat} (h : d ∉ slots all p) : ∀ x ∈ opnds p.op, x ≠ .tmp d := fun x hx e => h (slots_op (tmpsOf_mem (by rw [← e]; exact hx)))

theorem vguard_mono {X X' Y Y' : Prop} (hx : X → X') (hy : Y → Y') (h : vguard all r o X Y) : vguard all r o X' Y' := by
  unfold vguard at h ⊢
  split
  · rename_i e; rw [e] at h; exact hx h
  · rename_i j want e
    rw [e] at h
    simp only at h ⊢
    cases hd : (all[j]?).bind (·.dst) with
    | none => rw [hd] at h; exact h.elim
    | some d =>
      rw [hd] at h
      simp only at h ⊢
      split
      · rename_i t e
        rw [e] at h
        simp only at h ⊢
        cases want <;> cases t <;> first | exact hx h | exact hy h
      · rename_i e
        rw [e] at h
        exact hy h
      · rename_i n1 n2
        split at h
        · rename_i e; exact (n1 _ e).elim
        · rename_i e; exact (n2 _ e).elim
        · exact h

/-- One op ahead of a calm one. -/
theorem ahead_s {d : Nat} {v : AV} {calmP nm : Bool} {ld : Prop} {pr : List Nat} (hd : o.dst = some d) (hA : Ahead all o p calmP nm) (hmay : May P all o v nm ld pr r m) (hv : nm = true → inA v = true) (hfl : nm = true → ld → ∀ f xs sm Q, Snd f xs sm Q → sm = [])
    (hc : calmP = true → calm P all p (r.set d v) m = true) (ht : calmP = false → tgtOK pr (r.set d v) p = true) (h : vopG P Snd all p (r.set d v) m K E) {K' : Regs → Mem → Prop} (hk : ∀ r' m', May P all o v nm ld pr r' m' → K (r'.set d v) m' → K' r' m') :
    (calmP = true → calm P all p r m = true) ∧ (calmP = false → tgtOK pr r p = true) ∧ vopG P Snd all p r m K' E := by
  obtain ⟨ha, hA⟩ := hA
  obtain ⟨h1, h2, h3⟩ := apart_s ha hd
  have hsame : Same all p r (r.set d v) := same_set h1
  have htgt : tgtOK pr (r.set d v) p = tgtOK pr r p := by
    unfold tgtOK
    cases hop : p.op
    case store t z x =>
      simp only
      rw [vval_set (slots_tmp h1 z (by rw [hop]; simp [opnds]))]
    all_goals rfl
  cases hcp : calmP with
  | true =>
    have hc := hc hcp
    have hc' : calm P all p r m = true := by rw [← calm_agree (m' := m) (r' := r.set d v) ⟨hsame.vval, fun _ _ _ _ _ _ => rfl⟩]; exact hc
    refine ⟨fun _ => hc', (fun e => by cases e), ?_⟩
    rw [vopG_calm hc, vF_same hsame (fun _ _ _ _ _ _ => rfl)] at h
    rw [vopG_calm hc']
    obtain ⟨u, hu, hF⟩ := vF_det _ h
    refine hF _ ?_
    cases hpd : p.dst with
    | none =>
      rw [hpd] at hu
      exact hk _ _ hmay hu
    | some e =>
      rw [hpd] at hu
      rw [vput_some] at hu ⊢
      rw [List.set_comm _ _ (fun q => h2 (by rw [hpd, q]))] at hu
      exact hk _ _ (hmay.move (same_set (h3 e hpd)) fun _ _ _ _ _ _ => rfl) hu
  | false =>
    have ht := ht hcp
    rw [htgt] at ht
    refine ⟨(fun e => by cases e), fun _ => ht, ?_⟩
    rcases hA with hA | ⟨hnm, hw⟩
    · rw [hcp] at hA; cases hA
    have hRR : RR Snd (Stay ld pr p.dst r m) p.dst (isStore p.op) (fun k => k ∉ pr) := Stay.rr (fun _ _ k hk => hk) (hfl hnm)
    have hstay : ∀ r' m', Stay ld pr p.dst r m r' m' → May P all o v nm ld pr r' m' := fun r' m' hs => by
      refine hmay.move (fun t ht => ?_) (fun t x k off ho hx => ?_)
      · obtain ⟨x, hx, hi⟩ := hmay.ins hnm t ht
        rw [hx]
        exact hs.1 t x (fun e => h3 t e ht) hx hi
      · obtain ⟨hld, hpr, hlt, c, hc, hi⟩ := hmay.obj hnm t x k off ho hx
        rw [hc]
        exact hs.2 hld k c hpr hlt hc hi
    have hdst : ∀ {t z x}, p.op = .store t z x → p.dst = none ∨ True := fun _ => .inr trivial
    unfold vopG at h ⊢
    rw [hsame.guard] at h
    refine vguard_mono (fun h => ?_) (fun h => ?_) h
    · refine vop_frame hw (fun t z x hop r' m' hs k off hz => ?_) hRR (slots_tmp h1) h2 (hv hnm) (Stay.refl r m) (fun r' m' hs h => hk r' m' (hstay r' m' hs) h) h
      have hnone : p.dst = none := by
        cases e : p.dst with
        | none => rfl
        | some d' => simp only [vop, hop, e] at h
      have ht2 := ht
      unfold tgtOK at ht2
      rw [hop] at ht2
      simp only at ht2
      split at ht2
      · rename_i k0 off0 e0
        rw [Bool.and_eq_true, Bool.not_eq_true'] at ht2
        have hsame' : vval r' z = vval r z := by
          cases z with
          | tmp t =>
            have : r[t]? = some (.lf (.ptr k0 off0)) := by
              have e1 : r.getD t (.lf .undef) = .lf (.ptr k0 off0) := e0
              cases e2 : r[t]? with
              | none => rw [List.getD, e2] at e1; cases e1
              | some y => rw [List.getD, e2] at e1; simp only [Option.getD_some] at e1; rw [e1]
            have := hs.1 t _ (by rw [hnone]; simp) this (by simpa [inA, in0] using ht2.1)
            show r'.getD t _ = r.getD t _
            rw [List.getD, this]
            exact e0.symm
          | _ => rfl
        rw [hsame', e0] at hz
        cases hz
        intro hm
        rw [List.contains_iff_mem.2 hm] at ht2
        cases ht2.2
      · rw [List.isEmpty_iff] at ht2
        rw [ht2]
        simp
    · exact fr_vput hRR h2 (Stay.refl r m) (fun r' m' hs h => hk r' m' (hstay r' m' hs) h) h

end

section
variable {P : Program} {all : List Oper} {Snd : SND} {E : AV → Mem → Prop} {K : Regs → Mem → Prop} {pk : Nat → Bool}

def Cl (cl : List Nat) (L : Nat → Bool) : Prop := ∀ x, L x = true → ∀ i, waits cl x i = true → L i = true

theorem waits_dep (hu : upTo (all.map depsOf) 0 = true) {j i : Nat} (hj : j < all.length) (h : waits (clos (all.map depsOf) []) j i = true) : ∃ e ∈ (all.map depsOf).getD j [], e = i ∨ waits (clos (all.map depsOf) []) e i = true := by
  have := clos_s (all.map depsOf) [] hu j (Nat.zero_le j) (by simpa using hj) h
  exact this

theorem rdy_waits (hu : upTo (all.map depsOf) 0 = true) {L : Nat → Bool} (hcl : Cl (clos (all.map depsOf) []) L) {j i : Nat} (hj : j < all.length) (hr : Rdy (all.map depsOf) L j) (h : waits (clos (all.map depsOf) []) j i = true) : L i = true := by
  obtain ⟨e, he, h⟩ := waits_dep hu hj h
  rcases h with rfl | h
  · exact hr.2 _ he
  · exact hcl e (hr.2 e he) i h

theorem cl_add (hu : upTo (all.map depsOf) 0 = true) {L : Nat → Bool} (hcl : Cl (clos (all.map depsOf) []) L) {j : Nat} (hj : j < all.length) (hr : Rdy (all.map depsOf) L j) : Cl (clos (all.map depsOf) []) (addL L j) := by
  intro x hx i hw
  rcases addL_cases hx with rfl | hx
  · exact addL_of (rdy_waits hu hcl hj hr hw)
  · exact addL_of (hcl x hx i hw)

/-- A calm operation that is ready may be taken first. -/
theorem any_first (hu : upTo (all.map depsOf) 0 = true) {i d : Nat} {o : Oper} {v : AV} {nm : Bool} {ld : Prop} {pr : List Nat} (hpi : pk i = true) (ho : all[i]? = some o) (hd : o.dst = some d) (hv : nm = true → inA v = true) (hfl : nm = true → ld → ∀ f xs sm Q, Snd f xs sm Q → sm = [])
    {L0 : Nat → Bool} (hj : ∀ j p, all[j]? = some p → j ≠ i → L0 j = false → waits (clos (all.map depsOf) []) j i = false → Ahead all o p (pk j) nm) :
    ∀ (f : Nat) (L : Nat → Bool) (r : Regs) (m : Mem), (∀ k, L0 k = true → L k = true) → Cl (clos (all.map depsOf) []) L → Rdy (all.map depsOf) L i → May P all o v nm ld pr r m →
      vAny P Snd all (all.map depsOf) pk pr K E f (addL L i) (r.set d v) m → vAny P Snd all (all.map depsOf) pk pr K E (f + 1) L r m
  | f, L, r, m, hL, hcl, hr, hmay, h => by
    have hi : i < all.length := (List.getElem?_eq_some_iff.1 ho).1
    refine ⟨fun hn => (hn i hi hr).elim, fun j p hp hrj => ?_⟩
    have hjl : j < all.length := (List.getElem?_eq_some_iff.1 hp).1
    by_cases hji : j = i
    · subst hji
      rw [ho] at hp
      cases hp
      refine ⟨fun _ => hmay.calm, (fun e => by rw [hpi] at e; cases e), ?_⟩
      rw [vopG_calm hmay.calm]
      refine hmay.val _ ?_
      rw [hd, vput_some]
      exact h
    · have hL0 : L0 j = false := by
        cases e : L0 j with
        | false => rfl
        | true => have := hL j e; rw [hrj.1] at this; cases this
      have hw : waits (clos (all.map depsOf) []) j i = false := by
        cases e : waits (clos (all.map depsOf) []) j i with
        | false => rfl
        | true => have := rdy_waits hu hcl hjl hrj e; rw [hr.1] at this; cases this
      cases f with
      | zero =>
        have := h.1 j hjl
        rw [addL_ne hji, hrj.1] at this
        cases this
      | succ f =>
        have hrj' : Rdy (all.map depsOf) (addL L i) j := ⟨by rw [addL_ne hji]; exact hrj.1, fun e he => addL_of (hrj.2 e he)⟩
        obtain ⟨hc, htg, hv2⟩ := h.2 j p hp hrj'
        refine ahead_s hd (hj j p hp hji hL0 hw) hmay hv hfl hc htg hv2 ?_
        intro r' m' hmay' hk
        rw [addL_comm] at hk
        exact any_first hu hpi ho hd hv hfl hj f (addL L j) r' m' (fun k hk => addL_of (hL k hk)) (cl_add hu hcl hjl hrj)
          ⟨by rw [addL_ne (Ne.symm hji)]; exact hr.1, fun e he => addL_of (hr.2 e he)⟩ hmay' hk

end

end Go.V

namespace Go.V
set_option linter.unusedVariables false
set_option linter.unusedSimpArgs false

section
variable {P : Program} {all : List Oper} {Snd : SND} {E : AV → Mem → Prop} {K : Regs → Mem → Prop} {pk : Nat → Bool} {fl : Bool}

theorem contains_cons (i : Nat) (L : List Nat) : (fun k => (i :: L).contains k) = addL (fun k => L.contains k) i := by
  funext k
  simp only [addL, List.contains_cons]
  congr 1
  cases e : Nat.beq k i with
  | true => simp [Nat.eq_of_beq_eq_true e]
  | false =>
    have : k ≠ i := fun e' => by rw [e', Nat.beq_refl] at e; cases e
    simpa using this

theorem all_deps {ds : List (List Nat)} {L : List Nat} {j : Nat} : ((ds.getD j []).all (L.contains ·)) = true ↔ ∀ e ∈ ds.getD j [], (fun k => L.contains k) e = true := by
  rw [List.all_eq_true]

theorem getD_slot {r : Regs} {d : Nat} {v : AV} (h : inDst (r.set d v) (some d) = true) : inA v = true := by
  unfold inDst at h
  by_cases hlt : d < r.length
  · simpa [hlt] using h
  · simp [hlt] at h

def topTmp : List Operand → Nat
  | [] => 0
  | .tmp t :: l => (t + 1) + topTmp l
  | _ :: l => topTmp l
theorem topTmp_s {d : Nat} : ∀ {l : List Operand}, topTmp l ≤ d → ∀ x ∈ l, x ≠ .tmp d
  | x :: l, h, y, hy => by
    have hl : topTmp l ≤ topTmp (x :: l) := by
      cases x with
      | tmp t => exact Nat.le_add_left _ _
      | _ => exact Nat.le_refl _
    rcases List.mem_cons.1 hy with rfl | hy
    · intro e
      subst e
      have : (d + 1) + topTmp l ≤ d := h
      exact absurd this (by omega)
    · exact topTmp_s (Nat.le_trans hl h) y hy

theorem short_rr (n : Nat) (dst : Option Nat) (st : Bool) : RR Snd (fun r _ => r.length ≤ n) dst st (fun _ => True) where
  map := fun f r m hf h => by simpa using h
  set := fun d' r m u hd h => by simpa using h
  mem := fun _ r m k c _ h => h
  call := fun _ r m m' ks mv d' f xs Q h1 h => by simpa using h

theorem vop_mono {o : Oper} {r : Regs} {m : Mem} {K' : Regs → Mem → Prop} (hw : (wKind o.op || calm P all o r m) = true) (hk : ∀ r m, K r m → K' r m) (h : vop P Snd all o r m K E) : vop P Snd all o r m K' E := by
  cases hw' : wKind o.op with
  | true =>
    let d := r.length + topTmp (opnds o.op) + (match o.dst with | some d => d + 1 | none => 0)
    have hd : o.dst ≠ some d := fun e => by
      have : d = r.length + topTmp (opnds o.op) + (match o.dst with | some d => d + 1 | none => 0) := rfl
      rw [e] at this
      simp only at this
      omega
    have hset : r.set d (.lf .undef) = r := List.set_eq_of_length_le (by show r.length ≤ _; omega)
    have := vop_frame (P := P) (Snd := Snd) (E := E) (all := all) (m := m) (r := r) (K := K) (K' := K') (d := d) (v := .lf .undef) (R := fun r _ => r.length ≤ d) (tg := fun _ => True) hw' (fun _ _ _ _ _ _ _ _ _ _ => trivial) (short_rr d _ _) (topTmp_s (by show _ ≤ d; omega)) hd rfl (by show r.length ≤ d; omega)
      (fun r' m' hle h => by rw [List.set_eq_of_length_le hle] at h; exact hk _ _ h)
    rw [hset] at this
    exact this h
  | false =>
    rw [hw', Bool.false_or] at hw
    rw [vop_calm hw] at h ⊢
    obtain ⟨u, hu, hF⟩ := vcalm_det _ h
    refine hF _ ?_
    cases hd : o.dst with
    | none => rw [hd] at hu; exact hk _ _ hu
    | some d =>
      rw [hd] at hu
      rw [vput_some] at hu ⊢
      exact hk _ _ hu

theorem vopG_mono {o : Oper} {r : Regs} {m : Mem} {K' : Regs → Mem → Prop} (hw : (wKind o.op || calm P all o r m) = true) (hk : ∀ r m, K r m → K' r m) (h : vopG P Snd all o r m K E) : vopG P Snd all o r m K' E := by
  unfold vopG at h ⊢
  refine vguard_mono (fun h => vop_mono hw hk h) (fun h => ?_) h
  cases hd : o.dst with
  | none => rw [hd] at h; exact hk _ _ h
  | some d =>
    rw [hd] at h
    rw [vput_some] at h ⊢
    exact hk _ _ h

theorem plan_any {pr : List Nat} (hu : upTo (all.map depsOf) 0 = true) (hS : fl = true → ∀ f xs sm Q, Snd f xs sm Q → sm = []) :
    ∀ (plan : List (Nat × Nat)) (L : List Nat) (r : Regs) (m : Mem), planGo all (all.map depsOf) (clos (all.map depsOf) []) pk L plan = true → Cl (clos (all.map depsOf) []) (fun k => L.contains k) →
      vplan P Snd all fl pr plan r m K E → vAny P Snd all (all.map depsOf) pk pr K E plan.length (fun k => L.contains k) r m
  | [], L, r, m, hg, hcl, hv => by
    refine ⟨fun k hk => ?_, hv⟩
    simp only [planGo, List.all_eq_true] at hg
    exact hg k (List.mem_range.2 hk)
  | (i, md) :: rest, L, r, m, hg, hcl, hv => by
    simp only [planGo, Bool.and_eq_true] at hg
    obtain ⟨⟨hmd, hs⟩, hg⟩ := hg
    cases ho : all[i]? with
    | none => simp [stepOK, ho] at hs
    | some o =>
      have hi : i < all.length := (List.getElem?_eq_some_iff.1 ho).1
      simp only [stepOK, ho, Bool.and_eq_true, List.all_eq_true, Bool.or_eq_true, Bool.not_eq_true'] at hs
      obtain ⟨⟨⟨⟨hpk, hun⟩, hdep⟩, hdst⟩, hall⟩ := hs
      have hr : Rdy (all.map depsOf) (fun k => L.contains k) i := ⟨hun, fun e he => hdep e he⟩
      have hcl' : Cl (clos (all.map depsOf) []) (fun k => (i :: L).contains k) := by rw [contains_cons]; exact cl_add hu hcl hi hr
      have ih := fun r m hv => plan_any (pr := pr) hu hS rest (i :: L) r m hg hcl' hv
      rw [contains_cons] at ih
      simp only [vplan, ho] at hv
      match md, hmd with
      | 0, _ =>
        have hpk : pk i = false := by
          cases e : pk i
          · rfl
          · rw [e] at hpk; cases hpk
        simp only at hv
        obtain ⟨hw, hv⟩ := chk hv
        rw [Bool.and_eq_true] at hw
        refine ⟨fun hn => (hn i hi hr).elim, fun j p hp hrj => ?_⟩
        have hjl : j < all.length := (List.getElem?_eq_some_iff.1 hp).1
        by_cases hji : j = i
        · subst hji
          rw [ho] at hp
          cases hp
          exact ⟨fun e => (by rw [hpk] at e; cases e), fun _ => hw.2, vopG_mono hw.1 ih hv⟩
        · rcases hall j (List.mem_range.2 hjl) with (e | e) | e
          · exact (hji (Nat.eq_of_beq_eq_true e)).elim
          · have h1 : L.contains j = false := hrj.1
            rw [e] at h1; cases h1
          · simp only [Bool.not_eq_true'] at e
            rw [all_deps.2 hrj.2] at e
            cases e
      | 1, _ =>
        simp only at hv
        obtain ⟨hcalm, hv⟩ := chk hv
        obtain ⟨d, hd⟩ : ∃ d, o.dst = some d := by
          rcases hdst with e | e
          · cases e
          · exact Option.isSome_iff_exists.1 e
        have hpi : pk i = true := by
          cases e : pk i
          · rw [e] at hpk; cases hpk
          · rfl
        rw [vopG_calm hcalm] at hv
        obtain ⟨v, hv, hF⟩ := vF_det _ hv
        rw [hd, vput_some] at hv
        refine any_first hu (nm := false) (ld := False) hpi ho hd (fun e => by cases e) (fun e => by cases e) (L0 := fun k => L.contains k) (fun j p hp hji hL hw => ?_) rest.length _ r m (fun _ h => h) hcl hr ⟨hcalm, hF, (fun e => by cases e), (fun e => by cases e)⟩ (ih _ _ hv)
        have hjl : j < all.length := (List.getElem?_eq_some_iff.1 hp).1
        rcases hall j (List.mem_range.2 hjl) with (e | e) | e
        · exact (hji (Nat.eq_of_beq_eq_true e)).elim
        · have hL : L.contains j = false := hL; rw [e] at hL; cases hL
        · simp only [hw, hp, Bool.false_or, Bool.and_eq_true] at e
          refine ⟨e.1, .inl ?_⟩
          simpa using e.2
      | 2, _ =>
        simp only at hv
        obtain ⟨hcalm, hv⟩ := chk hv
        rw [Bool.and_eq_true, Bool.and_eq_true] at hcalm
        obtain ⟨⟨hcalm, hins⟩, hobj⟩ := hcalm
        obtain ⟨d, hd⟩ : ∃ d, o.dst = some d := by
          rcases hdst with e | e
          · cases e
          · exact Option.isSome_iff_exists.1 e
        have hpi : pk i = true := by
          cases e : pk i
          · rw [e] at hpk; cases hpk
          · rfl
        rw [vopG_calm hcalm] at hv
        obtain ⟨v, hv, hF⟩ := vF_det _ hv
        rw [hd, vput_some] at hv
        obtain ⟨hin, hv⟩ := chk hv
        have hfin : ∀ v', inA v' = true → (∀ X : AV → Prop, X v' → vF P all o r m X) → vplan P Snd all fl pr rest (r.set d v') m K E → vAny P Snd all (all.map depsOf) pk pr K E (rest.length + 1) (fun k => L.contains k) r m := by
          intro v' hv' hF' hpl
          refine any_first hu (nm := true) (ld := fl = true) hpi ho hd (fun _ => hv') (fun _ hl => hS hl) (L0 := fun k => L.contains k) (fun j p hp hji hL hw => ?_) rest.length _ r m (fun _ h => h) hcl hr ⟨hcalm, hF', fun _ => inSlots_s hins, fun _ t x k off hop hx => ?_⟩ (ih _ _ hpl)
          · have hjl : j < all.length := (List.getElem?_eq_some_iff.1 hp).1
            rcases hall j (List.mem_range.2 hjl) with (e | e) | e
            · exact (hji (Nat.eq_of_beq_eq_true e)).elim
            · have hL : L.contains j = false := hL; rw [e] at hL; cases hL
            · simp only [hw, hp, Bool.false_or, Bool.and_eq_true, Bool.or_eq_true] at e
              exact ⟨e.1, e.2.imp id fun ⟨_, e1⟩ => ⟨rfl, e1⟩⟩
          · unfold objOK at hobj
            rw [hop] at hobj
            simp only [hx, Bool.and_eq_true] at hobj
            obtain ⟨⟨⟨g1, g2⟩, g3⟩, g4⟩ := hobj
            refine ⟨g1, List.contains_iff_mem.1 g2, by simpa [Nat.blt_eq] using g3, ?_⟩
            cases hm : mget m k with
            | none => rw [hm] at g4; cases g4
            | some c => rw [hm] at g4; exact ⟨c, rfl, g4⟩
        exact hfin v (getD_slot hin) hF hv
      | n + 3, h => exact absurd (Nat.le_of_ble_eq_true h) (by omega)

/-- as vAny, but the next operation is none of X -/
def vAnyX (P : Program) (Snd : SND) (all : List Oper) (ds : List (List Nat)) (pk : Nat → Bool) (pr : List Nat) (K : Regs → Mem → Prop) (E : AV → Mem → Prop) (f : Nat) (L : Nat → Bool) (X : List Nat) (r : Regs) (m : Mem) : Prop :=
  match f with
  | 0 => (∀ k, k < all.length → L k = true) ∧ K r m
  | f + 1 => ((∀ i, i < all.length → ¬ Rdy ds L i) → K r m) ∧ ∀ i o, all[i]? = some o → Rdy ds L i → X.contains i = false → (pk i = true → calm P all o r m = true) ∧ (pk i = false → tgtOK pr r o = true) ∧ vopG P Snd all o r m (fun r m => vAny P Snd all ds pk pr K E f (addL L i) r m) E
theorem vAnyX_of {ds : List (List Nat)} {pr : List Nat} {f : Nat} {L : Nat → Bool} {X : List Nat} {r : Regs} {m : Mem} (h : vAny P Snd all ds pk pr K E f L r m) : vAnyX P Snd all ds pk pr K E f L X r m := by
  cases f with
  | zero => exact h
  | succ f => exact ⟨h.1, fun i o ho hr _ => h.2 i o ho hr⟩
theorem vAnyX_nil {ds : List (List Nat)} {pr : List Nat} {f : Nat} {L : Nat → Bool} {r : Regs} {m : Mem} (h : vAnyX P Snd all ds pk pr K E f L [] r m) : vAny P Snd all ds pk pr K E f L r m := by
  cases f with
  | zero => exact h
  | succ f => exact ⟨h.1, fun i o ho hr => h.2 i o ho hr rfl⟩

theorem calm_tgt {o : Oper} {pr : List Nat} {r : Regs} {m : Mem} (h : calm P all o r m = true) : tgtOK pr r o = true := by
  unfold tgtOK
  cases ho : o.op <;> first | rfl | (unfold calm at h; rw [ho] at h; cases h)
theorem vturn_s {o : Oper} {pr : List Nat} {r : Regs} {m : Mem} {i md : Nat} (hpk : (Nat.beq md 0 != pk i) = true) (h : vturn P all pr md o r m = true) : (wKind o.op || calm P all o r m) = true ∧ (pk i = true → calm P all o r m = true) ∧ (pk i = false → tgtOK pr r o = true) := by
  cases md with
  | zero =>
    have e : pk i = false := by
      cases e : pk i
      · rfl
      · rw [e] at hpk; cases hpk
    simp only [vturn, Bool.and_eq_true] at h
    exact ⟨h.1, fun e' => (by rw [e] at e'; cases e'), fun _ => h.2⟩
  | succ n =>
    have h : calm P all o r m = true := h
    exact ⟨by rw [h, Bool.or_true], fun _ => h, fun _ => calm_tgt h⟩
theorem plan_anyT {pr : List Nat} (hu : upTo (all.map depsOf) 0 = true) (hS : fl = true → ∀ f xs sm Q, Snd f xs sm Q → sm = []) :
    ∀ (plan : PT) (fu : Nat) (L X : List Nat) (r : Regs) (m : Mem), plan.depth ≤ fu → planGoT all (all.map depsOf) (clos (all.map depsOf) []) pk L X plan = true → Cl (clos (all.map depsOf) []) (fun k => L.contains k) →
      vplanT P Snd all fl pr plan r m K E → vAnyX P Snd all (all.map depsOf) pk pr K E fu (fun k => L.contains k) X r m
  | .nil, fu, L, X, r, m, hfu, hg, hcl, hv => by
    have hdone : ∀ k, k < all.length → L.contains k = true := fun k hk => by
      simp only [planGoT, List.all_eq_true] at hg
      exact hg k (List.mem_range.2 hk)
    cases fu with
    | zero => exact ⟨hdone, hv⟩
    | succ fu =>
      refine ⟨fun _ => hv, fun i o ho hr _ => ?_⟩
      have h1 : L.contains i = false := hr.1
      rw [hdone i (List.getElem?_eq_some_iff.1 ho).1] at h1
      cases h1
  | .alt i md p q, fu, L, X, r, m, hfu, hg, hcl, hv => by
    simp only [PT.depth] at hfu
    obtain ⟨fu, rfl⟩ : ∃ g, fu = g + 1 := ⟨fu - 1, by omega⟩
    simp only [planGoT, Bool.and_eq_true, Bool.not_eq_true'] at hg
    obtain ⟨⟨⟨⟨⟨hso, hpk⟩, hun⟩, hdep⟩, hg1⟩, hg2⟩ := hg
    obtain ⟨o, ho⟩ := Option.isSome_iff_exists.1 hso
    have hi : i < all.length := (List.getElem?_eq_some_iff.1 ho).1
    have hr : Rdy (all.map depsOf) (fun k => L.contains k) i := ⟨hun, fun e he => List.all_eq_true.1 hdep e he⟩
    have hcl' : Cl (clos (all.map depsOf) []) (fun k => (i :: L).contains k) := by rw [contains_cons]; exact cl_add hu hcl hi hr
    simp only [vplanT, ho] at hv
    obtain ⟨hv1, hv2⟩ := hv
    obtain ⟨hw, hv1⟩ := chk hv1
    obtain ⟨hw1, hw2, hw3⟩ := vturn_s hpk hw
    have ih1 := fun r m hv => vAnyX_nil (plan_anyT (pr := pr) hu hS p fu (i :: L) [] r m (by omega) hg1 hcl' hv)
    rw [contains_cons] at ih1
    have ih2 := plan_anyT (pr := pr) hu hS q (fu + 1) L (i :: X) r m (by omega) hg2 hcl hv2
    refine ⟨ih2.1, fun j o' hj hrj hx => ?_⟩
    by_cases hji : j = i
    · subst hji
      rw [ho] at hj
      cases hj
      exact ⟨hw2, hw3, vopG_mono hw1 ih1 hv1⟩
    · refine ih2.2 j o' hj hrj ?_
      rw [List.contains_cons, hx, Bool.or_false, beq_eq_false_iff_ne]
      exact hji
  | .st i md rest, fu, L, X, r, m, hfu, hg, hcl, hv => by
    simp only [PT.depth] at hfu
    obtain ⟨fu, rfl⟩ : ∃ g, fu = g + 1 := ⟨fu - 1, by omega⟩
    simp only [planGoT, Bool.and_eq_true] at hg
    obtain ⟨⟨hmd, hs⟩, hg⟩ := hg
    cases ho : all[i]? with
    | none => simp [stepOKT, ho] at hs
    | some o =>
      have hi : i < all.length := (List.getElem?_eq_some_iff.1 ho).1
      simp only [stepOKT, ho, Bool.and_eq_true, List.all_eq_true, Bool.or_eq_true, Bool.not_eq_true'] at hs
      obtain ⟨⟨⟨⟨hpk, hun⟩, hdep⟩, hdst⟩, hall⟩ := hs
      have hr : Rdy (all.map depsOf) (fun k => L.contains k) i := ⟨hun, fun e he => hdep e he⟩
      have hcl' : Cl (clos (all.map depsOf) []) (fun k => (i :: L).contains k) := by rw [contains_cons]; exact cl_add hu hcl hi hr
      have ih := fun r m hv => vAnyX_nil (plan_anyT (pr := pr) hu hS rest fu (i :: L) [] r m (by omega) hg hcl' hv)
      rw [contains_cons] at ih
      simp only [vplanT, ho] at hv
      match md, hmd with
      | 0, _ =>
        have hpk : pk i = false := by
          cases e : pk i
          · rfl
          · rw [e] at hpk; cases hpk
        simp only at hv
        obtain ⟨hw, hv⟩ := chk hv
        rw [Bool.and_eq_true] at hw
        refine ⟨fun hn => (hn i hi hr).elim, fun j p hp hrj hx => ?_⟩
        have hjl : j < all.length := (List.getElem?_eq_some_iff.1 hp).1
        by_cases hji : j = i
        · subst hji
          rw [ho] at hp
          cases hp
          exact ⟨fun e => (by rw [hpk] at e; cases e), fun _ => hw.2, vopG_mono hw.1 ih hv⟩
        · rcases hall j (List.mem_range.2 hjl) with (e | e) | e
          · exact (hji (Nat.eq_of_beq_eq_true e)).elim
          · have h1 : L.contains j = false := hrj.1
            rw [e] at h1; cases h1
          · simp only [Bool.or_eq_true] at e
            rcases e with e | e
            · rw [hx] at e; cases e
            · simp only [Bool.not_eq_true'] at e
              rw [all_deps.2 hrj.2] at e
              cases e
      | 1, _ =>
        simp only at hv
        obtain ⟨hcalm, hv⟩ := chk hv
        obtain ⟨d, hd⟩ : ∃ d, o.dst = some d := by
          rcases hdst with e | e
          · cases e
          · exact Option.isSome_iff_exists.1 e
        have hpi : pk i = true := by
          cases e : pk i
          · rw [e] at hpk; cases hpk
          · rfl
        rw [vopG_calm hcalm] at hv
        obtain ⟨v, hv, hF⟩ := vF_det _ hv
        rw [hd, vput_some] at hv
        refine vAnyX_of (any_first hu (nm := false) (ld := False) hpi ho hd (fun e => by cases e) (fun e => by cases e) (L0 := fun k => L.contains k) (fun j p hp hji hL hw => ?_) fu _ r m (fun _ h => h) hcl hr ⟨hcalm, hF, (fun e => by cases e), (fun e => by cases e)⟩ (ih _ _ hv))
        have hjl : j < all.length := (List.getElem?_eq_some_iff.1 hp).1
        rcases hall j (List.mem_range.2 hjl) with (e | e) | e
        · exact (hji (Nat.eq_of_beq_eq_true e)).elim
        · have hL : L.contains j = false := hL; rw [e] at hL; cases hL
        · simp only [hw, hp, Bool.false_or, Bool.and_eq_true] at e
          refine ⟨e.1, .inl ?_⟩
          simpa using e.2
      | 2, _ =>
        simp only at hv
        obtain ⟨hcalm, hv⟩ := chk hv
        rw [Bool.and_eq_true, Bool.and_eq_true] at hcalm
        obtain ⟨⟨hcalm, hins⟩, hobj⟩ := hcalm
        obtain ⟨d, hd⟩ : ∃ d, o.dst = some d := by
          rcases hdst with e | e
          · cases e
          · exact Option.isSome_iff_exists.1 e
        have hpi : pk i = true := by
          cases e : pk i
          · rw [e] at hpk; cases hpk
          · rfl
        rw [vopG_calm hcalm] at hv
        obtain ⟨v, hv, hF⟩ := vF_det _ hv
        rw [hd, vput_some] at hv
        obtain ⟨hin, hv⟩ := chk hv
        have hfin : ∀ v', inA v' = true → (∀ X : AV → Prop, X v' → vF P all o r m X) → vplanT P Snd all fl pr rest (r.set d v') m K E → vAny P Snd all (all.map depsOf) pk pr K E (fu + 1) (fun k => L.contains k) r m := by
          intro v' hv' hF' hpl
          refine any_first hu (nm := true) (ld := fl = true) hpi ho hd (fun _ => hv') (fun _ hl => hS hl) (L0 := fun k => L.contains k) (fun j p hp hji hL hw => ?_) fu _ r m (fun _ h => h) hcl hr ⟨hcalm, hF', fun _ => inSlots_s hins, fun _ t x k off hop hx => ?_⟩ (ih _ _ hpl)
          · have hjl : j < all.length := (List.getElem?_eq_some_iff.1 hp).1
            rcases hall j (List.mem_range.2 hjl) with (e | e) | e
            · exact (hji (Nat.eq_of_beq_eq_true e)).elim
            · have hL : L.contains j = false := hL; rw [e] at hL; cases hL
            · simp only [hw, hp, Bool.false_or, Bool.and_eq_true, Bool.or_eq_true] at e
              exact ⟨e.1, e.2.imp id fun e1 => ⟨rfl, e1⟩⟩
          · unfold objOK at hobj
            rw [hop] at hobj
            simp only [hx, Bool.and_eq_true] at hobj
            obtain ⟨⟨⟨g1, g2⟩, g3⟩, g4⟩ := hobj
            refine ⟨g1, List.contains_iff_mem.1 g2, by simpa [Nat.blt_eq] using g3, ?_⟩
            cases hm : mget m k with
            | none => rw [hm] at g4; cases g4
            | some c => rw [hm] at g4; exact ⟨c, rfl, g4⟩
        exact vAnyX_of (hfin v (getD_slot hin) hF hv)
      | 3, _ =>
        have hpk : pk i = true := by
          cases e : pk i
          · rw [e] at hpk; cases hpk
          · rfl
        simp only at hv
        obtain ⟨hw, hv⟩ := chk hv
        refine ⟨fun hn => (hn i hi hr).elim, fun j p hp hrj hx => ?_⟩
        have hjl : j < all.length := (List.getElem?_eq_some_iff.1 hp).1
        by_cases hji : j = i
        · subst hji
          rw [ho] at hp
          cases hp
          exact ⟨fun _ => hw, fun _ => calm_tgt hw, vopG_mono (by rw [hw, Bool.or_true]) ih hv⟩
        · rcases hall j (List.mem_range.2 hjl) with (e | e) | e
          · exact (hji (Nat.eq_of_beq_eq_true e)).elim
          · have h1 : L.contains j = false := hrj.1
            rw [e] at h1; cases h1
          · simp only [Bool.or_eq_true] at e
            rcases e with e | e
            · rw [hx] at e; cases e
            · simp only [Bool.not_eq_true'] at e
              rw [all_deps.2 hrj.2] at e
              cases e
      | n + 4, h => exact absurd (Nat.le_of_ble_eq_true h) (by omega)

end

end Go.V

namespace Go.V
set_option linter.unusedVariables false
set_option linter.unusedSimpArgs false

section
variable {B0 : Lab} {W0 : World} {N : Nat} {WL : World} {B : Lab} {W W' : World} {r : Regs} {m : Mem} {P : Program} {a : Act} {Snd : SND}

theorem ready_s {ops : Array Oper} (hu : upTo (ops.toList.map depsOf) 0 = true) {L : Nat → Bool} {listed : Array Bool} (hsz : listed.size = ops.size) (hl : ∀ k, k < ops.size → listed[k]? = some (L k)) (i : Nat) :
    i ∈ Region.ready .any ops listed ↔ i < ops.size ∧ Rdy (ops.toList.map depsOf) L i := by
  have hdep : ∀ (l : List (List Nat)) (n j : Nat), upTo l n = true → ∀ e ∈ l.getD j [], e < n + j := by
    intro l
    induction l with
    | nil => intro n j _ e he; simp at he
    | cons x l ih =>
      intro n j h e he
      simp only [upTo, Bool.and_eq_true, List.all_eq_true] at h
      cases j with
      | zero =>
        have := h.1 e (by simpa using he)
        simpa [Nat.blt_eq] using this
      | succ j =>
        have := ih (n + 1) j h.2 e (by simpa using he)
        omega
  unfold Region.ready
  rw [List.mem_filter, List.mem_range]
  refine and_congr_right fun hi => ?_
  have ho : ops[i]? = some ops[i] := Array.getElem?_eq_getElem hi
  have hds : (ops.toList.map depsOf).getD i [] = depsOf ops[i] := by
    simp [List.getD, ho]
  have hli : listed.getD i true = L i := by
    have := hl i hi
    simp [Array.getD_eq_getD_getElem?, this]
  rw [Bool.and_eq_true, hli, ho]
  unfold Rdy
  rw [hds]
  simp only [Option.map_some, Option.getD_some, Bool.not_eq_true', Array.all_eq_true', Bool.or_eq_true]
  refine and_congr_right fun _ => ⟨fun h e he => ?_, fun h e he => ?_⟩
  · unfold depsOf at he
    obtain ⟨x, hx, rfl⟩ := List.mem_map.1 he
    obtain ⟨hx1, hx2⟩ := List.mem_filter.1 hx
    rcases h x (by simpa using hx1) with h | h
    · rw [hx2] at h; cases h
    · have hlt : x.on < 0 + i := hdep _ _ _ hu x.on (by rw [hds]; exact he)
      have := hl x.on (by omega)
      simpa [Array.getD_eq_getD_getElem?, this] using h
  · cases hb : Region.binds .any e with
    | false => exact .inl rfl
    | true =>
      have he' : e.on ∈ depsOf ops[i] := List.mem_map.2 ⟨e, List.mem_filter.2 ⟨by simpa using he, hb⟩, rfl⟩
      have hlt : e.on < 0 + i := hdep _ _ _ hu e.on (by rw [hds]; exact he')
      have := hl e.on (by omega)
      right
      simpa [Array.getD_eq_getD_getElem?, this] using h e.on he'

theorem any_s {ops : Array Oper} {pk : Nat → Bool} {pr : List Nat} {K : Regs → Mem → Prop} {Q : Exit → Act → World → Prop} {E : AV → Mem → Prop} (hSnd : ∀ f xs m Q, Snd f xs m Q → Sound P N WL f xs m Q) (hu : upTo (ops.toList.map depsOf) 0 = true)
    (hn : Next? B0 W0 N WL K (Q .normal)) (he : Exc? B0 W0 N WL E Q) : ∀ (f : Nat) (L : Nat → Bool) (listed : Array Bool), listed.size = ops.size → (∀ k, k < ops.size → listed[k]? = some (L k)) → ∀ {B : Lab} {W : World} {r : Regs} {m : Mem} {a : Act},
      a.defers = [] → Inv B0 W0 N WL B W r m a.tmps.toList → vAny P Snd ops.toList (ops.toList.map depsOf) pk pr K E f L r m → wpAny P .any ops Q f listed a W
  | 0, L, listed, hsz, hl, B, W, r, m, a, hd, h, hv => by
    refine ⟨?_, hn _ _ _ _ _ hd h hv.2⟩
    cases e : Region.ready .any ops listed with
    | nil => rfl
    | cons i l =>
      obtain ⟨h1, h2⟩ := (ready_s hu hsz hl i).1 (by rw [e]; exact List.mem_cons_self)
      have := hv.1 i (by simpa using h1)
      rw [h2.1] at this
      cases this
  | f + 1, L, listed, hsz, hl, B, W, r, m, a, hd, h, hv => by
    refine ⟨fun hnil => hn _ _ _ _ _ hd h (hv.1 fun i hi hr => ?_), fun i hi => ?_⟩
    · have := (ready_s hu hsz hl i).2 ⟨by simpa using hi, hr⟩
      rw [hnil] at this
      cases this
    · obtain ⟨h1, h2⟩ := (ready_s hu hsz hl i).1 hi
      have ho : ops[i]? = some ops[i] := Array.getElem?_eq_getElem h1
      obtain ⟨_, _, hv2⟩ := hv.2 i ops[i] (by rw [Array.getElem?_toList]; exact ho) h2
      unfold wpOp
      rw [ho]
      refine vopG_s hSnd rfl ho (K := fun r m => vAny P Snd ops.toList (ops.toList.map depsOf) pk pr K E f (addL L i) r m) ?_ he hd h hv2
      intro B W r m a hd h hv
      refine any_s hSnd hu hn he f (addL L i) _ (by simpa using hsz) (fun k hk => ?_) hd h hv
      by_cases hki : k = i
      · subst hki
        rw [addL_self]
        simp [Array.getElem?_setIfInBounds, hsz, hk]
      · rw [addL_ne hki, Array.getElem?_setIfInBounds_ne (Ne.symm hki)]
        exact hl k hk

theorem Inv.drawn {l : List Value} (h : Inv B0 W0 N WL B W r m l) (n : Nat) : Inv B0 W0 N WL B { W with drawn := n } r m l := by
  have hx : Ext B W B { W with drawn := n } (fun _ => False) (fun _ => False) := ⟨fun b hb => ⟨hb, rfl⟩, fun b w hb _ => ⟨hb, rfl⟩, fun b k hb _ => hb⟩
  have := h.turn (B' := B) (W' := { W with drawn := n }) ⟨h.lab.dom, h.lab.rows, h.lab.objs⟩ ⟨Nat.le_refl _, rfl, rfl, rfl, fun b hb => ⟨hb, rfl⟩, fun b _ hb => ⟨hb, rfl⟩, fun b k _ _ hb => hb⟩ id
    (fun a v ha => Rep0.ext hx (fun _ _ h => h) (fun _ _ h => h) ha) (fun b k hb _ => ⟨hb, rfl⟩)
  have e1 : r.map (AV.map id) = r := by
    conv => rhs; rw [← List.map_id r]
    exact List.map_congr_left fun x _ => AV.map_id x
  have e2 : mmap id m = m := by simp [mmap]
  rwa [e1, e2] at this

theorem sndOf_s {fl : Bool} (hSnd : ∀ f xs m Q, Snd f xs m Q → Sound P N WL f xs m Q) : ∀ f xs m Q, sndOf fl Snd f xs m Q → Sound P N WL f xs m Q := fun f xs m Q h => by
  cases fl with
  | true => exact hSnd _ _ _ _ h.2
  | false => exact hSnd _ _ _ _ h

theorem draw_s {id : Nat} {ops : Array Oper} {K : Regs → Mem → Prop} {Q : Exit → Act → World → Prop} {E : AV → Mem → Prop} (hmix : P.follows .mixedOrders = true) (hn : Next? B0 W0 N WL K (Q .normal)) (he : Exc? B0 W0 N WL E Q)
    (hd : a.defers = []) (h : Inv B0 W0 N WL B W r m a.tmps.toList) (hv : vdraw P (Sound P N WL) ops.toList r m K E) : (Code.region id ops true).wp P Q a W := by
  rcases hv with ⟨fl, pr, plan, hok, hv⟩ | ⟨fl, pr, plan, hok, hv⟩
  · refine wp_region_any hmix ?_
    simp only [planOK, Bool.and_eq_true] at hok
    obtain ⟨⟨hu, hlen⟩, hgo⟩ := hok
    have hS : fl = true → ∀ f xs sm Q, sndOf fl (Sound P N WL) f xs sm Q → sm = [] := fun e f xs sm Q h => by
      subst e
      exact h.1
    have hall := plan_any hu hS plan [] r m hgo (fun x hx => by simp at hx) hv
    have hpl : plan.length = ops.size := by simpa using Nat.eq_of_beq_eq_true hlen
    rw [hpl] at hall
    exact any_s (sndOf_s fun _ _ _ _ h => h) hu hn he ops.size _ (Array.replicate ops.size false) (by simp) (fun k hk => by simp [hk]) hd (h.drawn _) hall
  · refine wp_region_any hmix ?_
    simp only [planOKT, Bool.and_eq_true] at hok
    obtain ⟨⟨hu, hlen⟩, hgo⟩ := hok
    have hS : fl = true → ∀ f xs sm Q, sndOf fl (Sound P N WL) f xs sm Q → sm = [] := fun e f xs sm Q h => by
      subst e
      exact h.1
    have hall := vAnyX_nil (plan_anyT hu hS plan ops.size [] [] r m (by simpa using Nat.le_of_ble_eq_true hlen) hgo (fun x hx => by simp at hx) hv)
    exact any_s (sndOf_s fun _ _ _ _ h => h) hu hn he ops.size _ (Array.replicate ops.size false) (by simp) (fun k hk => by simp [hk]) hd (h.drawn _) hall

def exitOf : VX → Exit
  | .normal => .normal
  | .exit id => .exit id
  | .ret => .ret
  | .panic _ => .normal

/-- what must follow code -/
structure Post (B0 : Lab) (W0 : World) (N : Nat) (WL : World) (K : VX → Regs → Mem → Prop) (Q : Exit → Act → World → Prop) : Prop where
  fin : ∀ x, (∀ v, x ≠ .panic v) → Next? B0 W0 N WL (K x) (Q (exitOf x))
  exc : ∀ r, Exc? B0 W0 N WL (fun v m => K (.panic v) r m) Q

theorem keepM_mem {p : Nat × List A0} : ∀ (ks : List Nat) (m : Mem), p ∈ keepM ks m → p ∈ m ∧ p.1 ∈ ks
  | [], m, h => by cases h
  | k :: l, m, h => by
    unfold keepM at h
    cases hi : (idxOf k l 0).isSome with
    | true =>
      rw [hi] at h
      have := keepM_mem l m h
      exact ⟨this.1, List.mem_cons_of_mem _ this.2⟩
    | false =>
      rw [hi] at h
      simp only [cond_false] at h
      split at h
      · rename_i c hc
        rcases List.mem_cons.1 h with rfl | h
        · exact ⟨mget_some hc, List.mem_cons_self⟩
        · have := keepM_mem l m h
          exact ⟨this.1, List.mem_cons_of_mem _ this.2⟩
      · have := keepM_mem l m h
        exact ⟨this.1, List.mem_cons_of_mem _ this.2⟩
theorem keepM_nodup : ∀ (ks : List Nat) (m : Mem), ((keepM ks m).map (·.1)).Nodup
  | [], m => by simp [keepM]
  | k :: l, m => by
    unfold keepM
    cases hi : (idxOf k l 0).isSome with
    | true => exact keepM_nodup l m
    | false =>
      simp only [cond_false]
      split
      · rw [List.map_cons, List.nodup_cons]
        refine ⟨fun hm => ?_, keepM_nodup l m⟩
        obtain ⟨p, hp, e⟩ := List.mem_map.1 hm
        have := (keepM_mem l m hp).2
        rw [e] at this
        obtain ⟨i, h1⟩ := idxOf_isSome (j := 0) this
        rw [h1] at hi
        cases hi
      · exact keepM_nodup l m

theorem Inv.keepR (h : Inv B0 W0 N WL B W r m a.tmps.toList) (ks kms : List Nat) : Inv B0 W0 N WL B W (keepR ks 0 r) (keepM kms m) a.tmps.toList where
  lab := h.lab
  low := h.low
  move := h.move
  regs := by
    have : ∀ {r : Regs} {l : List Value} (i : Nat), All2 (RepA B W) r l → All2 (RepA B W) (V.keepR ks i r) l := by
      intro r l i hr
      induction hr generalizing i with
      | nil => exact .nil
      | cons hx _ ih =>
        refine .cons ?_ (ih (i + 1))
        cases (idxOf i ks 0).isSome with
        | true => exact hx
        | false => trivial
    exact this 0 h.regs
  mem := ⟨keepM_nodup kms m, fun p hp => h.mem.2 p (keepM_mem kms m hp).1⟩

theorem rounds_mono {c : Code} {Q : Exit → Act → World → Prop} : ∀ {n k : Nat} {a : Act} {W : World}, n ≤ k → Code.rounds P c Q n a W → Code.rounds P c Q k a W
  | 0, _, _, _, _, h => h.elim
  | n + 1, 0, _, _, hle, _ => by omega
  | n + 1, k + 1, a, W, hle, h => by
    refine wp_mono h ?_
    intro e a w hq
    cases e with
    | normal => exact rounds_mono (by omega) hq
    | _ => exact hq

theorem vexec_s (hmix : P.follows .mixedOrders = true) : ∀ (c : Code) {K : VX → Regs → Mem → Prop} {Q : Exit → Act → World → Prop} {B : Lab} {W : World} {r : Regs} {m : Mem} {a : Act}, Post B0 W0 N WL K Q → a.defers = [] → Inv B0 W0 N WL B W r m a.tmps.toList →
    vexec P (Sound P N WL) c r m K → c.wp P Q a W
  | .skip, K, Q, B, W, r, m, a, hp, hd, h, hv => wp_skip (hp.fin .normal (fun _ e => by cases e) _ _ _ _ _ hd h hv)
  | .label _, K, Q, B, W, r, m, a, hp, hd, h, hv => wp_label (hp.fin .normal (fun _ e => by cases e) _ _ _ _ _ hd h hv)
  | .region _ ops false, K, Q, B, W, r, m, a, hp, hd, h, hv => by
    refine wp_region ?_
    have := vops_s (ops := ops) (hp.fin .normal (fun _ e => by cases e)) (hp.exc r) ops.toList [] rfl hd h hv
    rwa [List.range_eq_range']
  | .region _ ops true, K, Q, B, W, r, m, a, hp, hd, h, hv => draw_s hmix (hp.fin .normal (fun _ e => by cases e)) (hp.exc r) hd h hv
  | .seq x y, K, Q, B, W, r, m, a, hp, hd, h, hv => by
    refine wp_seq (vexec_s hmix x ?_ hd h hv)
    refine ⟨fun z hz B W r m a hd h hk => ?_, fun r B W v u m a hd h1 h2 h3 h4 h5 hk => hp.exc r _ _ _ _ _ _ hd h1 h2 h3 h4 h5 hk⟩
    cases z with
    | normal => exact vexec_s hmix y hp hd h hk
    | exit i => exact hp.fin (.exit i) (fun _ e => by cases e) _ _ _ _ _ hd h hk
    | ret => exact hp.fin .ret (fun _ e => by cases e) _ _ _ _ _ hd h hk
    | panic v => exact (hz v rfl).elim
  | .cond c x y, K, Q, B, W, r, m, a, hp, hd, h, hv => by
    simp only [vexec] at hv
    have hc := vval_rep h.regs c
    split at hv
    · rename_i t ht
      rw [ht] at hc
      refine wp_cond (rep_bool hc) ?_
      cases t with
      | true => exact vexec_s hmix x hp hd h hv
      | false => exact vexec_s hmix y hp hd h hv
    · exact hv.elim
  | .block id x, K, Q, B, W, r, m, a, hp, hd, h, hv => by
    refine wp_block (vexec_s hmix x ?_ hd h hv)
    refine ⟨fun z hz B W r m a hd h hk => ?_, fun r B W v u m a hd h1 h2 h3 h4 h5 hk => hp.exc r _ _ _ _ _ _ hd h1 h2 h3 h4 h5 hk⟩
    cases z with
    | normal => exact hp.fin .normal (fun _ e => by cases e) _ _ _ _ _ hd h hk
    | exit i =>
      simp only [exitOf, Exit.inBlock]
      cases e : Nat.beq i id with
      | true =>
        simp only [e, cond_true] at hk
        rw [if_pos (Nat.eq_of_beq_eq_true e)]
        exact hp.fin .normal (fun _ e => by cases e) _ _ _ _ _ hd h hk
      | false =>
        simp only [e, cond_false] at hk
        rw [if_neg (fun e' => by subst e'; rw [Nat.beq_refl] at e; cases e)]
        exact hp.fin (.exit i) (fun _ e => by cases e) _ _ _ _ _ hd h hk
    | ret => exact hp.fin .ret (fun _ e => by cases e) _ _ _ _ _ hd h hk
    | panic v => exact (hz v rfl).elim
  | .scope x, K, Q, B, W, r, m, a, hp, hd, h, hv => by
    refine wp_scope_straight (vexec_s hmix x ?_ hd h hv)
    refine ⟨fun z hz B W r m a hd h hk => ?_, fun r B W v u m a hd h1 h2 h3 h4 h5 hk => hp.exc r _ _ _ _ _ _ hd h1 h2 h3 h4 h5 hk⟩
    cases z with
    | normal => exact hp.fin .normal (fun _ e => by cases e) _ _ _ _ _ hd h hk
    | exit i => exact hp.fin (.exit i) (fun _ e => by cases e) _ _ _ _ _ hd h hk
    | ret => exact hp.fin .ret (fun _ e => by cases e) _ _ _ _ _ hd h hk
    | panic v => exact (hz v rfl).elim
  | .exit id, K, Q, B, W, r, m, a, hp, hd, h, hv => wp_exit (hp.fin (.exit id) (fun _ e => by cases e) _ _ _ _ _ hd h hv)
  | .ret, K, Q, B, W, r, m, a, hp, hd, h, hv => wp_ret (hp.fin .ret (fun _ e => by cases e) _ _ _ _ _ hd h hv)
  | .loop x, K, Q, B, W, r, m, a, hp, hd, h, hv => by
    obtain ⟨ks, kms, I, ⟨n, h0⟩, hstep⟩ := hv
    have key : ∀ (n : Nat) {B : Lab} {W : World} {r : Regs} {m : Mem} {a : Act}, a.defers = [] → Inv B0 W0 N WL B W r m a.tmps.toList → I n r m → Code.rounds P x Q (n + 1) a W := by
      intro n
      induction n using Nat.strongRecOn with
      | ind n ih =>
        intro B W r m a hd h hi
        refine vexec_s hmix x ?_ hd h (hstep n r m hi)
        refine ⟨fun z hz B W r m a hd h hk => ?_, fun r B W v u m a hd h1 h2 h3 h4 h5 hk => hp.exc r _ _ _ _ _ _ hd h1 h2 h3 h4 h5 hk⟩
        cases z with
        | normal =>
          obtain ⟨n', hlt, hi'⟩ := hk
          exact rounds_mono (by omega) (ih n' hlt hd (h.keepR ks kms) hi')
        | exit i => exact hp.fin (.exit i) (fun _ e => by cases e) _ _ _ _ _ hd h hk
        | ret => exact hp.fin .ret (fun _ e => by cases e) _ _ _ _ _ hd h hk
        | panic v => exact (hz v rfl).elim
    exact wp_loop_rounds (n + 1) (key n hd (h.keepR ks kms) h0)
  | .rangeFunc _ _ _ _, K, Q, B, W, r, m, a, hp, hd, h, hv => hv.elim
  | .goto _, K, Q, B, W, r, m, a, hp, hd, h, hv => hv.elim
  | .refuse _, K, Q, B, W, r, m, a, hp, hd, h, hv => hv.elim

end

end Go.V

namespace Go.V
set_option linter.unusedVariables false
set_option linter.unusedSimpArgs false

section
variable {B0 : Lab} {W0 : World} {N : Nat} {WL : World} {B : Lab} {W W' : World} {r : Regs} {m : Mem} {P : Program} {tm : Array Value}

theorem vresults_s {G : Prop} {own : List Nat} {K : Regs → Mem → Prop} : ∀ {l : List ResultVar} {j : Nat} {B : Lab} {r : Regs} {m : Mem}, vresults P own l j r m K → Inv B0 W0 N WL B W r m tm.toList →
    (∀ B r m, Inv B0 W0 N WL B W r m tm.toList → K r m → G) → G
  | [], _, _, _, _, hv, h, k => k _ _ _ h hv
  | .tmp t :: l, j, B, r, m, hv, h, k => by
    simp only [vresults] at hv
    split at hv
    · split at hv
      · exact vname_s hv h fun B r m h hv => vresults_s hv h k
      · simp only [mapS_eq] at hv
        exact vresults_s hv (h.frz _) k
    · exact vresults_s hv h k
  | .cell a t :: l, j, B, r, m, hv, h, k => by
    simp only [vresults] at hv
    split at hv
    · obtain ⟨c, hc, hv⟩ := optK_some hv
      split at hv
      · exact vfreezeC_s hv h fun B r m h hv => vresults_s hv h k
      · obtain ⟨y, hy, hv⟩ := optK_some hv
        split at hv
        · split at hv
          · exact vname_s hv h fun B r m h hv => vresults_s hv h k
          · simp only [mapS_eq] at hv
            exact vresults_s hv (h.frz _) k
        · exact vresults_s hv h k
    · exact hv.elim

def reL (B : Lab) (k : Nat) : Lab := fun b => match B b with
  | .obj j => if j = 2000 then .no else if j = k then .obj 2000 else .obj j
  | .row (.ce j o) => if j = 2000 then .no else if j = k then .row (.ce 2000 o) else .row (.ce j o)
  | x => x

theorem reL_obj {k b j : Nat} (h : reL B k b = .obj j) : (B b = .obj j ∧ j ≠ 2000) ∨ (B b = .obj k ∧ j = 2000) := by
  unfold reL at h
  split at h
  · rename_i i hi
    split at h
    · cases h
    · split at h
      · rename_i e; cases h; subst e; exact .inr ⟨hi, rfl⟩
      · cases h; exact .inl ⟨hi, by assumption⟩
  · split at h
    · cases h
    · split at h <;> cases h
  · rename_i n1 n2; exact absurd h (n1 j)
theorem reL_row {k b : Nat} {w : Ow} (h : reL B k b = .row w) : (B b = .row w ∧ ∀ o, w ≠ .ce 2000 o) ∨ ∃ o, B b = .row (.ce k o) ∧ w = .ce 2000 o := by
  unfold reL at h
  split at h
  · split at h
    · cases h
    · split at h <;> cases h
  · rename_i i o hi
    split at h
    · cases h
    · rename_i hne
      split at h
      · rename_i e; cases h; subst e; exact .inr ⟨o, hi, rfl⟩
      · cases h; exact .inl ⟨hi, fun o' e => by cases e; exact hne rfl⟩
  · rename_i n1 n2
    refine .inl ⟨h, fun o e => ?_⟩
    subst e
    exact n2 _ _ h
theorem reL_ok (h : LabOK B W) {k : Nat} : LabOK (reL B k) W where
  dom := fun b hb => h.dom b fun e => hb (by simp [reL, e])
  rows := fun b b' w h1 h2 => by
    rcases reL_row h1 with ⟨e1, n1⟩ | ⟨o, e1, q1⟩ <;> rcases reL_row h2 with ⟨e2, n2⟩ | ⟨o', e2, q2⟩
    · exact h.rows b b' w e1 e2
    · exact absurd q2 (n1 o')
    · exact absurd q1 (n2 o)
    · rw [q1] at q2; cases q2; exact h.rows b b' _ e1 e2
  objs := fun b b' j h1 h2 => by
    rcases reL_obj h1 with ⟨e1, n1⟩ | ⟨e1, q1⟩ <;> rcases reL_obj h2 with ⟨e2, n2⟩ | ⟨e2, q2⟩
    · exact h.objs b b' j e1 e2
    · exact absurd q2 n1
    · exact absurd q1 n2
    · exact h.objs b b' _ e1 e2
theorem reL_st {k b : Nat} (h : B b = .st) : reL B k b = .st := by simp [reL, h]
theorem reL_move {k : Nat} (hk : k < 1000) : Move B W (reL B k) W :=
  ⟨Nat.le_refl _, rfl, rfl, rfl, fun b h => ⟨reL_st h, rfl⟩, fun b _ h => ⟨by simp [reL, h], rfl⟩, fun b j h1 h2 h => by
    have e1 : j ≠ 2000 := by omega
    have e2 : j ≠ k := by omega
    simp [reL, h, e1, e2]⟩
theorem reL_s {k : Nat} : ExtS B W (reL B k) W := ⟨fun b h => ⟨reL_st h, rfl⟩⟩

theorem RowBlk.re {w w' : Ow} {k : Nat} (hw : ∀ b, B b = .row w → reL B k b = .row w') {e : Ty} {l : List e.den} {cap b : Nat} (h : RowBlk B W w e l cap b) : RowBlk (reL B k) W w' e l cap b := by
  obtain ⟨hb, arr, ty, fz, h1, h2, h3, h4, h5⟩ := h
  exact ⟨hw b hb, arr, ty, fz, h1, h2, h3, h4, h5.mono (fun x es _ h => RepC.ext reL_s h) rfl⟩
theorem OwnRow.re {w w' : Ow} {k : Nat} (hw : ∀ b, B b = .row w → reL B k b = .row w') {e : Ty} {l : List e.den} {v : Value} (h : OwnRow B W w e l v) : OwnRow (reL B k) W w' e l v := by
  rcases h with h | ⟨b, cap, rfl, h⟩
  · exact .inl h
  · exact .inr ⟨b, cap, rfl, h.re hw⟩

theorem Rep0.re {k : Nat} {q : A0} {v : Value} (h : Rep0 B W q v) : Rep0 (reL B k) W (q.reKey k) v := by
  have keepS : ∀ {q : A0}, (∀ w, ¬ q.has w) → (∀ k, ¬ q.at k) → Rep0 B W q v → Rep0 (reL B k) W q v := fun h1 h2 h =>
    Rep0.ext (dr := fun _ => True) (dk := fun _ => True) ⟨fun b hb => ⟨reL_st hb, rfl⟩, fun b w hb hn => (hn trivial).elim, fun b k hb hn => (hn trivial).elim⟩ (fun w hw => (h1 w hw).elim) (fun k hk => (h2 k hk).elim) h
  cases q with
  | undef => trivial
  | val t x => exact keepS (fun _ h => h) (fun _ h => h) h
  | pv t x => exact keepS (fun _ h => h) (fun _ h => h) h
  | full e l => exact keepS (fun _ h => h) (fun _ h => h) h
  | sc v => exact h
  | ptr j off =>
    simp only [A0.reKey]
    obtain ⟨b, hb, rfl⟩ := h
    cases e1 : Nat.beq j 2000 with
    | true => trivial
    | false =>
      have n1 : j ≠ 2000 := fun e => by rw [e, Nat.beq_refl] at e1; cases e1
      cases e2 : Nat.beq j k with
      | true => exact ⟨b, by have e3 := Nat.eq_of_beq_eq_true e2; subst e3; simp [reL, hb, n1], rfl⟩
      | false =>
        have n2 : j ≠ k := fun e => by rw [e, Nat.beq_refl] at e2; cases e2
        exact ⟨b, by simp [reL, hb, n1, n2], rfl⟩
  | al w e l =>
    cases w with
    | ce j o =>
      simp only [A0.reKey]
      cases e1 : Nat.beq j 2000 with
      | true => trivial
      | false =>
        have n1 : j ≠ 2000 := fun e => by rw [e, Nat.beq_refl] at e1; cases e1
        cases e2 : Nat.beq j k with
        | true => exact OwnRow.re (fun b hb => by have e3 := Nat.eq_of_beq_eq_true e2; subst e3; simp [reL, hb, n1]) h
        | false =>
          have n2 : j ≠ k := fun e => by rw [e, Nat.beq_refl] at e2; cases e2
          exact OwnRow.re (fun b hb => by simp [reL, hb, n1, n2]) h
    | _ => exact OwnRow.re (fun b hb => by simp [reL, hb]) h
  | vp w e l i t off g s =>
    cases w with
    | ce j o =>
      simp only [A0.reKey]
      cases e1 : Nat.beq j 2000 with
      | true => trivial
      | false =>
        have n1 : j ≠ 2000 := fun e => by rw [e, Nat.beq_refl] at e1; cases e1
        cases e2 : Nat.beq j k with
        | true => trivial
        | false =>
          have n2 : j ≠ k := fun e => by rw [e, Nat.beq_refl] at e2; cases e2
          obtain ⟨b, cap, rfl, hi, hb, hl⟩ := h
          exact ⟨b, cap, rfl, hi, hb.re (fun b hb => by simp [reL, hb, n1, n2]), hl⟩
    | _ =>
      obtain ⟨b, cap, rfl, hi, hb, hl⟩ := h
      exact ⟨b, cap, rfl, hi, hb.re (fun b hb => by simp [reL, hb]), hl⟩

theorem reMem_s {k : Nat} {p : Nat × List A0} : ∀ {m : Mem}, p ∈ reMem k m → ∃ q ∈ m, p.2 = q.2.map (A0.reKey k) ∧ ((p.1 = q.1 ∧ q.1 ≠ 2000 ∧ q.1 ≠ k) ∨ (p.1 = 2000 ∧ q.1 = k ∧ q.1 ≠ 2000))
  | [], h => by simp [reMem] at h
  | (j, c) :: l, h => by
    simp only [reMem] at h
    cases e1 : Nat.beq j 2000 with
    | true =>
      rw [e1] at h
      obtain ⟨q, hq, r⟩ := reMem_s h
      exact ⟨q, List.mem_cons_of_mem _ hq, r⟩
    | false =>
      have n1 : j ≠ 2000 := fun e => by rw [e, Nat.beq_refl] at e1; cases e1
      rw [e1] at h
      simp only [cond_false] at h
      cases e2 : Nat.beq j k with
      | true =>
        rw [e2] at h
        rcases List.mem_cons.1 h with rfl | h
        · exact ⟨_, List.mem_cons_self, rfl, .inr ⟨rfl, Nat.eq_of_beq_eq_true e2, n1⟩⟩
        · obtain ⟨q, hq, r⟩ := reMem_s h
          exact ⟨q, List.mem_cons_of_mem _ hq, r⟩
      | false =>
        have n2 : j ≠ k := fun e => by rw [e, Nat.beq_refl] at e2; cases e2
        rw [e2] at h
        rcases List.mem_cons.1 h with rfl | h
        · exact ⟨_, List.mem_cons_self, rfl, .inl ⟨rfl, n1, n2⟩⟩
        · obtain ⟨q, hq, r⟩ := reMem_s h
          exact ⟨q, List.mem_cons_of_mem _ hq, r⟩

theorem reMem_nodup {k : Nat} : ∀ {m : Mem}, (m.map (·.1)).Nodup → ((reMem k m).map (·.1)).Nodup
  | [], _ => by simp [reMem]
  | (j, c) :: l, h => by
    rw [List.map_cons, List.nodup_cons] at h
    have ih := reMem_nodup (k := k) h.2
    simp only [reMem]
    cases e1 : Nat.beq j 2000 with
    | true => exact ih
    | false =>
      have n1 : j ≠ 2000 := fun e => by rw [e, Nat.beq_refl] at e1; cases e1
      simp only [cond_false]
      cases e2 : Nat.beq j k with
      | true =>
        simp only [cond_true, List.map_cons, List.nodup_cons]
        refine ⟨fun hm => ?_, ih⟩
        obtain ⟨p, hp, e⟩ := List.mem_map.1 hm
        obtain ⟨q, hq, _, (⟨g1, g2, g3⟩ | ⟨g1, g2, g3⟩)⟩ := reMem_s hp
        · exact g2 (g1.symm.trans e)
        · exact h.1 (List.mem_map.2 ⟨q, hq, g2.trans (Nat.eq_of_beq_eq_true e2).symm⟩)
      | false =>
        simp only [cond_false, List.map_cons, List.nodup_cons]
        refine ⟨fun hm => ?_, ih⟩
        obtain ⟨p, hp, e⟩ := List.mem_map.1 hm
        obtain ⟨q, hq, _, (⟨g1, g2, g3⟩ | ⟨g1, g2, g3⟩)⟩ := reMem_s hp
        · exact h.1 (List.mem_map.2 ⟨q, hq, g1.symm.trans e⟩)
        · exact n1 (e.symm.trans g1)

theorem vesc_s {G : Prop} {own : List Nat} {K : Regs → Mem → Prop} (hv : vesc own r m K) (h : Inv B0 W0 N WL B W r m tm.toList) (k : ∀ B r m, Inv B0 W0 N WL B W r m tm.toList → K r m → G) : G := by
  unfold vesc at hv
  split at hv
  · exact k _ _ _ h hv
  · rename_i j _
    obtain ⟨hlt, hv⟩ := chk hv
    simp only [fr_eq, fm_eq] at hv
    have hlt : j < 1000 := by simpa [Nat.blt_eq] using hlt
    refine k (reL B j) _ _ ⟨reL_ok h.lab, h.low.move (reL_move hlt), h.move.trans (reL_move hlt), forall2_map h.regs fun _ _ ha => RepA.map (fun _ _ hb => Rep0.re hb) ha, reMem_nodup h.mem.1, fun p hp => ?_⟩ hv
    obtain ⟨q, hq, hc, hk⟩ := reMem_s hp
    obtain ⟨b, arr, ty, hb, hw, hcs⟩ := h.mem.2 q hq
    refine ⟨b, arr, ty, ?_, hw, by rw [hc]; exact forall2_map hcs fun _ _ ha => Rep0.re ha⟩
    rcases hk with ⟨g1, g2, g3⟩ | ⟨g1, g2, g3⟩
    · rw [g1]; simp [reL, hb, g2, g3]
    · rw [g1]
      unfold reL
      rw [hb]
      simp only
      rw [if_neg g3, if_pos g2]

theorem getD_rep {r : Regs} {tm : Array Value} (h : All2 (RepA B W) r tm.toList) {t : Nat} : RepA B W (r.getD t (.lf .undef)) (tm.getD t undef) := by
  have := vval_rep (a := { tmps := tm, defers := [] }) h (.tmp t)
  exact this

def resF (tm : Array Value) : ResultVar → Sem Value
  | .tmp t => pure (tm.getD t undef)
  | .cell a t => do loadVar t (← asAddr (tm.getD a undef))

theorem resF_cell {x t : Nat} {ad : Addr} (e : tm.getD x undef = .pointer (some ad)) : (resF tm (.cell x t)).run P W = (loadVar t ad).run P W := by
  simp only [resF, Sem.run_bind, e, asAddr, Sem.run_pure, Result.andThen_ok]

theorem collect_s (hl : LabOK B W) (hm : MemOK B W m) (h : All2 (RepA B W) r tm.toList) : ∀ {l : List ResultVar} {xs : List A0}, collect P r m l = some xs →
    ∃ vs : List Value, (l.mapM (resF tm)).run P W = .ok vs W ∧ All2 (Rep0 B W) xs vs
  | [], xs, hc => by
    simp only [collect, Option.some.injEq] at hc
    subst hc
    exact ⟨[], by simp, .nil⟩
  | .tmp t :: l, xs, hc => by
    simp only [collect] at hc
    split at hc
    · rename_i a xs' ha hc'
      cases hc
      obtain ⟨vs, hr, hvs⟩ := collect_s hl hm h hc'
      have hu := getD_rep h (t := t)
      rw [ha] at hu
      refine ⟨tm.getD t undef :: vs, ?_, .cons hu hvs⟩
      rw [List.mapM_cons]
      simp only [Sem.run_bind, Sem.run_pure, Result.andThen_ok, hr, resF]
    · cases hc
  | .cell x t :: l, xs, hc => by
    simp only [collect] at hc
    split at hc
    · rename_i k off d xs' ha hund hc'
      obtain ⟨vs, hr, hvs⟩ := collect_s hl hm h hc'
      have hu := getD_rep h (t := x)
      rw [ha] at hu
      obtain ⟨b, hb, e⟩ := hu
      have hund' : (P.underlying t).isSome = true := by rw [hund]; rfl
      split at hc
      · rename_i c hmk hag
        obtain ⟨arr, ty, hw, hcs⟩ := obj_cells hl hm hmk hb
        split at hc
        · rename_i y hy
          cases hc
          obtain ⟨u, hu, hur⟩ := hcs.get _ _ hy
          rw [Array.getElem?_toList] at hu
          refine ⟨u :: vs, ?_, .cons hur hvs⟩
          rw [List.mapM_cons]
          have h0 : (resF tm (.cell x t)).run P W = .ok u W := by
            rw [resF_cell e]
            simp only [loadVar, Sem.run_bind, Result.andThen_ok, run_isAgg hund', hag, Bool.false_eq_true, if_false, run_load, cell_arr hw, hu]
          simp only [Sem.run_bind, Sem.run_pure, Result.andThen_ok, hr, h0]
        · cases hc
      · rename_i c hmk hag
        obtain ⟨arr, ty, hw, hcs⟩ := obj_cells hl hm hmk hb
        split at hc
        · rename_i T hT
          split at hc
          · rename_i y rest hz hy
            cases hc
            rw [Bool.and_eq_true] at hz
            obtain ⟨cs, vs', hvs', hcr, _⟩ := packT_s hy (hcs.drop _)
            obtain ⟨u, hu, hur⟩ := run_loadVar (P := P) hund' hz.1 (by rw [hag, hz.2]) hcr (ad := ⟨b, _, none⟩) (fun j q hj => by
              rw [Addr.add_lit, cell_arr hw, ← Array.getElem?_toList, ← List.getElem?_drop, hvs', List.getElem?_append_left (List.getElem?_eq_some_iff.1 hj).1]
              exact hj)
            refine ⟨u :: vs, ?_, .cons hur hvs⟩
            rw [List.mapM_cons]
            have h0 : (resF tm (.cell x t)).run P W = .ok u W := by rw [resF_cell e, hu]
            simp only [Sem.run_bind, Sem.run_pure, Result.andThen_ok, hr, h0]
          · cases hc
        · cases hc
      · cases hc
    · cases hc

theorem exitN_rep {q : A0} {v : Value} (h : Rep0 B W q v) : Rep0 B W q.exitN v := by
  cases q with
  | ptr k off =>
    simp only [A0.exitN]
    cases Nat.ble 1000 k
    · trivial
    · exact h
  | al w e l =>
    cases w with
    | rt j => exact h
    | ce k o =>
      simp only [A0.exitN]
      cases Nat.ble 1000 k
      · trivial
      · exact h
    | _ => trivial
  | vp w e l i t off g s => trivial
  | _ => exact h

theorem exitM_ok (h : MemOK B W m) : MemOK B W (exitM m) := by
  refine ⟨?_, ?_⟩
  · have : (exitM m).map (·.1) = (m.filter fun p => Nat.ble 1000 p.1).map (·.1) := by simp [exitM]
    rw [this]
    exact h.1.sublist (List.Sublist.map _ List.filter_sublist)
  · intro p hp
    obtain ⟨q, hq, rfl⟩ := List.mem_map.1 hp
    obtain ⟨b, arr, ty, h1, h2, h3⟩ := h.2 q (List.mem_filter.1 hq).1
    exact ⟨b, arr, ty, h1, h2, forall2_map h3 fun _ _ h => exitN_rep h⟩

theorem results_s {fn : Func} {xs : List A0} {vs : List Value} (hr : (fn.results.toList.mapM (resF tm)).run P W = .ok vs W)
    (h : All2 (Rep0 B W) xs vs) : ∃ v, (results fn tm).run P W = .ok v W ∧ RepA B W (ofResults xs) v := by
  refine ⟨if h : vs.toArray.size = 1 then vs.toArray[0] else .tuple vs.toArray, ?_, ?_⟩
  · have e : results fn tm = (do let vs ← fn.results.mapM (resF tm); pure (if h : vs.size = 1 then vs[0] else .tuple vs)) := by
      unfold results
      congr 1
    rw [e, Sem.run_bind, Array.mapM_eq_mapM_toList, Sem.run_map, hr]
    simp only [Result.andThen_ok, Sem.run_pure]
  · cases h with
    | nil => exact ⟨#[], rfl, .nil⟩
    | cons hx ht =>
      cases ht with
      | nil => exact hx
      | cons hy hz => exact ⟨_, by simp, .cons hx (.cons hy hz)⟩

theorem All2.undefs (l : List Value) : All2 (RepA B W) (V.undefs l.length) l := by
  induction l with
  | nil => exact .nil
  | cons x l ih => exact .cons trivial ih

/-- What a function's code shows is what its calls do. -/
theorem Sound.of (hmix : P.follows .mixedOrders = true) {f : FuncId} {fn : Func} {c : Code} {xs : List AV} {Q : Out → Prop} (own : List Nat) (hf : P.funcs[f]? = some fn) (hname : (fn.name == "runtime.NumGoroutine") = false) (hb : fn.body = some c)
    (h : fr (xs ++ undefs (fn.ntmps - xs.length)) fun r => fm m fun m => vexec P (Sound P N WL) c r m (vend P fn own Q)) : Sound P N WL f xs m Q := by
  refine ⟨⟨fn, hf, hname, by rw [hb]; rfl⟩, ?_⟩
  intro B W vs h1 h2 h3 h4
  simp only [fr_eq, fm_eq] at h
  refine calls_of_wp hf hb ?_
  have hreg : All2 (RepA B W) (xs ++ undefs (fn.ntmps - xs.length)) (vs.toArray ++ Array.replicate (fn.ntmps - vs.toArray.size) undef).toList := by
    rw [Array.toList_append]
    refine h3.append ?_
    have hlen : vs.toArray.size = xs.length := by rw [List.size_toArray, h3.len]
    rw [hlen]
    have := All2.undefs (B := B) (W := W) (Array.replicate (fn.ntmps - xs.length) undef).toList
    simpa using this
  refine vexec_s hmix (B0 := B) (W0 := W) (B := B) (W := W) (r := xs ++ undefs (fn.ntmps - xs.length)) (m := m) (a := { tmps := vs.toArray ++ Array.replicate (fn.ntmps - vs.toArray.size) undef, defers := [] }) c ?_ rfl ⟨h1, h2, Move.refl _ _, hreg, h4⟩ h
  have fin : ∀ {B' : Lab} {W' : World} {r : Regs} {m : Mem} {a : Act}, Inv B W N WL B' W' r m a.tmps.toList →
      (vesc own r m fun r m => vresults P own fn.results.toList 0 r m fun r m => optK (collect P r m fn.results.toList) fun xs => fl0 (xs.map A0.exitN) fun xs => fm (exitM m) fun m => Q (.ret (ofResults xs) m)) →
      ∃ v, (results fn a.tmps).run P W' = .ok v W' ∧ ∃ o B'', Q o ∧ LabOK B'' W' ∧ Low N WL B'' W' ∧ Move B W B'' W' ∧ EndRep B'' W' (.returned v) o := by
    intro B' W' r m a hi hv
    refine vesc_s hv hi fun B' r m hi hv => ?_
    refine vresults_s hv hi fun B' r m hi hv => ?_
    obtain ⟨xs, hxs, hv⟩ := optK_some hv
    simp only [fl0_eq, fm_eq] at hv
    obtain ⟨vs, hr, hvs⟩ := collect_s hi.lab hi.mem hi.regs hxs
    obtain ⟨v, hr', hrep⟩ := results_s hr (forall2_map hvs fun _ _ h => exitN_rep h)
    exact ⟨v, hr', _, B', hv, hi.lab, hi.low, hi.move, hrep, exitM_ok hi.mem⟩
  refine ⟨?_, ?_⟩
  · intro x hx B' W' r m a hd hi hk
    cases x with
    | normal => exact ⟨hd, fin hi hk⟩
    | ret => exact ⟨hd, fin hi hk⟩
    | exit i => exact hk.elim
    | panic v => exact (hx v rfl).elim
  · intro r B' W' v u m a hd h1 h2 h3 h4 h5 hk
    simp only [vend, fv_eq, fm_eq] at hk
    exact ⟨hd, _, B', hk, h1, h2, h3, u, rfl, RepA.map (fun _ _ h => exitN_rep h) h4, exitM_ok h5⟩

end

end Go.V

namespace Go.V
set_option linter.unusedVariables false

/-- all that lies there when the law begins stays as it is -/
def stL (W : World) : Lab := fun b => if b < W.heap.size then .st else .no

theorem stL_ok (W : World) : LabOK (stL W) W where
  dom := fun b hb => by
    unfold stL at hb
    split at hb
    · assumption
    · exact (hb rfl).elim
  rows := fun b b' w h => by unfold stL at h; split at h <;> cases h
  objs := fun b b' k h => by unfold stL at h; split at h <;> cases h

theorem stL_low (W : World) : Low W.heap.size W (stL W) W where
  below := ⟨rfl, rfl, rfl, Nat.le_refl _, fun _ _ => rfl⟩
  size := Nat.le_refl _
  lab := fun b hb => .inl (by unfold stL; rw [if_pos hb])

/-- What is shown of a law's function is what its call does. -/
theorem law_calls {P : Program} {f : FuncId} {xs : List AV} {vs : List Value} {W : World} (h : Sound P W.heap.size W f xs [] (· = .ret (.lf (.val .bool true)) [])) (hx : All2 (RepA (stL W) W) xs vs) :
    Calls P f vs.toArray W fun e W' => e = .returned (.bool true) ∧ RowKit.Below W.heap.size W W' := by
  refine (h.2 (stL W) W vs (stL_ok W) (stL_low W) hx ⟨by simp, by simp⟩).mono ?_
  rintro e W' ⟨o, B', rfl, h1, h2, h3, h4⟩
  cases e with
  | returned u =>
    obtain ⟨hu, _⟩ := h4
    exact ⟨by rw [rep_bool hu], h2.below⟩
  | panicked ch => exact h4.elim
  | outgrown => exact h4.elim

end Go.V
