/- Texts of this claim, one after the other: the calculus V and the functions' contracts. Conditions: as each states. -/
import Derived.Test.YtimhjbihhchieaaDoorMProtocolBack1
import Derived.Laws.AppendOwn
import Derived.Below
namespace Go.V

inductive All2 {α β : Type} (R : α → β → Prop) : List α → List β → Prop
  | nil : All2 R [] []
  | cons {a : α} {b : β} {l : List α} {l' : List β} : R a b → All2 R l l' → All2 R (a :: l) (b :: l')

inductive Lbl where
  | no | st | row (w : Ow) | obj (k : Nat)

abbrev Lab := Nat → Lbl

def Elems {α : Type} (R : α → List Value → Prop) (sz : Nat) (W : World) (l : List α) (ad : Addr) : Prop :=
  ∀ i (h : i < l.length), ∃ es, R l[i] es ∧ ∀ j v, es[j]? = some v → W.cell? (ad.add (i * sz + j)) = some v

def RepC (B : Lab) (W : World) : (t : Ty) → t.den → List Value → Prop
  | .int k, x, cs => cs = [.int k x]
  | .bool, x, cs => cs = [.bool x]
  | .str, x, cs => cs = [.string x]
  | .nil, _, cs => cs = []
  | .cons a b, x, cs => ∃ c1 c2, cs = c1 ++ c2 ∧ RepC B W a x.1 c1 ∧ RepC B W b x.2 c2
  | .slice e, l, cs => ∃ a cap, cs = [.slice a (List.length l) cap] ∧ List.length l ≤ cap ∧
      (l = [] ∨ ∃ ad, a = some ad ∧ B ad.block = .st ∧ ad.spot = none ∧ Elems (fun x es => RepC B W e x es) e.sz W l ad)

theorem RepC.len {B : Lab} {W : World} : ∀ {t : Ty} {x : t.den} {cs : List Value}, RepC B W t x cs → cs.length = t.sz
  | .int _, _, _, h => by rw [show _ = _ from h]; rfl
  | .bool, _, _, h => by rw [show _ = _ from h]; rfl
  | .str, _, _, h => by rw [show _ = _ from h]; rfl
  | .nil, _, _, h => by rw [show _ = _ from h]; rfl
  | .cons a b, x, cs, h => by
    obtain ⟨c1, c2, rfl, h1, h2⟩ := h
    rw [List.length_append, h1.len, h2.len]; rfl
  | .slice e, _, _, h => by
    obtain ⟨a, cap, rfl, _⟩ := h
    rfl

/-- what stays: memory that is never written -/
structure ExtS (B : Lab) (W : World) (B' : Lab) (W' : World) : Prop where
  st : ∀ b, B b = .st → B' b = .st ∧ W'.heap[b]? = W.heap[b]?

theorem cell_of_heap {W W' : World} {a : Addr} (h : W'.heap[a.block]? = W.heap[a.block]?) : W'.cell? a = W.cell? a := by
  simp [World.cell?, h]
theorem add_block (a : Addr) (n : Nat) : (a.add n).block = a.block := by unfold Addr.add; split <;> rfl

theorem Elems.mono {α : Type} {R R' : α → List Value → Prop} {sz : Nat} {W W' : World} {l : List α} {ad : Addr} (h : Elems R sz W l ad)
    (hr : ∀ x es, x ∈ l → R x es → R' x es) (hw : W'.heap[ad.block]? = W.heap[ad.block]?) : Elems R' sz W' l ad := by
  intro i hi
  obtain ⟨es, h1, h2⟩ := h i hi
  exact ⟨es, hr _ _ (List.getElem_mem hi) h1, fun j v hv => (cell_of_heap (W := W) (by rw [add_block]; exact hw)).trans (h2 j v hv)⟩

theorem RepC.ext {B B' : Lab} {W W' : World} (hx : ExtS B W B' W') : ∀ {t : Ty} {x : t.den} {cs : List Value}, RepC B W t x cs → RepC B' W' t x cs
  | .int _, _, _, h => h
  | .bool, _, _, h => h
  | .str, _, _, h => h
  | .nil, _, _, h => h
  | .cons a b, x, cs, h => by
    obtain ⟨c1, c2, rfl, h1, h2⟩ := h
    exact ⟨c1, c2, rfl, h1.ext hx, h2.ext hx⟩
  | .slice e, l, cs, h => by
    obtain ⟨a, cap, rfl, hc, h⟩ := h
    refine ⟨a, cap, rfl, hc, h.imp id ?_⟩
    rintro ⟨ad, rfl, hb, hs, he⟩
    exact ⟨ad, rfl, (hx.st _ hb).1, hs, he.mono (fun x es _ h => RepC.ext hx h) (hx.st _ hb).2⟩

def RepV (B : Lab) (W : World) (t : Ty) (x : t.den) (v : Value) : Prop :=
  match t.agg with
  | true => ∃ cs, v = .agg cs.toArray ∧ RepC B W t x cs
  | false => RepC B W t x [v]

theorem RepV.ext {B B' : Lab} {W W' : World} (hx : ExtS B W B' W') {t : Ty} {x : t.den} {v : Value} (h : RepV B W t x v) : RepV B' W' t x v := by
  unfold RepV at *
  split
  · rename_i ha; rw [ha] at h; obtain ⟨cs, rfl, h⟩ := h; exact ⟨cs, rfl, h.ext hx⟩
  · rename_i ha; rw [ha] at h; exact h.ext hx

/-- the mark of a conversion lies behind the cells -/
def UnF (n : Nat) (fz : Nat × Nat) : Prop := fz.1 = fz.2 ∨ n ≤ fz.1
theorem UnF.un {n : Nat} {fz : Nat × Nat} (h : UnF n fz) : ∀ i, i < n → ¬ (fz.1 ≤ i ∧ i < fz.2) := fun i hi => by
  rcases h with h | h <;> omega

/-- a row of one's own in block b -/
def RowBlk (B : Lab) (W : World) (w : Ow) (e : Ty) (l : List e.den) (cap b : Nat) : Prop :=
  B b = .row w ∧ ∃ arr ty fz, W.heap[b]? = some (.cells arr ty fz) ∧ UnF arr.size fz ∧ l.length ≤ cap ∧ cap * e.sz ≤ arr.size ∧
    Elems (fun x es => RepC B W e x es) e.sz W l ⟨b, 0, none⟩

def OwnRow (B : Lab) (W : World) (w : Ow) (e : Ty) (l : List e.den) (v : Value) : Prop :=
  (v = .slice none 0 0 ∧ l = []) ∨ ∃ b cap, v = .slice (some ⟨b, 0, none⟩) l.length cap ∧ RowBlk B W w e l cap b

def Lens (e t : Ty) (off : Nat) (get : e.den → t.den) (set : e.den → t.den → e.den) : Prop :=
  ∀ (B : Lab) (W : World) (x : e.den) (cs : List Value), RepC B W e x cs → ∃ c1 c2 c3, cs = c1 ++ c2 ++ c3 ∧ c1.length = off ∧ RepC B W t (get x) c2 ∧
    ∀ y c2', RepC B W t y c2' → RepC B W e (set x y) (c1 ++ c2' ++ c3)

def Rep0 (B : Lab) (W : World) : A0 → Value → Prop
  | .undef, _ => True
  | .val t x, v => RepV B W t x v
  | .pv t x, v => ∃ ad cs, v = .pointer (some ad) ∧ B ad.block = .st ∧ ad.spot = none ∧ RepC B W t x cs ∧ ∀ j u, cs[j]? = some u → W.cell? (ad.add j) = some u
  | .al w e l, v => OwnRow B W w e l v
  | .vp w e l i t off get set, v => ∃ b cap, v = .pointer (some ⟨b, i * e.sz + off, none⟩) ∧ i < l.length ∧ RowBlk B W w e l cap b ∧ Lens e t off get set
  | .full e l, v => ∃ a, v = .slice a l.length l.length ∧ (l = [] ∨ ∃ ad, a = some ad ∧ B ad.block = .st ∧ ad.spot = none ∧ Elems (fun x es => RepC B W e x es) e.sz W l ad)
  | .sc u, v => v = u
  | .ptr k off, v => ∃ b, B b = .obj k ∧ v = .pointer (some ⟨b, off, none⟩)

def RepA (B : Lab) (W : World) : AV → Value → Prop
  | .lf a, v => Rep0 B W a v
  | .tup xs, v => ∃ vs : Array Value, v = .tuple vs ∧ All2 (Rep0 B W) xs vs.toList
  | .fn f a b, v => ∃ va vb : Array Value, v = .func f va vb ∧ All2 (Rep0 B W) a va.toList ∧ All2 (Rep0 B W) b vb.toList
  | .iface t a, v => ∃ u, v = .iface t u ∧ Rep0 B W a u
  | .st xs, v => ∃ vs : Array Value, v = .agg vs ∧ All2 (Rep0 B W) xs vs.toList

def A0.has (w : Ow) : A0 → Prop
  | .al u _ _ => u = w
  | .vp u .. => u = w
  | _ => False
def A0.at (k : Nat) : A0 → Prop
  | .ptr j _ => j = k
  | _ => False

/-- what stays, but for the rows in dr and the objects in dk -/
structure Ext (B : Lab) (W : World) (B' : Lab) (W' : World) (dr : Ow → Prop) (dk : Nat → Prop) : Prop where
  st : ∀ b, B b = .st → B' b = .st ∧ W'.heap[b]? = W.heap[b]?
  row : ∀ b w, B b = .row w → ¬ dr w → B' b = .row w ∧ W'.heap[b]? = W.heap[b]?
  obj : ∀ b k, B b = .obj k → ¬ dk k → B' b = .obj k

theorem Ext.s {B B' : Lab} {W W' : World} {dr : Ow → Prop} {dk : Nat → Prop} (h : Ext B W B' W' dr dk) : ExtS B W B' W' := ⟨h.st⟩

theorem RowBlk.ext {B B' : Lab} {W W' : World} {w : Ow} {e : Ty} {l : List e.den} {cap b : Nat} (hs : ExtS B W B' W') (hr : ∀ b, B b = .row w → B' b = .row w ∧ W'.heap[b]? = W.heap[b]?)
    (h : RowBlk B W w e l cap b) : RowBlk B' W' w e l cap b := by
  obtain ⟨hb, arr, ty, fz, h1, h2, h3, h4, h5⟩ := h
  obtain ⟨hb', hw⟩ := hr b hb
  exact ⟨hb', arr, ty, fz, hw.trans h1, h2, h3, h4, h5.mono (fun x es _ h => RepC.ext hs h) hw⟩

theorem OwnRow.ext {B B' : Lab} {W W' : World} {w : Ow} {e : Ty} {l : List e.den} {v : Value} (hs : ExtS B W B' W') (hr : ∀ b, B b = .row w → B' b = .row w ∧ W'.heap[b]? = W.heap[b]?)
    (h : OwnRow B W w e l v) : OwnRow B' W' w e l v := by
  refine h.imp id ?_
  rintro ⟨b, cap, rfl, h'⟩
  exact ⟨b, cap, rfl, RowBlk.ext hs hr h'⟩

theorem Rep0.ext {B B' : Lab} {W W' : World} {dr : Ow → Prop} {dk : Nat → Prop} (hx : Ext B W B' W' dr dk) {a : A0} {v : Value}
    (hr : ∀ w, a.has w → ¬ dr w) (hk : ∀ k, a.at k → ¬ dk k) (h : Rep0 B W a v) : Rep0 B' W' a v := by
  cases a with
  | undef => trivial
  | val t x => exact RepV.ext hx.s h
  | pv t x =>
    obtain ⟨ad, cs, rfl, hb, hs, hc, hu⟩ := h
    exact ⟨ad, cs, rfl, (hx.st _ hb).1, hs, hc.ext hx.s, fun j u hj => (cell_of_heap (W := W) (by rw [add_block]; exact (hx.st _ hb).2)).trans (hu j u hj)⟩
  | al w e l => exact OwnRow.ext hx.s (fun b hb => hx.row b w hb (hr w rfl)) h
  | vp w e l i t off g s =>
    obtain ⟨b, cap, rfl, hi, hb, hl⟩ := h
    exact ⟨b, cap, rfl, hi, hb.ext hx.s (fun b hb => hx.row b w hb (hr w rfl)), hl⟩
  | full e l =>
    obtain ⟨ad, rfl, h⟩ := h
    refine ⟨ad, rfl, h.imp id ?_⟩
    rintro ⟨ad, rfl, hb, hs, he⟩
    exact ⟨ad, rfl, (hx.st _ hb).1, hs, he.mono (fun x es _ h => RepC.ext hx.s h) (hx.st _ hb).2⟩
  | sc u => exact h
  | ptr k off =>
    obtain ⟨b, hb, rfl⟩ := h
    exact ⟨b, hx.obj b k hb (hk k rfl), rfl⟩

theorem forall2_map {α β γ : Type} {R : α → β → Prop} {S : γ → β → Prop} {f : α → γ} : ∀ {l : List α} {l' : List β}, All2 R l l' → (∀ a b, R a b → S (f a) b) → All2 S (l.map f) l'
  | [], [], .nil, _ => .nil
  | _ :: _, _ :: _, .cons h t, hs => .cons (hs _ _ h) (forall2_map t hs)

theorem forall2_imp {α β : Type} {R S : α → β → Prop} : ∀ {l : List α} {l' : List β}, All2 R l l' → (∀ a b, a ∈ l → R a b → S a b) → All2 S l l'
  | [], [], .nil, _ => .nil
  | _ :: _, _ :: _, .cons h t, hs => .cons (hs _ _ List.mem_cons_self h) (forall2_imp t fun a b ha => hs a b (List.mem_cons_of_mem _ ha))

theorem RepA.map {B B' : Lab} {W W' : World} {f : A0 → A0} (hf : ∀ a v, Rep0 B W a v → Rep0 B' W' (f a) v) {a : AV} {v : Value} (h : RepA B W a v) : RepA B' W' (a.map f) v := by
  cases a with
  | lf a => exact hf a v h
  | tup xs => obtain ⟨vs, rfl, h⟩ := h; exact ⟨vs, rfl, forall2_map h hf⟩
  | fn g a b => obtain ⟨va, vb, rfl, h1, h2⟩ := h; exact ⟨va, vb, rfl, forall2_map h1 hf, forall2_map h2 hf⟩
  | iface t a => obtain ⟨u, rfl, h⟩ := h; exact ⟨u, rfl, hf a u h⟩
  | st xs => obtain ⟨vs, rfl, h⟩ := h; exact ⟨vs, rfl, forall2_map h hf⟩

theorem AV.map_id (a : AV) : a.map id = a := by cases a <;> simp [AV.map]

theorem RepA.ext {B B' : Lab} {W W' : World} (hx : Ext B W B' W' (fun _ => False) (fun _ => False)) {a : AV} {v : Value} (h : RepA B W a v) : RepA B' W' a v := by
  have := RepA.map (f := id) (fun a v h => Rep0.ext hx (fun _ _ h => h) (fun _ _ h => h) h) h
  rwa [AV.map_id] at this

theorem A0.kill_or (w : Ow) (a : A0) : (a.kill w = .undef) ∨ (a.kill w = a ∧ ¬ a.has w) := by
  cases a <;> simp only [A0.kill, A0.has] <;> (try split) <;> simp_all
theorem A0.drop_or (k : Nat) (a : A0) : (a.drop k = .undef) ∨ (a.drop k = a ∧ ¬ a.at k) := by
  cases a <;> simp only [A0.drop, A0.at] <;> (try split) <;> simp_all

theorem Rep0.kill {B B' : Lab} {W W' : World} {w : Ow} (hx : Ext B W B' W' (· = w) (fun _ => False)) {a : A0} {v : Value} (h : Rep0 B W a v) : Rep0 B' W' (a.kill w) v := by
  rcases A0.kill_or w a with e | ⟨e, hn⟩
  · rw [e]; trivial
  · rw [e]; exact Rep0.ext hx (fun u hu hd => hn (hd ▸ hu)) (fun _ _ h => h) h

theorem Rep0.drop {B B' : Lab} {W W' : World} {k : Nat} (hx : Ext B W B' W' (fun _ => False) (· = k)) {a : A0} {v : Value} (h : Rep0 B W a v) : Rep0 B' W' (a.drop k) v := by
  rcases A0.drop_or k a with e | ⟨e, hn⟩
  · rw [e]; trivial
  · rw [e]; exact Rep0.ext hx (fun _ _ h => h) (fun u hu hd => hn (hd ▸ hu)) h

/-! ### laying out is nothing -/
theorem fv0_eq (a : A0) (K : A0 → Prop) : fv0 a K = K a := by cases a <;> rfl
theorem fl0_eq : ∀ (l : List A0) (K : List A0 → Prop), fl0 l K = K l
  | [], _ => rfl
  | a :: l, K => by simp only [fl0, fv0_eq, fl0_eq l]
theorem fv_eq (a : AV) (K : AV → Prop) : fv a K = K a := by cases a <;> simp only [fv, fv0_eq, fl0_eq]
theorem fr_eq : ∀ (l : Regs) (K : Regs → Prop), fr l K = K l
  | [], _ => rfl
  | a :: l, K => by simp only [fr, fv_eq, fr_eq l]
theorem fs_eq : ∀ (l : Regs) (K : Regs → Prop), fs l K = K l
  | [], _ => rfl
  | a :: l, K => by simp only [fs, fs_eq l]
theorem fm_eq : ∀ (l : Mem) (K : Mem → Prop), fm l K = K l
  | [], _ => rfl
  | (k, c) :: l, K => by simp only [fm, fl0_eq, fm_eq l]
theorem fl_eq : ∀ (l : List AV) (K : List AV → Prop), fl l K = K l
  | [], _ => rfl
  | a :: l, K => by simp only [fl, fv_eq, fl_eq l]
theorem mapS_eq (f : A0 → A0) (r : Regs) (m : Mem) (K : Regs → Mem → Prop) : mapS f r m K = K (r.map (AV.map f)) (mmap f m) := by
  simp only [mapS, fr_eq, fm_eq]
theorem vput_some (r : Regs) (m : Mem) (d : Nat) (v : AV) (K : Regs → Mem → Prop) : vput r m (some d) v K = K (r.set d v) m := by
  simp only [vput, fv_eq, fs_eq]
theorem vput_none (r : Regs) (m : Mem) (v : AV) (K : Regs → Mem → Prop) : vput r m none v K = K r m := rfl

/-! ### the state of a function -/

structure LabOK (B : Lab) (W : World) : Prop where
  dom : ∀ b, B b ≠ .no → b < W.heap.size
  rows : ∀ b b' w, B b = .row w → B b' = .row w → b = b'
  objs : ∀ b b' k, B b = .obj k → B b' = .obj k → b = b'

/-- what a piece of code leaves as it was -/
structure Move (B : Lab) (W : World) (B' : Lab) (W' : World) : Prop where
  size : W.heap.size ≤ W'.heap.size
  os : W'.os = W.os
  tape : W'.tape = W.tape
  output : W'.output = W.output
  st : ∀ b, B b = .st → B' b = .st ∧ W'.heap[b]? = W.heap[b]?
  no : ∀ b, b < W.heap.size → B b = .no → B' b = .no ∧ W'.heap[b]? = W.heap[b]?
  obj : ∀ b k, 1000 ≤ k → k < 2000 → B b = .obj k → B' b = .obj k

theorem Move.refl (B : Lab) (W : World) : Move B W B W := ⟨Nat.le_refl _, rfl, rfl, rfl, fun _ h => ⟨h, rfl⟩, fun _ _ h => ⟨h, rfl⟩, fun _ _ _ _ h => h⟩
theorem Move.trans {B B' B'' : Lab} {W W' W'' : World} (h : Move B W B' W') (g : Move B' W' B'' W'') : Move B W B'' W'' where
  size := Nat.le_trans h.size g.size
  os := g.os.trans h.os
  tape := g.tape.trans h.tape
  output := g.output.trans h.output
  st := fun b hb => ⟨(g.st b (h.st b hb).1).1, (g.st b (h.st b hb).1).2.trans (h.st b hb).2⟩
  no := fun b hl hb => ⟨(g.no b (Nat.lt_of_lt_of_le hl h.size) (h.no b hl hb).1).1, (g.no b (Nat.lt_of_lt_of_le hl h.size) (h.no b hl hb).1).2.trans (h.no b hl hb).2⟩
  obj := fun b k hk hk' hb => g.obj b k hk hk' (h.obj b k hk hk' hb)

/-- below N all is as it was when the law began -/
structure Low (N : Nat) (WL : World) (B : Lab) (W : World) : Prop where
  below : RowKit.Below N WL W
  size : N ≤ W.heap.size
  lab : ∀ b, b < N → B b = .st ∨ B b = .no

theorem Low.move {N : Nat} {WL : World} {B B' : Lab} {W W' : World} (h : Low N WL B W) (g : Move B W B' W') : Low N WL B' W' where
  below := h.below.trans ⟨g.os, g.tape, g.output, g.size, fun b hb => (h.lab b hb).elim (fun e => (g.st b e).2) fun e => (g.no b (Nat.lt_of_lt_of_le hb h.size) e).2⟩
  size := Nat.le_trans h.size g.size
  lab := fun b hb => (h.lab b hb).elim (fun e => .inl (g.st b e).1) fun e => .inr (g.no b (Nat.lt_of_lt_of_le hb h.size) e).1

def MemOK (B : Lab) (W : World) (m : Mem) : Prop :=
  (m.map (·.1)).Nodup ∧ ∀ p ∈ m, ∃ b arr ty, B b = .obj p.1 ∧ W.heap[b]? = some (.cells arr ty (0, 0)) ∧ All2 (Rep0 B W) p.2 arr.toList

structure Inv (B0 : Lab) (W0 : World) (N : Nat) (WL : World) (B : Lab) (W : World) (r : Regs) (m : Mem) (tm : List Value) : Prop where
  lab : LabOK B W
  low : Low N WL B W
  move : Move B0 W0 B W
  regs : All2 (RepA B W) r tm
  mem : MemOK B W m

theorem All2.len {α β : Type} {R : α → β → Prop} : ∀ {l : List α} {l' : List β}, All2 R l l' → l.length = l'.length
  | _, _, .nil => rfl
  | _, _, .cons _ t => by simp [t.len]
theorem All2.get {α β : Type} {R : α → β → Prop} : ∀ {l : List α} {l' : List β}, All2 R l l' → ∀ (i : Nat) (a : α), l[i]? = some a → ∃ b, l'[i]? = some b ∧ R a b
  | _, _, .nil, i, a, h => by simp at h
  | _, _, .cons h t, 0, a, e => by simp at e; subst e; exact ⟨_, by simp, h⟩
  | _, _, .cons h t, i + 1, a, e => by simpa using t.get i a (by simpa using e)
theorem All2.set {α β : Type} {R : α → β → Prop} : ∀ {l : List α} {l' : List β}, All2 R l l' → ∀ (i : Nat) (a : α) (b : β), R a b → All2 R (l.set i a) (l'.set i b)
  | _, _, .nil, _, _, _, _ => .nil
  | _, _, .cons _ t, 0, _, _, h => .cons h t
  | _, _, .cons h t, i + 1, a, b, e => .cons h (t.set i a b e)
theorem All2.append {α β : Type} {R : α → β → Prop} : ∀ {l : List α} {l' : List β} {k : List α} {k' : List β}, All2 R l l' → All2 R k k' → All2 R (l ++ k) (l' ++ k')
  | _, _, _, _, .nil, h => h
  | _, _, _, _, .cons h t, g => .cons h (t.append g)
theorem All2.take {α β : Type} {R : α → β → Prop} : ∀ {l : List α} {l' : List β}, All2 R l l' → ∀ n, All2 R (l.take n) (l'.take n)
  | _, _, .nil, n => by simp; exact .nil
  | _, _, .cons h t, 0 => .nil
  | _, _, .cons h t, n + 1 => .cons h (t.take n)
theorem All2.drop {α β : Type} {R : α → β → Prop} : ∀ {l : List α} {l' : List β}, All2 R l l' → ∀ n, All2 R (l.drop n) (l'.drop n)
  | _, _, .nil, n => by simp; exact .nil
  | _, _, .cons h t, 0 => .cons h t
  | _, _, .cons h t, n + 1 => t.drop n

theorem mmap_keys (f : A0 → A0) (m : Mem) : (mmap f m).map (·.1) = m.map (·.1) := by simp [mmap]

/-- a step that turns labels and memory, and what is known with them -/
theorem Inv.turn {B0 : Lab} {W0 : World} {N : Nat} {WL : World} {B B' : Lab} {W W' : World} {r : Regs} {m : Mem} {tm : List Value} (h : Inv B0 W0 N WL B W r m tm)
    (hl : LabOK B' W') (hm : Move B W B' W') (f : A0 → A0) (hf : ∀ a v, Rep0 B W a v → Rep0 B' W' (f a) v)
    (ho : ∀ b k, B b = .obj k → k ∈ m.map (·.1) → B' b = .obj k ∧ W'.heap[b]? = W.heap[b]?) : Inv B0 W0 N WL B' W' (r.map (AV.map f)) (mmap f m) tm where
  lab := hl
  low := h.low.move hm
  move := h.move.trans hm
  regs := forall2_map h.regs fun a v ha => RepA.map hf ha
  mem := by
    refine ⟨by rw [mmap_keys]; exact h.mem.1, ?_⟩
    intro p hp
    obtain ⟨q, hq, rfl⟩ := List.mem_map.1 hp
    obtain ⟨b, arr, ty, hb, hw, hc⟩ := h.mem.2 q hq
    obtain ⟨hb', hw'⟩ := ho b q.1 hb (List.mem_map.2 ⟨q, hq, rfl⟩)
    exact ⟨b, arr, ty, hb', hw'.trans hw, forall2_map hc hf⟩

def killL (B : Lab) (w : Ow) : Lab := fun b => match B b with | .row u => if u = w then .no else .row u | x => x
def frzL (B : Lab) (w : Ow) : Lab := fun b => match B b with | .row u => if u = w then .st else .row u | x => x
def renL (B : Lab) (w w' : Ow) : Lab := fun b => match B b with | .row u => if u = w then .row w' else .row u | x => x
def dropL (B : Lab) (k : Nat) : Lab := fun b => match B b with | .obj j => if j = k then .no else .obj j | x => x

theorem killL_ext (B : Lab) (W : World) (w : Ow) : Ext B W (killL B w) W (· = w) (fun _ => False) where
  st := fun b h => by simp [killL, h]
  row := fun b u h hn => by simp [killL, h, hn]
  obj := fun b k h _ => by simp [killL, h]
theorem killL_move (B : Lab) (W : World) (w : Ow) : Move B W (killL B w) W :=
  ⟨Nat.le_refl _, rfl, rfl, rfl, fun b h => by simp [killL, h], fun b _ h => by simp [killL, h], fun b k _ _ h => by simp [killL, h]⟩
theorem killL_row {B : Lab} {w u : Ow} {b : Nat} (h : killL B w b = .row u) : B b = .row u ∧ u ≠ w := by
  unfold killL at h
  split at h
  · rename_i q hq
    split at h
    · cases h
    · rename_i hn; cases h; exact ⟨hq, hn⟩
  · rename_i hq; exact absurd h (hq u)
theorem killL_obj {B : Lab} {w : Ow} {k b : Nat} (h : killL B w b = .obj k) : B b = .obj k := by
  unfold killL at h
  split at h
  · split at h <;> cases h
  · exact h
theorem killL_ok {B : Lab} {W : World} (h : LabOK B W) (w : Ow) : LabOK (killL B w) W where
  dom := fun b hb => h.dom b (fun e => hb (by simp [killL, e]))
  rows := fun b b' u h1 h2 => h.rows b b' u (killL_row h1).1 (killL_row h2).1
  objs := fun b b' k h1 h2 => h.objs b b' k (killL_obj h1) (killL_obj h2)

section
variable {B0 : Lab} {W0 : World} {N : Nat} {WL : World} {B : Lab} {W : World} {r : Regs} {m : Mem} {tm : List Value}

theorem Inv.kill (h : Inv B0 W0 N WL B W r m tm) (w : Ow) : Inv B0 W0 N WL (killL B w) W (r.map (AV.map (A0.kill w))) (mmap (A0.kill w) m) tm :=
  h.turn (killL_ok h.lab w) (killL_move B W w) _ (fun _ _ ha => Rep0.kill (killL_ext B W w) ha) fun b k hb _ => ⟨(killL_ext B W w).obj b k hb (fun h => h), rfl⟩

theorem frzL_row {w u : Ow} {b : Nat} (h : frzL B w b = .row u) : B b = .row u ∧ u ≠ w := by
  unfold frzL at h
  split at h
  · rename_i q hq
    split at h
    · cases h
    · rename_i hn; cases h; exact ⟨hq, hn⟩
  · rename_i hq; exact absurd h (hq u)
theorem frzL_obj {w : Ow} {k b : Nat} (h : frzL B w b = .obj k) : B b = .obj k := by
  unfold frzL at h
  split at h
  · split at h <;> cases h
  · exact h
theorem frzL_ext (B : Lab) (W : World) (w : Ow) : Ext B W (frzL B w) W (· = w) (fun _ => False) where
  st := fun b h => by simp [frzL, h]
  row := fun b u h hn => by simp [frzL, h, hn]
  obj := fun b k h _ => by simp [frzL, h]
theorem frzL_move (B : Lab) (W : World) (w : Ow) : Move B W (frzL B w) W :=
  ⟨Nat.le_refl _, rfl, rfl, rfl, fun b h => by simp [frzL, h], fun b _ h => by simp [frzL, h], fun b k _ _ h => by simp [frzL, h]⟩
theorem frzL_ok (h : LabOK B W) (w : Ow) : LabOK (frzL B w) W where
  dom := fun b hb => h.dom b (fun e => hb (by simp [frzL, e]))
  rows := fun b b' u h1 h2 => h.rows b b' u (frzL_row h1).1 (frzL_row h2).1
  objs := fun b b' k h1 h2 => h.objs b b' k (frzL_obj h1) (frzL_obj h2)

/-- a row that is frozen is a stable value -/
theorem OwnRow.frz {w : Ow} {e : Ty} {l : List e.den} {v : Value} (h : OwnRow B W w e l v) : Rep0 (frzL B w) W (.val (.slice e) l) v := by
  show RepC (frzL B w) W (.slice e) l [v]
  rcases h with ⟨rfl, rfl⟩ | ⟨b, cap, rfl, hb, arr, ty, fz, h1, h2, h3, h4, h5⟩
  · exact ⟨none, 0, rfl, Nat.le_refl _, .inl rfl⟩
  · exact ⟨_, cap, rfl, h3, .inr ⟨⟨b, 0, none⟩, rfl, by simp [frzL, hb], rfl, h5.mono (fun x es _ h => RepC.ext (frzL_ext B W w).s h) rfl⟩⟩

theorem A0.frz_or (w : Ow) (a : A0) : (a.frz w = .undef) ∨ (a.frz w = a ∧ ¬ a.has w) ∨ (∃ e l, a = .al w e l ∧ a.frz w = .val (.slice e) l) := by
  cases a with
  | al u e l =>
    by_cases h : u = w
    · subst h; exact .inr (.inr ⟨e, l, rfl, by simp [A0.frz]⟩)
    · exact .inr (.inl ⟨by simp [A0.frz, h], h⟩)
  | vp u e l i t off g s =>
    by_cases h : u = w
    · exact .inl (by simp [A0.frz, h])
    · exact .inr (.inl ⟨by simp [A0.frz, h], h⟩)
  | _ => exact .inr (.inl ⟨rfl, fun h => h⟩)

theorem Rep0.frz {w : Ow} {a : A0} {v : Value} (h : Rep0 B W a v) : Rep0 (frzL B w) W (a.frz w) v := by
  rcases A0.frz_or w a with e | ⟨e, hn⟩ | ⟨e, l, rfl, he⟩
  · rw [e]; trivial
  · rw [e]; exact Rep0.ext (frzL_ext B W w) (fun u hu hd => hn (hd ▸ hu)) (fun _ _ h => h) h
  · rw [he]; exact OwnRow.frz h

theorem Inv.frz (h : Inv B0 W0 N WL B W r m tm) (w : Ow) : Inv B0 W0 N WL (frzL B w) W (r.map (AV.map (A0.frz w))) (mmap (A0.frz w) m) tm :=
  h.turn (frzL_ok h.lab w) (frzL_move B W w) _ (fun _ _ ha => Rep0.frz ha) fun b k hb _ => ⟨(frzL_ext B W w).obj b k hb (fun h => h), rfl⟩

end

end Go.V
