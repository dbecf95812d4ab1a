/- V: new blocks, and blocks that are written. Conditions: as each states. -/
import Derived.Test.YtimhjbihhchieaaVF
namespace Go.V
set_option linter.unusedVariables false
set_option linter.unusedSimpArgs false

/-- W' is W with one new block -/
structure NewW (W W' : World) (o : Obj) : Prop where
  size : W'.heap.size = W.heap.size + 1
  old : ∀ b, b < W.heap.size → W'.heap[b]? = W.heap[b]?
  new : W'.heap[W.heap.size]? = some o
  os : W'.os = W.os
  tape : W'.tape = W.tape
  output : W'.output = W.output

theorem NewW.push {W W' : World} {o : Obj} (h : W'.heap = W.heap.push o) (h1 : W'.os = W.os) (h2 : W'.tape = W.tape) (h3 : W'.output = W.output) : NewW W W' o where
  size := by rw [h, Array.size_push]
  old := fun b hb => by rw [h, Array.getElem?_push, if_neg (by omega)]
  new := by rw [h, Array.getElem?_push, if_pos rfl]
  os := h1
  tape := h2
  output := h3
theorem NewW.alloc (W : World) (o : Obj) : NewW W (W.alloc o) o := .push rfl rfl rfl rfl
theorem NewW.drew (W : World) (o : Obj) : NewW W (W.drew.alloc o) o := .push rfl rfl rfl rfl

/-- W' is W but for block b -/
structure AtW (W W' : World) (b : Nat) (o : Obj) : Prop where
  size : W'.heap.size = W.heap.size
  other : ∀ k, k ≠ b → W'.heap[k]? = W.heap[k]?
  here : W'.heap[b]? = some o
  os : W'.os = W.os
  tape : W'.tape = W.tape
  output : W'.output = W.output

def newL (B : Lab) (n : Nat) (L : Lbl) : Lab := fun b => if b = n then L else B b

section
variable {B0 : Lab} {W0 : World} {N : Nat} {WL : World} {B : Lab} {W W' : World} {r : Regs} {m : Mem} {tm : List Value}

theorem LabOK.out (h : LabOK B W) {b : Nat} (hb : W.heap.size ≤ b) : B b = .no := by
  cases e : B b with
  | no => rfl
  | _ => have := h.dom b (by rw [e]; exact fun h => by cases h); omega

theorem newL_old {n b : Nat} {L : Lbl} (h : b ≠ n) : newL B n L b = B b := by simp [newL, h]
theorem newL_new {n : Nat} {L : Lbl} : newL B n L n = L := by simp [newL]

theorem newL_ext (h : LabOK B W) {o : Obj} (hw : NewW W W' o) (L : Lbl) : Ext B W (newL B W.heap.size L) W' (fun _ => False) (fun _ => False) := by
  have key : ∀ b, B b ≠ .no → b < W.heap.size := h.dom
  refine ⟨fun b hb => ?_, fun b w hb _ => ?_, fun b k hb _ => ?_⟩
  · have hlt := key b (by rw [hb]; exact fun h => by cases h)
    exact ⟨by rw [newL_old (by omega)]; exact hb, hw.old b hlt⟩
  · have hlt := key b (by rw [hb]; exact fun h => by cases h)
    exact ⟨by rw [newL_old (by omega)]; exact hb, hw.old b hlt⟩
  · have hlt := key b (by rw [hb]; exact fun h => by cases h)
    rw [newL_old (by omega)]; exact hb

theorem newL_move (h : LabOK B W) {o : Obj} (hw : NewW W W' o) (L : Lbl) : Move B W (newL B W.heap.size L) W' where
  size := by rw [hw.size]; omega
  os := hw.os
  tape := hw.tape
  output := hw.output
  st := fun b hb => (newL_ext h hw L).st b hb
  no := fun b hlt hb => ⟨by rw [newL_old (by omega)]; exact hb, hw.old b hlt⟩
  obj := fun b k _ _ hb => (newL_ext h hw L).obj b k hb (fun h => h)

theorem newL_ok (h : LabOK B W) {o : Obj} (hw : NewW W W' o) {L : Lbl} (h1 : ∀ w, L = .row w → ∀ b, B b ≠ .row w) (h2 : ∀ k, L = .obj k → ∀ b, B b ≠ .obj k) : LabOK (newL B W.heap.size L) W' where
  dom := fun b hb => by
    rw [hw.size]
    by_cases e : b = W.heap.size
    · omega
    · rw [newL_old e] at hb; have := h.dom b hb; omega
  rows := fun b b' w e e' => by
    by_cases c : b = W.heap.size <;> by_cases c' : b' = W.heap.size
    · omega
    · subst c; rw [newL_new] at e; rw [newL_old c'] at e'; exact absurd e' (h1 w e b')
    · subst c'; rw [newL_new] at e'; rw [newL_old c] at e; exact absurd e (h1 w e' b)
    · rw [newL_old c] at e; rw [newL_old c'] at e'; exact h.rows b b' w e e'
  objs := fun b b' w e e' => by
    by_cases c : b = W.heap.size <;> by_cases c' : b' = W.heap.size
    · omega
    · subst c; rw [newL_new] at e; rw [newL_old c'] at e'; exact absurd e' (h2 w e b')
    · subst c'; rw [newL_new] at e'; rw [newL_old c] at e; exact absurd e (h2 w e' b)
    · rw [newL_old c] at e; rw [newL_old c'] at e'; exact h.objs b b' w e e'

theorem mmap_id (m : Mem) : mmap id m = m := by simp [mmap]
theorem rmap_id (r : Regs) : r.map (AV.map id) = r := by
  rw [show (AV.map id) = id from funext AV.map_id]; simp

theorem Inv.new (h : Inv B0 W0 N WL B W r m tm) {o : Obj} (hw : NewW W W' o) {L : Lbl} (h1 : ∀ w, L = .row w → ∀ b, B b ≠ .row w) (h2 : ∀ k, L = .obj k → ∀ b, B b ≠ .obj k) :
    Inv B0 W0 N WL (newL B W.heap.size L) W' r m tm := by
  have hx := newL_ext h.lab hw L
  have := h.turn (newL_ok h.lab hw h1 h2) (newL_move h.lab hw L) id (fun a v ha => Rep0.ext hx (fun _ _ h => h) (fun _ _ h => h) ha) (fun b k hb _ =>
    ⟨hx.obj b k hb (fun h => h), hw.old b (h.lab.dom b (by rw [hb]; exact fun h => by cases h))⟩)
  rwa [mmap_id, rmap_id] at this

theorem atW_ext {b : Nat} {o : Obj} (hw : AtW W W' b o) {w : Ow} (hb : B b = .row w) : Ext B W B W' (· = w) (fun _ => False) where
  st := fun k hk => ⟨hk, hw.other k (fun e => by subst e; rw [hb] at hk; cases hk)⟩
  row := fun k u hk hn => ⟨hk, hw.other k (fun e => by subst e; rw [hb] at hk; cases hk; exact hn rfl)⟩
  obj := fun k u hk _ => hk

theorem atW_move {b : Nat} {o : Obj} (hw : AtW W W' b o) (hb : B b ≠ .st) (hn : B b ≠ .no) : Move B W B W' where
  size := by rw [hw.size]; omega
  os := hw.os
  tape := hw.tape
  output := hw.output
  st := fun k hk => ⟨hk, hw.other k (fun e => by subst e; exact hb hk)⟩
  no := fun k _ hk => ⟨hk, hw.other k (fun e => by subst e; exact hn hk)⟩
  obj := fun k u _ _ hk => hk

theorem atW_ok (h : LabOK B W) {b : Nat} {o : Obj} (hw : AtW W W' b o) : LabOK B W' :=
  ⟨fun k hk => by rw [hw.size]; exact h.dom k hk, h.rows, h.objs⟩

/-- a row is written: all that named it is struck -/
theorem Inv.write (h : Inv B0 W0 N WL B W r m tm) {b : Nat} {o : Obj} (hw : AtW W W' b o) {w : Ow} (hb : B b = .row w) :
    Inv B0 W0 N WL B W' (r.map (AV.map (A0.kill w))) (mmap (A0.kill w) m) tm :=
  h.turn (atW_ok h.lab hw) (atW_move hw (by rw [hb]; exact fun h => by cases h) (by rw [hb]; exact fun h => by cases h)) _ (fun _ _ ha => Rep0.kill (atW_ext hw hb) ha)
    (fun k q hk _ => ⟨hk, hw.other k (fun e => by subst e; rw [hb] at hk; cases hk)⟩)

theorem atW_extO {b : Nat} {o : Obj} (hw : AtW W W' b o) {k : Nat} (hb : B b = .obj k) : Ext B W B W' (fun _ => False) (fun _ => False) where
  st := fun q hq => ⟨hq, hw.other q (fun e => by subst e; rw [hb] at hq; cases hq)⟩
  row := fun q u hq _ => ⟨hq, hw.other q (fun e => by subst e; rw [hb] at hq; cases hq)⟩
  obj := fun q u hq _ => hq

theorem mset_keys (m : Mem) (k : Nat) (c : List A0) : (mset m k c).map (·.1) = m.map (·.1) := by
  unfold mset
  rw [List.map_map]
  apply List.map_congr_left
  intro p _
  simp only [Function.comp]
  cases Nat.beq p.1 k <;> rfl

/-- an object is written -/
theorem Inv.store (h : Inv B0 W0 N WL B W r m tm) {b : Nat} {arr : Array Value} {ty : TypeId} (hw : AtW W W' b (.cells arr ty (0, 0))) {k : Nat} (hb : B b = .obj k) {c : List A0} (hc : All2 (Rep0 B W) c arr.toList) :
    Inv B0 W0 N WL B W' r (mset m k c) tm := by
  have hx := atW_extO hw hb
  have hid : ∀ a v, Rep0 B W a v → Rep0 B W' a v := fun a v ha => Rep0.ext hx (fun _ _ h => h) (fun _ _ h => h) ha
  refine ⟨atW_ok h.lab hw, h.low.move (atW_move hw (by rw [hb]; exact fun h => by cases h) (by rw [hb]; exact fun h => by cases h)), h.move.trans (atW_move hw (by rw [hb]; exact fun h => by cases h) (by rw [hb]; exact fun h => by cases h)),
    forall2_imp h.regs (fun a v _ ha => by have := RepA.map (f := id) hid ha; rwa [AV.map_id] at this), by rw [mset_keys]; exact h.mem.1, ?_⟩
  intro p hp
  obtain ⟨q, hq, rfl⟩ := List.mem_map.1 hp
  obtain ⟨b', arr', ty', hb', hw', hc'⟩ := h.mem.2 q hq
  cases e : Nat.beq q.1 k with
  | true =>
    simp only [cond_true]
    obtain rfl := Nat.eq_of_beq_eq_true e
    exact ⟨b, arr, ty, hb, hw.here, forall2_imp hc fun a v _ ha => hid a v ha⟩
  | false =>
    simp only [cond_false]
    have hne : b' ≠ b := by
      rintro rfl
      rw [hb] at hb'
      cases hb'
      rw [Nat.beq_refl] at e; cases e
    exact ⟨b', arr', ty', hb', (hw.other b' hne).trans hw', forall2_imp hc' fun a v _ ha => hid a v ha⟩

theorem mdel_mem {m : Mem} {k : Nat} {p : Nat × List A0} (h : p ∈ mdel m k) : p ∈ m ∧ p.1 ≠ k := by
  unfold mdel at h
  rw [List.mem_filter] at h
  refine ⟨h.1, fun e => ?_⟩
  have := h.2
  rw [e, Nat.beq_refl] at this
  cases this

theorem dropL_obj {k q b : Nat} (h : dropL B k b = .obj q) : B b = .obj q ∧ q ≠ k := by
  unfold dropL at h
  split at h
  · rename_i j hj
    split at h
    · cases h
    · rename_i hn; cases h; exact ⟨hj, hn⟩
  · rename_i hq; exact absurd h (hq q)
theorem dropL_row {k b : Nat} {w : Ow} (h : dropL B k b = .row w) : B b = .row w := by
  unfold dropL at h
  split at h
  · split at h <;> cases h
  · exact h
theorem dropL_ext (B : Lab) (W : World) (k : Nat) : Ext B W (dropL B k) W (fun _ => False) (· = k) where
  st := fun b h => by simp [dropL, h]
  row := fun b u h _ => by simp [dropL, h]
  obj := fun b j h hn => by simp [dropL, h, hn]
theorem dropL_move (B : Lab) (W : World) {k : Nat} (hk : k < 1000) : Move B W (dropL B k) W :=
  ⟨Nat.le_refl _, rfl, rfl, rfl, fun b h => by simp [dropL, h], fun b _ h => by simp [dropL, h], fun b j hj _ h => by
    have : j ≠ k := by omega
    simp [dropL, h, this]⟩
theorem dropL_ok (h : LabOK B W) (k : Nat) : LabOK (dropL B k) W where
  dom := fun b hb => h.dom b (fun e => hb (by simp [dropL, e]))
  rows := fun b b' u h1 h2 => h.rows b b' u (dropL_row h1) (dropL_row h2)
  objs := fun b b' q h1 h2 => h.objs b b' q (dropL_obj h1).1 (dropL_obj h2).1
theorem dropL_no (k b : Nat) : dropL B k b ≠ .obj k := fun h => (dropL_obj h).2 rfl

/-- an object is forgotten -/
theorem Inv.drop (h : Inv B0 W0 N WL B W r m tm) {k : Nat} (hk : k < 1000) : Inv B0 W0 N WL (dropL B k) W (r.map (AV.map (A0.drop k))) (mmap (A0.drop k) (mdel m k)) tm := by
  have hd : Inv B0 W0 N WL B W r (mdel m k) tm := by
    refine ⟨h.lab, h.low, h.move, h.regs, ?_, fun p hp => h.mem.2 p (mdel_mem hp).1⟩
    unfold mdel
    exact List.Nodup.sublist (List.filter_sublist.map _) h.mem.1
  refine hd.turn (dropL_ok h.lab k) (dropL_move B W hk) _ (fun _ _ ha => Rep0.drop (dropL_ext B W k) ha) ?_
  intro b q hb hq
  obtain ⟨p, hp, rfl⟩ := List.mem_map.1 hq
  exact ⟨(dropL_ext B W k).obj b _ hb (mdel_mem hp).2, rfl⟩

end

end Go.V
