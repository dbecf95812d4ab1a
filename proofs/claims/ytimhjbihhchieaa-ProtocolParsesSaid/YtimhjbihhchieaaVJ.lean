/- V: every operation but calls. Conditions: as each states. -/
import Derived.Test.YtimhjbihhchieaaVI
namespace Go.V
set_option linter.unusedVariables false
set_option linter.unusedSimpArgs false

section
variable {B0 : Lab} {W0 : World} {N : Nat} {WL : World} {B : Lab} {W W' : World} {r : Regs} {m : Mem} {P : Program} {a : Act}

/-- what must follow an operation -/
def Next? (B0 : Lab) (W0 : World) (N : Nat) (WL : World) (K : Regs → Mem → Prop) (next : Act → World → Prop) : Prop :=
  ∀ (B : Lab) (W : World) (r : Regs) (m : Mem) (a : Act), a.defers = [] → Inv B0 W0 N WL B W r m a.tmps.toList → K r m → next a W

theorem put_list {a : Act} {d : Nat} {u : Value} : (a.put (some d) u).tmps.toList = a.tmps.toList.set d u := by simp [Act.put]

theorem Inv.set (h : Inv B0 W0 N WL B W r m a.tmps.toList) {v : AV} {u : Value} (hu : RepA B W v u) (d : Nat) : Inv B0 W0 N WL B W (r.set d v) m (a.put (some d) u).tmps.toList := by
  rw [put_list]
  exact ⟨h.lab, h.low, h.move, h.regs.set d v u hu, h.mem⟩

theorem vput_s {K : Regs → Mem → Prop} {next : Act → World → Prop} (hn : Next? B0 W0 N WL K next) (hd : a.defers = []) (h : Inv B0 W0 N WL B W r m a.tmps.toList) {v : AV} {u : Value} {d : Option Nat} (hv : vput r m d v K) (hu : RepA B W v u) :
    next (a.put d u) W := by
  cases d with
  | none => exact hn _ _ _ _ _ hd h hv
  | some d =>
    rw [vput_some] at hv
    exact hn _ _ _ _ _ hd (h.set hu d) hv

theorem vnew_mk {K : Regs → Mem → Prop} {d : Nat} {e : Ty} {l : List e.den} (hv : vnew r m d e l K) : K ((r.map (AV.map (A0.kill (.sl d)))).set d (.lf (.al (.sl d) e l))) (mmap (A0.kill (.sl d)) m) := by
  simpa only [vnew, mapS_eq, fs_eq] using hv

/-- a nil row of one's own -/
theorem vnew_nil {K : Regs → Mem → Prop} {next : Act → World → Prop} (hn : Next? B0 W0 N WL K next) (hd : a.defers = []) (h : Inv B0 W0 N WL B W r m a.tmps.toList) {d : Nat} {e : Ty} (hv : vnew r m d e [] K) :
    next (a.put (some d) (.slice none 0 0)) W :=
  hn _ _ _ _ _ hd ((h.kill (.sl d)).set (v := .lf (.al (.sl d) e [])) (.inl ⟨rfl, rfl⟩) d) (vnew_mk hv)

/-- a row of one's own in a new block -/
theorem vnew_row {K : Regs → Mem → Prop} {next : Act → World → Prop} (hn : Next? B0 W0 N WL K next) (hd : a.defers = []) (h : Inv B0 W0 N WL B W r m a.tmps.toList) {d : Nat} {e : Ty} {l : List e.den} (hv : vnew r m d e l K)
    {cs : List Value} {cap : Nat} {el : TypeId} {arr : Array Value} {fz : Nat × Nat} (hw : NewW W W' (.cells arr el fz)) (hf : Flat (fun x es => RepC B W e x es) l cs)
    (harr : ∀ (j : Nat) (v : Value), cs[j]? = some v → arr[j]? = some v) (hc : l.length ≤ cap) (hs : cap * e.sz ≤ arr.size) (hfz : UnF arr.size fz) :
    next (a.put (some d) (.slice (some ⟨W.heap.size, 0, none⟩) l.length cap)) W' := by
  have hk := h.kill (.sl d)
  have hx := (killL_ext B W (.sl d)).s
  have hi := hk.new (L := .row (.sl d)) hw (fun w e => by cases e; exact killL_no _) (fun k e => by cases e)
  exact hn _ _ _ _ _ hd (hi.set (v := .lf (.al (.sl d) e l)) (.inr ⟨W.heap.size, cap, rfl, newRow_s hk.lab hw (hf.imp fun x c hr => RepC.ext hx hr) harr hc hs hfz⟩) d) (vnew_mk hv)

theorem upon_val {o : Oper} {next : Act → World → Prop} {Q : Exit → Act → World → Prop} {s : Sem Next} {u : Value} (hr : s.run P W = .ok (.value u) W') (h : next (a.put o.dst u) W') : o.upon P a next Q (s.run P W) := by
  rw [hr]; exact h
theorem upon_skip {o : Oper} {next : Act → World → Prop} {Q : Exit → Act → World → Prop} {s : Sem Next} (hr : s.run P W = .ok .skip W') (h : next (a.put o.dst undef) W') : o.upon P a next Q (s.run P W) := by
  rw [hr]; exact h

theorem vpure_up {K : Regs → Mem → Prop} {next : Act → World → Prop} {Q : Exit → Act → World → Prop} (hn : Next? B0 W0 N WL K next) (hd : a.defers = []) (h : Inv B0 W0 N WL B W r m a.tmps.toList) {o : Oper}
    (hv : vpure P r m o fun v => vput r m o.dst v K) : o.upon P a next Q ((execOp a.eval o).run P W) := by
  obtain ⟨v, u, hk, hr, hrun⟩ := vpure_s h.lab h.mem h.regs hv
  exact upon_val hrun (vput_s hn hd h hk hr)

theorem sc_nil {u : Value} (h : RepA B W (.lf (.sc (.slice none 0 0))) u) : u = .slice none 0 0 := h

theorem assign_s {K : Regs → Mem → Prop} {next : Act → World → Prop} {Q : Exit → Act → World → Prop} (hn : Next? B0 W0 N WL K next) (hd : a.defers = []) (h : Inv B0 W0 N WL B W r m a.tmps.toList) {o : Oper} {x : Operand} (ho : o.op = .assign x)
    {Snd : SND} {all : List Oper} {E : AV → Mem → Prop} (hv : vop P Snd all o r m K E) : o.upon P a next Q ((execOp a.eval o).run P W) := by
  have hrun : (execOp a.eval o).run P W = .ok (.value (a.eval x)) W := by simp only [execOp, ho]; rfl
  simp only [vop, ho] at hv
  refine upon_val hrun ?_
  cases hdst : o.dst with
  | none => rw [hdst] at hv; exact hv.elim
  | some d =>
    rw [hdst] at hv
    simp only at hv
    have hx := vval_rep h.regs x
    split at hv
    · rename_i e
      split at hv
      · obtain ⟨E', _, hv⟩ := optK_some hv
        rw [e] at hx
        rw [sc_nil hx]
        exact vnew_nil hn hd h hv
      · exact vput_s hn hd h hv hx
    · split at hv
      · exact vname_s hv h fun B r m h hv => vput_s hn hd h hv (vval_rep h.regs x)
      · exact vput_s hn hd h hv hx
    · exact vput_s hn hd h hv hx

theorem valCells_rep : ∀ (l : List Value), All2 (Rep0 B W) (valCells l) l
  | [] => .nil
  | v :: l => .cons (rep_ofVal v) (valCells_rep l)

theorem zeroA_rep {k : Nat} : ∀ {t : Ty} {o : Nat} {l l' : List Value} {c : List A0}, zeroA k t o l = some (c, l') → ∃ c', l = c' ++ l' ∧ All2 (Rep0 B W) c c'
  | .nil, o, l, l', c, h => by
    simp only [zeroA, Option.some.injEq, Prod.mk.injEq] at h
    obtain ⟨rfl, rfl⟩ := h
    exact ⟨[], rfl, .nil⟩
  | .cons x y, o, l, l', c, h => by
    simp only [zeroA] at h
    split at h
    · rename_i c1 l1 h1
      split at h
      · rename_i c2 l2 h2
        simp only [Option.some.injEq, Prod.mk.injEq] at h
        obtain ⟨rfl, rfl⟩ := h
        obtain ⟨d1, rfl, e1⟩ := zeroA_rep h1
        obtain ⟨d2, rfl, e2⟩ := zeroA_rep h2
        exact ⟨d1 ++ d2, by simp, e1.append e2⟩
      · cases h
    · cases h
  | .int _, o, [], l', c, h => by simp [zeroA] at h
  | .bool, o, [], l', c, h => by simp [zeroA] at h
  | .str, o, [], l', c, h => by simp [zeroA] at h
  | .slice _, o, [], l', c, h => by simp [zeroA] at h
  | .int _, o, v :: l, l', c, h => by
    cases v <;> simp only [zeroA] at h <;> cases h
    exact ⟨[_], rfl, .cons rfl .nil⟩
  | .bool, o, v :: l, l', c, h => by
    cases v <;> simp only [zeroA] at h <;> cases h
    exact ⟨[_], rfl, .cons rfl .nil⟩
  | .str, o, v :: l, l', c, h => by
    cases v <;> simp only [zeroA] at h <;> cases h
    exact ⟨[_], rfl, .cons rfl .nil⟩
  | .slice e, o, v :: l, l', c, h => by
    cases v with
    | slice ad n q =>
      cases ad <;> cases n <;> cases q <;> simp only [zeroA] at h <;> cases h
      exact ⟨[_], rfl, .cons (.inl ⟨rfl, rfl⟩) .nil⟩
    | _ => simp only [zeroA] at h; cases h

theorem zeroObj_rep {k : Nat} {t : Ty} {z : List Value} {c : List A0} (h : zeroObj k t z = some c) : All2 (Rep0 B W) c z := by
  unfold zeroObj at h
  split at h
  · rename_i c' hc
    cases h
    obtain ⟨d, rfl, hd⟩ := zeroA_rep hc
    simpa using hd
  · cases h

theorem zeroCells_s {t : TypeId} {z : List Value} (h : zeroCells? P t = some z) : ∃ v, (∀ w, (zeroValue t).run P w = .ok v w) ∧ v.cells.toList = z := by
  unfold zeroCells? at h
  split at h
  · rename_i i hi
    rw [Option.map_eq_some_iff] at h
    obtain ⟨v, hv, rfl⟩ := h
    exact ⟨v, fun w => by simp [zeroValue, typeInfo, hi, hv], rfl⟩
  · cases h

/-- a new object -/
theorem alloc_s {K : Regs → Mem → Prop} {next : Act → World → Prop} (hn : Next? B0 W0 N WL K next) (hd : a.defers = []) (h : Inv B0 W0 N WL B W r m a.tmps.toList) {d : Nat} (hlt : d < 1000) {c : List A0} {arr : Array Value} {ty : TypeId}
    (hw : NewW W W' (.cells arr ty)) (hc : All2 (Rep0 (dropL B d) W) c arr.toList) (hv : K ((r.map (AV.map (A0.drop d))).set d (.lf (.ptr d 0))) ((d, c) :: mmap (A0.drop d) (mdel m d))) :
    next (a.put (some d) (.pointer (some ⟨W.heap.size, 0, none⟩))) W' := by
  have hk := h.drop hlt
  have hi := hk.new (L := .obj d) hw (fun w e => by cases e) (fun k e => by cases e; exact dropL_no _)
  have hx := newL_ext hk.lab hw (.obj d)
  refine hn _ _ _ _ _ hd (Inv.set (v := .lf (.ptr d 0)) ⟨hi.lab, hi.low, hi.move, hi.regs, ?_, ?_⟩ ⟨W.heap.size, newL_new, rfl⟩ d) hv
  · refine List.nodup_cons.2 ⟨?_, hi.mem.1⟩
    rw [mmap_keys]
    intro hm
    obtain ⟨p, hp, e⟩ := List.mem_map.1 hm
    exact (mdel_mem hp).2 e
  · intro p hp
    rcases List.mem_cons.1 hp with rfl | hp
    · exact ⟨W.heap.size, arr, ty, newL_new, hw.new, forall2_imp hc fun a v _ ha => Rep0.ext hx (fun _ _ h => h) (fun _ _ h => h) ha⟩
    · exact hi.mem.2 p hp

theorem allocOp_s {K : Regs → Mem → Prop} {next : Act → World → Prop} {Q : Exit → Act → World → Prop} (hn : Next? B0 W0 N WL K next) (hd : a.defers = []) (h : Inv B0 W0 N WL B W r m a.tmps.toList) {o : Oper} {t : TypeId} (ho : o.op = .alloc t)
    {Snd : SND} {all : List Oper} {E : AV → Mem → Prop} (hv : vop P Snd all o r m K E) : o.upon P a next Q ((execOp a.eval o).run P W) := by
  simp only [vop, ho] at hv
  cases hdst : o.dst with
  | none => rw [hdst] at hv; exact hv.elim
  | some d =>
    rw [hdst] at hv
    obtain ⟨hlt, hv1⟩ := chk hv
    obtain ⟨z, hz, hv2⟩ := optK_some hv1
    obtain ⟨c, hc, hv3⟩ := optK_some hv2
    simp only [fr_eq, fm_eq, fl0_eq, vput_some] at hv3
    obtain ⟨v, hzv, hzl⟩ := zeroCells_s hz
    have hrun : (execOp a.eval o).run P W = .ok (.value (.pointer (some ⟨W.heap.size, 0, none⟩))) (W.alloc (.cells v.cells t)) := by
      simp only [execOp, ho, Instr.alloc, newVar, newRow, Sem.run_bind, hzv, Result.andThen_ok, run_newObj, Sem.run_pure]
      rfl
    refine upon_val hrun ?_
    rw [hdst]
    refine alloc_s hn hd h (by simpa using hlt) (NewW.alloc W _) ?_ hv3
    rw [hzl]
    split at hc
    · exact zeroObj_rep hc
    · cases hc
      exact valCells_rep _

theorem cellsT_rep : ∀ {t : Ty} {x : t.den} {cs : List Value}, RepC B W t x cs → All2 (Rep0 B W) (cellsT t x) cs
  | .nil, _, _, h => by rw [show _ = [] from h]; exact .nil
  | .cons a b, x, cs, h => by
    obtain ⟨c1, c2, rfl, h1, h2⟩ := h
    exact (cellsT_rep h1).append (cellsT_rep h2)
  | .int k, x, cs, h => by rw [show cs = _ from h]; exact .cons (rfl : [Value.int k x] = _) .nil
  | .bool, x, cs, h => by rw [show cs = _ from h]; exact .cons (rfl : [Value.bool x] = _) .nil
  | .str, x, cs, h => by rw [show cs = _ from h]; exact .cons (rfl : [Value.string x] = _) .nil
  | .slice e, x, cs, h => by
    obtain ⟨a, cap, rfl, h⟩ := h
    exact .cons (⟨a, cap, rfl, h⟩ : RepC B W (.slice e) x _) .nil

theorem RepV.cells {t : Ty} {x : t.den} {u : Value} (h : RepV B W t x u) : RepC B W t x u.cells.toList := by
  cases t with
  | int k => rw [rep_int (B := B) (W := W) h]; exact rfl
  | bool => rw [rep_bool (B := B) (W := W) h]; exact rfl
  | str => rw [rep_str (B := B) (W := W) h]; exact rfl
  | nil =>
    obtain ⟨cs, rfl, h⟩ := (h : ∃ cs, u = .agg cs.toArray ∧ RepC B W .nil x cs)
    simpa [Value.cells] using h
  | cons p q =>
    obtain ⟨cs, rfl, h⟩ := (h : ∃ cs, u = .agg cs.toArray ∧ RepC B W (.cons p q) x cs)
    simpa [Value.cells] using h
  | slice e =>
    obtain ⟨a, cap, e, h⟩ := (h : RepC B W (.slice e) x [u])
    simp only [List.cons.injEq, and_true] at e
    subst e
    exact ⟨a, cap, rfl, h⟩

theorem cells_rep {v : AV} {u : Value} {c : List A0} (h : v.cells = some c) (hr : RepA B W v u) : All2 (Rep0 B W) c u.cells.toList := by
  unfold AV.cells at h
  split at h
  · cases h; exact cellsT_rep (RepV.cells hr)
  · rename_i v
    split at h
    · cases h
    · rename_i hn
      cases h
      obtain rfl : u = v := hr
      have : u.cells = #[u] := by unfold Value.cells; split <;> first | rfl | exact absurd rfl (hn _)
      rw [this]
      exact .cons rfl .nil
  · cases h
    obtain ⟨b, hb, rfl⟩ := hr
    exact .cons ⟨b, hb, rfl⟩ .nil
  · cases h
    obtain ⟨vs, rfl, h⟩ := hr
    exact h
  · cases h

theorem nilsL_rep {k : Nat} : ∀ {ts : List Ty} {c : List A0} {vs : List Value} {o : Nat}, All2 (Rep0 B W) c vs → All2 (Rep0 B W) (nilsL k o ts c) vs
  | ts, _, _, o, .nil => by cases ts with | nil => exact .nil | cons t ts => cases t <;> exact .nil
  | [], _, _, o, .cons h t => .cons h t
  | .slice e :: ts, a :: l, _, o, .cons h t => by
    unfold nilsL
    split
    · rename_i e1 e2
      cases e1
      cases e2
      exact .cons (.inl ⟨h, rfl⟩) (nilsL_rep t)
    · rename_i e1 e2
      cases e1
      cases e2
      exact .cons h (nilsL_rep t)
    · exact .cons h t
  | .int _ :: ts, a :: l, _, o, .cons h t => .cons h (nilsL_rep t)
  | .bool :: ts, a :: l, _, o, .cons h t => .cons h (nilsL_rep t)
  | .str :: ts, a :: l, _, o, .cons h t => .cons h (nilsL_rep t)
  | .nil :: ts, a :: l, _, o, .cons h t => .cons h (nilsL_rep t)
  | .cons _ _ :: ts, a :: l, _, o, .cons h t => .cons h (nilsL_rep t)
theorem nilsO_rep {k : Nat} {t : TypeId} {c : List A0} {vs : List Value} (h : All2 (Rep0 B W) c vs) : All2 (Rep0 B W) (nilsO P k t c) vs := by
  unfold nilsO
  split
  · exact nilsL_rep h
  · exact h

theorem boxOp_s {K : Regs → Mem → Prop} {next : Act → World → Prop} {Q : Exit → Act → World → Prop} (hn : Next? B0 W0 N WL K next) (hd : a.defers = []) (h : Inv B0 W0 N WL B W r m a.tmps.toList) {o : Oper} {t : TypeId} {x : Operand} (ho : o.op = .box t x)
    {Snd : SND} {all : List Oper} {E : AV → Mem → Prop} (hv : vop P Snd all o r m K E) : o.upon P a next Q ((execOp a.eval o).run P W) := by
  simp only [vop, ho] at hv
  have hrun : (execOp a.eval o).run P W = .ok (.value (.pointer (some ⟨W.heap.size, 0, none⟩))) (W.alloc (.cells (a.eval x).cells t)) := by
    simp only [execOp, ho, Instr.box, newVar, newRow, Sem.run_bind, Result.andThen_ok, run_newObj, Sem.run_pure]
    rfl
  refine upon_val hrun ?_
  cases hdst : o.dst with
  | none => rw [hdst] at hv; exact hv.elim
  | some d =>
    rw [hdst] at hv
    refine vfreeze_s hv h fun B r m h hv => ?_
    obtain ⟨hlt, hv1⟩ := chk hv
    obtain ⟨c, hc, hv2⟩ := optK_some hv1
    simp only [fr_eq, fm_eq, fl0_eq, vput_some] at hv2
    refine alloc_s hn hd h (by simpa using hlt) (NewW.alloc W _) ?_ hv2
    exact nilsO_rep (forall2_map (cells_rep hc (vval_rep h.regs x)) fun a v ha => Rep0.drop (dropL_ext B W d) ha)

theorem pick_s {K : Regs → Mem → Prop} {next : Act → World → Prop} {Q : Exit → Act → World → Prop} (hn : Next? B0 W0 N WL K next) (hd : a.defers = []) (h : Inv B0 W0 N WL B W r m a.tmps.toList) {o : Oper} {c x y : Operand} (ho : o.op = .pick c x y)
    {Snd : SND} {all : List Oper} {E : AV → Mem → Prop} (hv : vop P Snd all o r m K E) : o.upon P a next Q ((execOp a.eval o).run P W) := by
  simp only [vop, ho] at hv
  have hc := vval_rep h.regs c
  have hx := vval_rep h.regs x
  have hy := vval_rep h.regs y
  generalize vval r c = v at hv hc
  split at hv
  · rename_i t
    have hb := rep_bool hc
    cases t with
    | true =>
      have hrun : (execOp a.eval o).run P W = .ok (.value (a.eval x)) W := by
        simp only [execOp, ho, hb]; rfl
      exact upon_val hrun (vput_s hn hd h hv hx)
    | false =>
      have hrun : (execOp a.eval o).run P W = .ok (.value (a.eval y)) W := by
        simp only [execOp, ho, hb]; rfl
      exact upon_val hrun (vput_s hn hd h hv hy)
  · exact hv.elim

theorem fold_set (off : Nat) : ∀ (xs : List Value) (k : Nat) (arr : Array Value), off + k + xs.length ≤ arr.size →
    ((xs.zipIdx k).foldl (fun cs (p : Value × Nat) => cs.setIfInBounds (off + p.2) p.1) arr).toList = arr.toList.take (off + k) ++ xs ++ arr.toList.drop (off + k + xs.length)
  | [], k, arr, _ => by simp
  | v :: xs, k, arr, hl => by
    have hlt : off + k < arr.size := by simp at hl; omega
    rw [List.zipIdx_cons, List.foldl_cons, fold_set off xs (k + 1) _ (by simp at hl ⊢; omega)]
    have hset : (arr.setIfInBounds (off + k) v).toList = arr.toList.take (off + k) ++ v :: arr.toList.drop (off + k + 1) := by
      rw [Array.toList_setIfInBounds, List.set_eq_take_append_cons_drop, if_pos (by simpa using hlt)]
    have htl : (arr.toList.take (off + k)).length = off + k := by simp; omega
    have a1 : List.take (off + (k + 1)) (arr.setIfInBounds (off + k) v).toList = arr.toList.take (off + k) ++ [v] := by
      rw [hset, List.take_append, htl, show off + (k + 1) - (off + k) = 1 by omega, List.take_of_length_le (by omega)]
      rfl
    have a2 : List.drop (off + (k + 1) + xs.length) (arr.setIfInBounds (off + k) v).toList = arr.toList.drop (off + k + (v :: xs).length) := by
      rw [hset, List.drop_append, htl, List.drop_of_length_le (by omega), List.nil_append, show off + (k + 1) + xs.length - (off + k) = xs.length + 1 by omega, List.drop_succ_cons, List.drop_drop]
      congr 1
      simp; omega
    rw [a1, a2]; simp

theorem fillA_s (place : Nat → Option (Nat × Nat)) : ∀ {ps : List (Nat × List A0)} {qs : List (Nat × Value)} {cells c : List A0} {arr : Array Value}, All2 (fun p q => p.1 = q.1 ∧ All2 (Rep0 B W) p.2 q.2.cells.toList) ps qs →
    All2 (Rep0 B W) cells arr.toList → fillA place cells ps = some c → ∃ arr', Instr.fill place arr qs = some arr' ∧ All2 (Rep0 B W) c arr'.toList
  | _, _, cells, c, arr, .nil, hc, h => by
    simp only [fillA, Option.some.injEq] at h
    subst h
    exact ⟨arr, rfl, hc⟩
  | _, _, cells, c, arr, .cons (a := ⟨i, v⟩) (b := ⟨j, q⟩) (l := ps) (l' := qs) ⟨e1, e2⟩ ht, hc, h => by
    simp only at e1 e2
    subst e1
    simp only [fillA] at h
    cases hp : place i with
    | none => rw [hp] at h; cases h
    | some os =>
      obtain ⟨off, size⟩ := os
      rw [hp] at h
      simp only at h
      split at h
      · rename_i hb
        simp only [Bool.and_eq_true] at hb
        have hs : v.length = size := Nat.eq_of_beq_eq_true hb.1
        have hle : off + size ≤ cells.length := Nat.le_of_ble_eq_true hb.2
        have hl1 := e2.len
        have hl2 := hc.len
        simp only [Array.length_toList] at hl1 hl2
        have hset : (q.cells.zipIdx.foldl (fun cs (c, j) => cs.setIfInBounds (off + j) c) arr).toList = arr.toList.take off ++ q.cells.toList ++ arr.toList.drop (off + size) := by
          rw [← Array.foldl_toList, Array.toList_zipIdx]
          have := fold_set off q.cells.toList 0 arr (by simp; omega)
          simp only [Nat.add_zero, Array.length_toList] at this
          rw [show off + size = off + q.cells.size by omega]
          exact this
        obtain ⟨arr', h1, h2⟩ := fillA_s place (arr := q.cells.zipIdx.foldl (fun cs (c, j) => cs.setIfInBounds (off + j) c) arr) ht (by
          rw [hset]
          exact ((hc.take off).append e2).append (hc.drop (off + size))) h
        refine ⟨arr', ?_, h2⟩
        simp only [Instr.fill, hp]
        rw [if_neg (by simp; omega)]
        exact h1
      · cases h

theorem partsA_s {r : Regs} (hr : All2 (RepA B W) r a.tmps.toList) : ∀ {ps : List (Nat × Operand)} {qs : List (Nat × List A0)}, partsA r ps = some qs →
    All2 (fun p q => p.1 = q.1 ∧ All2 (Rep0 B W) p.2 q.2.cells.toList) qs (ps.map fun p => (p.1, a.eval p.2))
  | [], qs, h => by simp only [partsA, Option.some.injEq] at h; subst h; exact .nil
  | (i, x) :: ps, qs, h => by
    simp only [partsA] at h
    split at h
    · rename_i c l hc hl
      cases h
      exact .cons ⟨rfl, cells_rep hc (vval_rep hr x)⟩ (partsA_s hr hl)
    · cases h

theorem packN_s {e : Ty} : ∀ {n : Nat} {l : List A0} {xs : List e.den} {vs : List Value}, packN e n l = some xs → All2 (Rep0 B W) l vs → xs.length = n ∧ Flat (fun x es => RepC B W e x es) xs vs
  | 0, [], xs, vs, h, hl => by
    simp only [packN, Option.some.injEq] at h
    subst h
    cases hl
    exact ⟨rfl, rfl⟩
  | 0, _ :: _, xs, vs, h, hl => by simp [packN] at h
  | n + 1, l, xs, vs, h, hl => by
    simp only [packN] at h
    split at h
    · rename_i x l' h1
      rw [Option.map_eq_some_iff] at h
      obtain ⟨ys, h2, rfl⟩ := h
      obtain ⟨cs, vs', rfl, h3, h4⟩ := packT_s h1 hl
      obtain ⟨h5, h6⟩ := packN_s h2 h4
      exact ⟨by simp [h5], cs, vs', rfl, h3, h6⟩
    · cases h

end

end Go.V
