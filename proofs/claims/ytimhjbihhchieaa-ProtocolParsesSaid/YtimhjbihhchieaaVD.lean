/- V: operations that leave memory alone give the values that the calculus says. Conditions: as each states. -/
import Derived.Test.YtimhjbihhchieaaVC
namespace Go.V
set_option linter.unusedVariables false
set_option linter.unusedSimpArgs false

section
variable {B0 : Lab} {W0 : World} {N : Nat} {WL : World} {B : Lab} {W : World} {r : Regs} {m : Mem} {P : Program} {a : Act}

def Does (P : Program) (B : Lab) (W : World) (K : AV → Prop) (s : Sem Value) : Prop := ∃ v u, K v ∧ RepA B W v u ∧ s.run P W = .ok u W

theorem Does.exec {K : AV → Prop} {s : Sem Value} (h : Does P B W K s) {e : Sem Next} (he : e = (do pure (.value (← s)))) : ∃ v u, K v ∧ RepA B W v u ∧ e.run P W = .ok (.value u) W := by
  obtain ⟨v, u, hk, hr, hs⟩ := h
  refine ⟨v, u, hk, hr, ?_⟩
  rw [he, Sem.run_bind, hs]; rfl

theorem mkInt {k : IntKind} {n : Int} : RepA B W (.lf (.val (.int k) n)) (.int k n) := (rfl : [Value.int k n] = [Value.int k n])
theorem mkBool {b : Bool} : RepA B W (.lf (.val .bool b)) (.bool b) := (rfl : [Value.bool b] = [Value.bool b])
theorem mkStr {s : ByteArray} : RepA B W (.lf (.val .str s)) (.string s) := (rfl : [Value.string s] = [Value.string s])

theorem chk {b : Bool} {k : Prop} (h : vchk b k) : b = true ∧ k := by
  cases b
  · exact h.elim
  · exact ⟨rfl, h⟩
theorem optK_some {α : Type} {x : Option α} {K : α → Prop} (h : optK x K) : ∃ y, x = some y ∧ K y := by
  cases x with
  | none => exact h.elim
  | some y => exact ⟨y, rfl, h⟩
theorem szIs_eq {t : TypeId} {n : Nat} (h : szIs P t n = true) : ∃ i, P.info? t = some i ∧ i.size = n := by
  unfold szIs at h
  split at h
  · rename_i i hi; exact ⟨i, hi, Nat.eq_of_beq_eq_true h⟩
  · cases h
theorem run_size {t : TypeId} {i : TypeInfo} (h : P.info? t = some i) (w : World) : (sizeOf t).run P w = .ok i.size w := by
  simp [sizeOf, typeInfo, h]

theorem binI_s {op : BinOp} {t : TypeId} {k : IntKind} {n q : Int} {X Y : Operand} {K : AV → Prop} (hs : isSh op = false) (h : binI op k n q fun a => K (.lf a)) :
    Does P B W K (do eqGuard op t X Y (.int k n) (.int k q); binOp op t (.int k n) (.int k q)) := by
  have hg : ∀ w, (eqGuard op t X Y (.int k n) (.int k q)).run P w = .ok () w := by
    intro w; unfold eqGuard; split <;> rfl
  unfold Does
  simp only [Sem.run_bind, hg, Result.andThen_ok]
  cases op <;> simp only [binI, vand] at h <;> simp only [isSh] at hs <;> try cases hs
  all_goals simp only [binOp, ne_eq, not_true, if_false, Op.intArith, Op.intBits, Op.intCmp, Op.intDiv]
  case quo => rw [if_neg h.1]; exact ⟨_, _, h.2, mkInt, rfl⟩
  case rem => rw [if_neg h.1]; exact ⟨_, _, h.2, mkInt, rfl⟩
  case add => exact ⟨_, _, h, mkInt, rfl⟩
  case sub => exact ⟨_, _, h, mkInt, rfl⟩
  case mul => exact ⟨_, _, h, mkInt, rfl⟩
  case and => exact ⟨_, _, h, mkInt, rfl⟩
  case or => exact ⟨_, _, h, mkInt, rfl⟩
  case xor => exact ⟨_, _, h, mkInt, rfl⟩
  case andNot => exact ⟨_, _, h, mkInt, rfl⟩
  all_goals exact ⟨_, _, h, mkBool, rfl⟩

theorem shI_s {op : BinOp} {t : TypeId} {k k' : IntKind} {n q : Int} {X Y : Operand} {K : AV → Prop} (hs : isSh op = true) (h : shI op k n q fun a => K (.lf a)) :
    Does P B W K (do eqGuard op t X Y (.int k n) (.int k' q); binOp op t (.int k n) (.int k' q)) := by
  have hg : ∀ w, (eqGuard op t X Y (.int k n) (.int k' q)).run P w = .ok () w := by
    intro w; unfold eqGuard; split <;> rfl
  unfold Does
  simp only [Sem.run_bind, hg, Result.andThen_ok]
  cases op <;> simp only [shI, vand] at h <;> simp only [isSh] at hs <;> try cases hs
  all_goals
    simp only [binOp, Op.shift]
    rw [if_neg (by omega)]
    exact ⟨_, _, h.2, mkInt, rfl⟩

theorem binS_s {op : BinOp} {t : TypeId} {x y : ByteArray} {X Y : Operand} {K : AV → Prop} (h : binS op x y fun a => K (.lf a)) :
    Does P B W K (do eqGuard op t X Y (.string x) (.string y); binOp op t (.string x) (.string y)) := by
  have hg : ∀ w, (eqGuard op t X Y (.string x) (.string y)).run P w = .ok () w := by
    intro w; unfold eqGuard; split <;> rfl
  unfold Does
  simp only [Sem.run_bind, hg, Result.andThen_ok]
  cases op <;> simp only [binS, vand] at h <;> try cases h
  case add =>
    rename_i h1 h2
    exact ⟨_, _, h2, mkStr, by simpa only [binOp] using run_string_add_sum (P := P) (w := W) x y h1⟩
  case eql => exact ⟨_, _, h, mkBool, rfl⟩
  case neq => exact ⟨_, _, h, mkBool, rfl⟩

theorem binB_s {op : BinOp} {t : TypeId} {x y : Bool} {X Y : Operand} {K : AV → Prop} (h : binB P t op x y fun a => K (.lf a)) :
    Does P B W K (do eqGuard op t X Y (.bool x) (.bool y); binOp op t (.bool x) (.bool y)) := by
  have hg : ∀ w, (eqGuard op t X Y (.bool x) (.bool y)).run P w = .ok () w := by
    intro w; unfold eqGuard; split <;> rfl
  unfold Does
  simp only [Sem.run_bind, hg, Result.andThen_ok]
  unfold binB at h
  split at h
  · rename_i hu
    split at h
    · exact ⟨_, _, h, mkBool, by simpa using run_eql_bool (P := P) (w := W) t x y hu⟩
    · exact ⟨_, _, h, mkBool, by simpa using run_neq_bool (P := P) (w := W) t x y hu⟩
    · exact h.elim
  · exact h.elim

theorem vbin_s {op : BinOp} {t : TypeId} {x y : AV} {u v : Value} {X Y : Operand} {K : AV → Prop} (h : vbin P op t x y fun a => K (.lf a)) (hx : RepA B W x u) (hy : RepA B W y v) :
    Does P B W K (do eqGuard op t X Y u v; binOp op t u v) := by
  unfold vbin at h
  split at h
  · obtain rfl := rep_int hx
    obtain rfl := rep_int hy
    split at h
    · rename_i e; exact shI_s e h
    · rename_i e
      obtain ⟨hk, h⟩ := chk h
      obtain rfl := of_decide_eq_true hk
      exact binI_s e h
  · obtain rfl := rep_str hx
    obtain rfl := rep_str hy
    exact binS_s h
  · obtain rfl := rep_bool hx
    obtain rfl := rep_bool hy
    exact binB_s h
  · exact h.elim

theorem isNat_s {x : AV} {u : Value} {K : Int → Prop} (h : isNat x K) (hx : RepA B W x u) : ∃ k n, u = .int k n ∧ K n := by
  unfold isNat at h
  split at h
  · exact ⟨_, _, rep_int hx, h⟩
  · exact h.elim

/-! ### parts of values -/

theorem add_add (a : Addr) (m n : Nat) : (a.add m).add n = a.add (m + n) := by
  unfold Addr.add
  by_cases hm : m = 0 <;> by_cases hn : n = 0 <;> simp [hm, hn, Nat.add_assoc]

theorem Elems.take {α : Type} {R : α → List Value → Prop} {sz : Nat} {l : List α} {ad : Addr} (h : Elems R sz W l ad) (n : Nat) : Elems R sz W (l.take n) ad := by
  intro i hi
  have hi' : i < l.length := by simp at hi; omega
  obtain ⟨es, h1, h2⟩ := h i hi'
  exact ⟨es, by simpa using h1, h2⟩

theorem Elems.drop {α : Type} {R : α → List Value → Prop} {sz : Nat} {l : List α} {ad : Addr} (h : Elems R sz W l ad) (n : Nat) : Elems R sz W (l.drop n) (ad.add (n * sz)) := by
  intro i hi
  have hi' : n + i < l.length := by simp at hi; omega
  obtain ⟨es, h1, h2⟩ := h (n + i) hi'
  refine ⟨es, by simpa using h1, fun j v hv => ?_⟩
  rw [add_add, show n * sz + (i * sz + j) = (n + i) * sz + j by rw [Nat.add_mul, Nat.add_assoc]]
  exact h2 j v hv

theorem projT_s : ∀ {t : Ty} {x : t.den} {cs : List Value} {i off o : Nat} {u : Ty} {z : u.den}, projT t x i off = some (o, ⟨u, z⟩) → RepC B W t x cs →
    ∃ c1 c2 c3, cs = c1 ++ c2 ++ c3 ∧ c1.length + off = o ∧ RepC B W u z c2
  | .cons a b, x, cs, 0, off, o, u, z, h, hr => by
    simp only [projT, Option.some.injEq, Prod.mk.injEq] at h
    obtain ⟨rfl, h⟩ := h
    cases h
    obtain ⟨c1, c2, rfl, h1, h2⟩ := hr
    exact ⟨[], c1, c2, rfl, by simp, h1⟩
  | .cons a b, x, cs, i + 1, off, o, u, z, h, hr => by
    simp only [projT] at h
    obtain ⟨c1, c2, rfl, h1, h2⟩ := hr
    obtain ⟨d1, d2, d3, rfl, hl, hd⟩ := projT_s h h2
    exact ⟨c1 ++ d1, d2, d3, by simp, by rw [List.length_append, h1.len]; omega, hd⟩
  | .int _, _, _, _, _, _, _, _, h, _ => by simp [projT] at h
  | .bool, _, _, _, _, _, _, _, h, _ => by simp [projT] at h
  | .str, _, _, _, _, _, _, _, h, _ => by simp [projT] at h
  | .nil, _, _, _, _, _, _, _, h, _ => by simp [projT] at h
  | .slice _, _, _, _, _, _, _, _, h, _ => by simp [projT] at h

theorem Lens.id (e : Ty) : Lens e e 0 id fun _ y => y :=
  fun _ _ x cs h => ⟨[], cs, [], by simp, rfl, h, fun y c hy => by simpa using hy⟩

theorem lensT_s : ∀ {t : Ty} {i off o : Nat} {u : Ty} {g : t.den → u.den} {s : t.den → u.den → t.den}, lensT t i off = some (o, ⟨u, g, s⟩) → ∃ q, o = off + q ∧ Lens t u q g s
  | .cons a b, 0, off, o, u, g, s, h => by
    simp only [lensT, Option.some.injEq, Prod.mk.injEq] at h
    obtain ⟨rfl, h⟩ := h
    cases h
    refine ⟨0, rfl, fun B W x cs hr => ?_⟩
    obtain ⟨c1, c2, rfl, h1, h2⟩ := hr
    exact ⟨[], c1, c2, rfl, rfl, h1, fun y c hy => ⟨c, c2, by simp, hy, h2⟩⟩
  | .cons a b, i + 1, off, o, u, g, s, h => by
    simp only [lensT, Option.map_eq_some_iff] at h
    obtain ⟨⟨o', u', g', s'⟩, h1, h2⟩ := h
    simp only [Prod.mk.injEq] at h2
    obtain ⟨rfl, h2⟩ := h2
    cases h2
    obtain ⟨q, rfl, hl⟩ := lensT_s h1
    refine ⟨a.sz + q, by omega, fun B W x cs hr => ?_⟩
    obtain ⟨c1, c2, rfl, e1, e2⟩ := hr
    obtain ⟨d1, d2, d3, rfl, hd, hg, hs⟩ := hl B W x.2 c2 e2
    refine ⟨c1 ++ d1, d2, d3, by simp, by rw [List.length_append, e1.len]; omega, hg, fun y c hy => ?_⟩
    exact ⟨c1, d1 ++ c ++ d3, by simp, e1, hs y c hy⟩
  | .int _, _, _, _, _, _, _, h => by simp [lensT] at h
  | .bool, _, _, _, _, _, _, h => by simp [lensT] at h
  | .str, _, _, _, _, _, _, h => by simp [lensT] at h
  | .nil, _, _, _, _, _, _, h => by simp [lensT] at h
  | .slice _, _, _, _, _, _, _, h => by simp [lensT] at h

theorem Lens.comp {e t u : Ty} {o q : Nat} {g : e.den → t.den} {s : e.den → t.den → e.den} {g' : t.den → u.den} {s' : t.den → u.den → t.den} (h : Lens e t o g s) (h' : Lens t u q g' s') :
    Lens e u (o + q) (fun x => g' (g x)) fun x y => s x (s' (g x) y) := by
  intro B W x cs hr
  obtain ⟨c1, c2, c3, rfl, hl, hg, hs⟩ := h B W x cs hr
  obtain ⟨d1, d2, d3, rfl, hl', hg', hs'⟩ := h' B W _ c2 hg
  refine ⟨c1 ++ d1, d2, d3 ++ c3, by simp, by rw [List.length_append]; omega, hg', fun y c hy => ?_⟩
  have := hs _ _ (hs' y c hy)
  simpa using this

theorem cast_some {s t : Ty} {x : s.den} {y : t.den} (h : s.cast? t x = some y) : ∃ e : s = t, y = e ▸ x := by
  unfold Ty.cast? at h
  split at h
  · rename_i e; exact ⟨e, (Option.some.inj h).symm⟩
  · cases h

theorem RepV.plain {t : Ty} (ht : t.agg = false) {x : t.den} {v : Value} : RepV B W t x v ↔ RepC B W t x [v] := by
  unfold RepV; rw [ht]

theorem typed_s {t : Ty} (ht : t.agg = false) {a : A0} {x : t.den} {v : Value} (h : typed t a = some x) (hr : Rep0 B W a v) : RepC B W t x [v] := by
  unfold typed at h
  split at h
  · obtain ⟨e, rfl⟩ := cast_some h
    subst e
    exact (RepV.plain ht).1 hr
  · cases t <;> simp only at h <;> try cases h
    obtain rfl : v = .slice none 0 0 := hr
    exact ⟨none, 0, rfl, Nat.le_refl _, .inl rfl⟩
  · cases h

theorem packT_s : ∀ {t : Ty} {l l' : List A0} {x : t.den} {vs : List Value}, packT t l = some (x, l') → All2 (Rep0 B W) l vs →
    ∃ cs vs', vs = cs ++ vs' ∧ RepC B W t x cs ∧ All2 (Rep0 B W) l' vs'
  | .nil, l, l', x, vs, h, hl => by
    simp only [packT, Option.some.injEq, Prod.mk.injEq] at h
    obtain ⟨_, rfl⟩ := h
    exact ⟨[], vs, rfl, rfl, hl⟩
  | .cons a b, l, l', x, vs, h, hl => by
    simp only [packT] at h
    split at h
    · rename_i x1 l1 h1
      split at h
      · rename_i y l2 h2
        simp only [Option.some.injEq, Prod.mk.injEq] at h
        obtain ⟨rfl, rfl⟩ := h
        obtain ⟨c1, v1, rfl, e1, hl1⟩ := packT_s h1 hl
        obtain ⟨c2, v2, rfl, e2, hl2⟩ := packT_s h2 hl1
        exact ⟨c1 ++ c2, v2, by simp, ⟨c1, c2, rfl, e1, e2⟩, hl2⟩
      · cases h
    · cases h
  | .int k, [], l', x, vs, h, hl => by simp [packT] at h
  | .bool, [], l', x, vs, h, hl => by simp [packT] at h
  | .str, [], l', x, vs, h, hl => by simp [packT] at h
  | .slice e, [], l', x, vs, h, hl => by simp [packT] at h
  | .int k, q :: l, l', x, vs, h, hl => by
    simp only [packT, Option.map_eq_some_iff, Prod.mk.injEq] at h
    obtain ⟨y, h, rfl, rfl⟩ := h
    cases hl with | cons h1 h2 => exact ⟨[_], _, rfl, typed_s rfl h h1, h2⟩
  | .bool, q :: l, l', x, vs, h, hl => by
    simp only [packT, Option.map_eq_some_iff, Prod.mk.injEq] at h
    obtain ⟨y, h, rfl, rfl⟩ := h
    cases hl with | cons h1 h2 => exact ⟨[_], _, rfl, typed_s rfl h h1, h2⟩
  | .str, q :: l, l', x, vs, h, hl => by
    simp only [packT, Option.map_eq_some_iff, Prod.mk.injEq] at h
    obtain ⟨y, h, rfl, rfl⟩ := h
    cases hl with | cons h1 h2 => exact ⟨[_], _, rfl, typed_s rfl h h1, h2⟩
  | .slice e, q :: l, l', x, vs, h, hl => by
    simp only [packT, Option.map_eq_some_iff, Prod.mk.injEq] at h
    obtain ⟨y, h, rfl, rfl⟩ := h
    cases hl with | cons h1 h2 => exact ⟨[_], _, rfl, typed_s rfl h h1, h2⟩

theorem run_isAgg {t : TypeId} (h : (P.underlying t).isSome = true) (w : World) : (isAgg t).run P w = .ok (isAggB P t) w := by
  obtain ⟨d, hd⟩ := Option.isSome_iff_exists.1 h
  unfold isAgg isAggB
  simp only [Sem.run_bind, run_underlying hd, Result.andThen_ok, hd]
  cases d <;> rfl

theorem run_loadVar {t : TypeId} (h : (P.underlying t).isSome = true) {T : Ty} (hz : szIs P t T.sz = true) (hg : isAggB P t = T.agg) {x : T.den} {cs : List Value} {ad : Addr}
    (hr : RepC B W T x cs) (hc : ∀ j u, cs[j]? = some u → W.cell? (ad.add j) = some u) : ∃ u, (loadVar t ad).run P W = .ok u W ∧ RepV B W T x u := by
  obtain ⟨i, hi, hs⟩ := szIs_eq hz
  unfold loadVar
  simp only [Sem.run_bind, run_isAgg h, Result.andThen_ok, hg]
  cases ha : T.agg with
  | true =>
    have hl := run_loadCells_list (P := P) W ad cs hc
    rw [hr.len] at hl
    simp only [if_true, Sem.run_bind, run_size hi, hs, Result.andThen_ok, hl]
    exact ⟨_, rfl, by unfold RepV; rw [ha]; exact ⟨cs, rfl, hr⟩⟩
  | false =>
    have hlen := hr.len
    have h1 : T.sz = 1 := by cases T <;> first | rfl | cases ha
    rw [h1] at hlen
    obtain ⟨u, rfl⟩ : ∃ u, cs = [u] := by
      match cs, hlen with
      | [u], _ => exact ⟨u, rfl⟩
    have hcell : W.cell? ad = some u := by simpa [Addr.add] using hc 0 u rfl
    refine ⟨u, ?_, by unfold RepV; rw [ha]; exact hr⟩
    simp only [Bool.false_eq_true, if_false, run_load, hcell]

theorem mget_some {m : Mem} {k : Nat} {c : List A0} (h : mget m k = some c) : (k, c) ∈ m := by
  unfold mget at h
  rw [Option.map_eq_some_iff] at h
  obtain ⟨p, hp, rfl⟩ := h
  have h1 := List.find?_some hp
  have h2 := List.mem_of_find?_eq_some hp
  obtain rfl := Nat.eq_of_beq_eq_true h1
  exact h2

theorem cell_arr {w : World} {b : Nat} {arr : Array Value} {ty : TypeId} {fz : Nat × Nat} (h : w.heap[b]? = some (.cells arr ty fz)) (o : Nat) : w.cell? ⟨b, o, none⟩ = arr[o]? := by
  simp [World.cell?, h]

theorem obj_cells (hl : LabOK B W) (hm : MemOK B W m) {k b : Nat} {c : List A0} (hk : mget m k = some c) (hb : B b = .obj k) :
    ∃ arr ty, W.heap[b]? = some (.cells arr ty (0, 0)) ∧ All2 (Rep0 B W) c arr.toList := by
  obtain ⟨b', arr, ty, hb', hw, hc⟩ := hm.2 _ (mget_some hk)
  obtain rfl := hl.objs b b' k hb hb'
  exact ⟨arr, ty, hw, hc⟩

end

end Go.V
