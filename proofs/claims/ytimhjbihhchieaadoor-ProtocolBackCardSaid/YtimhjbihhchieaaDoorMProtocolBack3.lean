/- Texts of this claim, one after the other: the calculus V and the functions' contracts. Conditions: as each states. -/
import Derived.Test.YtimhjbihhchieaaDoorMProtocolBack2
import Derived.Calls
import Derived.Laws.Small
import Derived.Laws.Strings
import Derived.Laws.Strings2
import Derived.Laws.Strings3
import Derived.Laws.Slices
import Derived.Laws.Entries
import Derived.Laws.BytesString
import Derived.Laws.Cells
import Derived.Laws.Rows
import Derived.Laws.Tables
import Derived.Laws.Concat
import Derived.Laws.IdiomStrings
namespace Go.V

section
variable {B0 : Lab} {W0 : World} {N : Nat} {WL : World} {B : Lab} {W : World} {r : Regs} {m : Mem} {tm : List Value}

theorem renL_row {w w' u : Ow} {b : Nat} (h : renL B w w' b = .row u) : (B b = .row w ∧ u = w') ∨ (B b = .row u ∧ u ≠ w) := by
  unfold renL at h
  split at h
  · rename_i q hq
    split at h
    · rename_i e; cases h; exact .inl ⟨e ▸ hq, rfl⟩
    · rename_i hn; cases h; exact .inr ⟨hq, hn⟩
  · rename_i hq; exact absurd h (hq u)
theorem renL_obj {w w' : Ow} {k b : Nat} (h : renL B w w' b = .obj k) : B b = .obj k := by
  unfold renL at h
  split at h
  · split at h <;> cases h
  · exact h
theorem renL_ext (B : Lab) (W : World) (w w' : Ow) : Ext B W (renL B w w') W (· = w) (fun _ => False) where
  st := fun b h => by simp [renL, h]
  row := fun b u h hn => by simp [renL, h, hn]
  obj := fun b k h _ => by simp [renL, h]
theorem renL_move (B : Lab) (W : World) (w w' : Ow) : Move B W (renL B w w') W :=
  ⟨Nat.le_refl _, rfl, rfl, rfl, fun b h => by simp [renL, h], fun b _ h => by simp [renL, h], fun b k _ _ h => by simp [renL, h]⟩
theorem renL_ok (h : LabOK B W) {w w' : Ow} (hno : ∀ b, B b ≠ .row w') : LabOK (renL B w w') W where
  dom := fun b hb => h.dom b (fun e => hb (by simp [renL, e]))
  rows := fun b b' u h1 h2 => by
    rcases renL_row h1 with ⟨e1, rfl⟩ | ⟨e1, n1⟩ <;> rcases renL_row h2 with ⟨e2, e3⟩ | ⟨e2, n2⟩
    · exact h.rows b b' w e1 e2
    · exact absurd e2 (hno _)
    · subst e3; exact absurd e1 (hno _)
    · exact h.rows b b' u e1 e2
  objs := fun b b' k h1 h2 => h.objs b b' k (renL_obj h1) (renL_obj h2)

theorem RowBlk.ren {w w' : Ow} {e : Ty} {l : List e.den} {cap b : Nat} (h : RowBlk B W w e l cap b) : RowBlk (renL B w w') W w' e l cap b := by
  obtain ⟨hb, arr, ty, fz, h1, h2, h3, h4, h5⟩ := h
  exact ⟨by simp [renL, hb], arr, ty, fz, h1, h2, h3, h4, h5.mono (fun x es _ h => RepC.ext (renL_ext B W w w').s h) rfl⟩

theorem Rep0.ren {w w' : Ow} {a : A0} {v : Value} (h : Rep0 B W a v) : Rep0 (renL B w w') W (a.ren w w') v := by
  have keep : ¬ a.has w → Rep0 (renL B w w') W a v := fun hn => Rep0.ext (renL_ext B W w w') (fun u hu hd => hn (hd ▸ hu)) (fun _ _ h => h) h
  cases a with
  | al u e l =>
    by_cases hu : u = w
    · subst hu
      simp only [A0.ren, if_true]
      rcases h with h | ⟨b, cap, rfl, h⟩
      · exact .inl h
      · exact .inr ⟨b, cap, rfl, h.ren⟩
    · simpa only [A0.ren, hu, if_false] using keep hu
  | vp u e l i t off g s =>
    by_cases hu : u = w
    · subst hu
      simp only [A0.ren, if_true]
      obtain ⟨b, cap, rfl, hi, hb, hl⟩ := h
      exact ⟨b, cap, rfl, hi, hb.ren, hl⟩
    · simpa only [A0.ren, hu, if_false] using keep hu
  | undef => exact keep (fun h => h)
  | val t x => exact keep (fun h => h)
  | pv t x => exact keep (fun h => h)
  | full e l => exact keep (fun h => h)
  | sc v => exact keep (fun h => h)
  | ptr k off => exact keep (fun h => h)

theorem Inv.ren (h : Inv B0 W0 N WL B W r m tm) (w w' : Ow) (hno : ∀ b, B b ≠ .row w') : Inv B0 W0 N WL (renL B w w') W (r.map (AV.map (A0.ren w w'))) (mmap (A0.ren w w') m) tm :=
  h.turn (renL_ok h.lab hno) (renL_move B W w w') _ (fun _ _ ha => Rep0.ren ha) fun b k hb _ => ⟨(renL_ext B W w w').obj b k hb (fun h => h), rfl⟩

theorem killL_no (w : Ow) (b : Nat) : killL B w b ≠ .row w := fun h => (killL_row h).2 rfl

theorem vname_s {G : Prop} {u w : Ow} {K : Regs → Mem → Prop} (hv : vname r m u w K) (h : Inv B0 W0 N WL B W r m tm)
    (k : ∀ B r m, Inv B0 W0 N WL B W r m tm → K r m → G) : G := by
  unfold vname at hv
  split at hv
  · exact k _ _ _ h hv
  · simp only [mapS_eq] at hv
    exact k _ _ _ ((h.kill w).ren u w (killL_no w)) hv

theorem vfreeze_s {G : Prop} {K : Regs → Mem → Prop} : ∀ {xs : List Operand} {B : Lab} {r : Regs} {m : Mem}, vfreeze r m xs K → Inv B0 W0 N WL B W r m tm →
    (∀ B r m, Inv B0 W0 N WL B W r m tm → K r m → G) → G
  | [], _, _, _, hv, h, k => k _ _ _ h hv
  | x :: xs, B, r, m, hv, h, k => by
    unfold vfreeze at hv
    split at hv
    · simp only [mapS_eq] at hv
      exact vfreeze_s hv (h.frz _) k
    · exact vfreeze_s hv h k

theorem vfreezeC_s {G : Prop} {K : Regs → Mem → Prop} : ∀ {xs : List A0} {B : Lab} {r : Regs} {m : Mem}, vfreezeC r m xs K → Inv B0 W0 N WL B W r m tm →
    (∀ B r m, Inv B0 W0 N WL B W r m tm → K r m → G) → G
  | [], _, _, _, hv, h, k => k _ _ _ h hv
  | x :: xs, B, r, m, hv, h, k => by
    cases x with
    | al w e l =>
      simp only [vfreezeC, mapS_eq] at hv
      exact vfreezeC_s hv (h.frz _) k
    | _ => exact vfreezeC_s (by simpa only [vfreezeC] using hv) h k

/-! ### operands -/

theorem rep_ofVal (v : Value) : Rep0 B W (ofVal v) v := by
  unfold ofVal
  split <;> rfl

theorem vval_rep {a : Act} (h : All2 (RepA B W) r a.tmps.toList) (x : Operand) : RepA B W (vval r x) (a.eval x) := by
  cases x with
  | tmp t =>
    show RepA B W (r.getD t (.lf .undef)) (a.tmps.getD t undef)
    cases ht : r[t]? with
    | none => simp only [List.getD, ht, Option.getD]; trivial
    | some v =>
      obtain ⟨u, hu, hr⟩ := h.get t v ht
      have e : a.tmps.getD t undef = u := by
        rw [Array.getElem?_toList] at hu
        simp [hu]
      rw [e]
      simpa only [List.getD, ht, Option.getD] using hr
  | const v => exact rep_ofVal v
  | global g => trivial
  | func f => exact ⟨#[], #[], rfl, .nil, .nil⟩

theorem rep_int {k : IntKind} {n : Int} {u : Value} (h : RepA B W (.lf (.val (.int k) n)) u) : u = .int k n := by
  have : [u] = [Value.int k n] := h
  simpa using this
theorem rep_bool {b : Bool} {u : Value} (h : RepA B W (.lf (.val .bool b)) u) : u = .bool b := by
  have : [u] = [Value.bool b] := h
  simpa using this
theorem rep_str {s : ByteArray} {u : Value} (h : RepA B W (.lf (.val .str s)) u) : u = .string s := by
  have : [u] = [Value.string s] := h
  simpa using this
theorem rep_sc {v u : Value} (h : RepA B W (.lf (.sc v)) u) : u = v := h

/-- what a slice is whose elements are known -/
def RowAt (B : Lab) (W : World) (e : Ty) (l : List e.den) (v : Value) : Prop :=
  ∃ a cap, v = .slice a l.length cap ∧ l.length ≤ cap ∧ (l = [] ∨ ∃ ad, a = some ad ∧ ad.spot = none ∧ Elems (fun x es => RepC B W e x es) e.sz W l ad)

theorem rep_row {a : A0} {e : Ty} {l : List e.den} {u : Value} (hr : a.row? = some ⟨e, l⟩) (h : RepA B W (.lf a) u) : RowAt B W e l u := by
  cases a with
  | val t x =>
    cases t <;> simp only [A0.row?] at hr <;> try cases hr
    obtain ⟨a, cap, e, hc, h⟩ := (h : RepC B W (.slice _) _ [u])
    simp at e
    exact ⟨a, cap, e, hc, h.imp id fun ⟨ad, ha, _, hs, he⟩ => ⟨ad, ha, hs, he⟩⟩
  | al w e l =>
    simp only [A0.row?] at hr
    cases hr
    rcases (h : OwnRow B W w e l u) with ⟨rfl, rfl⟩ | ⟨b, cap, rfl, hb, arr, ty, fz, h1, h2, h3, h4, h5⟩
    · exact ⟨none, 0, rfl, Nat.le_refl _, .inl rfl⟩
    · exact ⟨_, cap, rfl, h3, .inr ⟨_, rfl, rfl, h5⟩⟩
  | full e l =>
    simp only [A0.row?] at hr
    cases hr
    obtain ⟨a, rfl, h⟩ := (h : ∃ a, u = .slice a l.length l.length ∧ _)
    exact ⟨a, _, rfl, Nat.le_refl _, h.imp id fun ⟨ad, ha, _, hs, he⟩ => ⟨ad, ha, hs, he⟩⟩
  | _ => simp only [A0.row?] at hr; cases hr

end

end Go.V

namespace Go.V
set_option linter.unusedVariables false
set_option linter.unusedSimpArgs false

section
variable {B0 : Lab} {W0 : World} {N : Nat} {WL : World} {B : Lab} {W : World} {r : Regs} {m : Mem} {P : Program} {a : Act}

def Does (P : Program) (B : Lab) (W : World) (K : AV → Prop) (s : Sem Value) : Prop := ∃ v u, K v ∧ RepA B W v u ∧ s.run P W = .ok u W

theorem Does.exec {K : AV → Prop} {s : Sem Value} (h : Does P B W K s) {e : Sem Next} (he : e = (do pure (.value (← s)))) : ∃ v u, K v ∧ RepA B W v u ∧ e.run P W = .ok (.value u) W := by
  obtain ⟨v, u, hk, hr, hs⟩ := h
  refine ⟨v, u, hk, hr, ?_⟩
  rw [he, Sem.run_bind, hs]; rfl

theorem mkInt {k : IntKind} {n : Int} : RepA B W (.lf (.val (.int k) n)) (.int k n) := (rfl : [Value.int k n] = [Value.int k n])
theorem mkBool {b : Bool} : RepA B W (.lf (.val .bool b)) (.bool b) := (rfl : [Value.bool b] = [Value.bool b])
theorem mkStr {s : ByteArray} : RepA B W (.lf (.val .str s)) (.string s) := (rfl : [Value.string s] = [Value.string s])

theorem chk {b : Bool} {k : Prop} (h : vchk b k) : b = true ∧ k := by
  cases b
  · exact h.elim
  · exact ⟨rfl, h⟩
theorem optK_some {α : Type} {x : Option α} {K : α → Prop} (h : optK x K) : ∃ y, x = some y ∧ K y := by
  cases x with
  | none => exact h.elim
  | some y => exact ⟨y, rfl, h⟩
theorem szIs_eq {t : TypeId} {n : Nat} (h : szIs P t n = true) : ∃ i, P.info? t = some i ∧ i.size = n := by
  unfold szIs at h
  split at h
  · rename_i i hi; exact ⟨i, hi, Nat.eq_of_beq_eq_true h⟩
  · cases h
theorem run_size {t : TypeId} {i : TypeInfo} (h : P.info? t = some i) (w : World) : (sizeOf t).run P w = .ok i.size w := by
  simp [sizeOf, typeInfo, h]

theorem binI_s {op : BinOp} {t : TypeId} {k : IntKind} {n q : Int} {X Y : Operand} {K : AV → Prop} (hs : isSh op = false) (h : binI op k n q fun a => K (.lf a)) :
    Does P B W K (do eqGuard op t X Y (.int k n) (.int k q); binOp op t (.int k n) (.int k q)) := by
  have hg : ∀ w, (eqGuard op t X Y (.int k n) (.int k q)).run P w = .ok () w := by
    intro w; unfold eqGuard; split <;> rfl
  unfold Does
  simp only [Sem.run_bind, hg, Result.andThen_ok]
  cases op <;> simp only [binI, vand] at h <;> simp only [isSh] at hs <;> try cases hs
  all_goals simp only [binOp, ne_eq, not_true, if_false, Op.intArith, Op.intBits, Op.intCmp, Op.intDiv]
  case quo => rw [if_neg h.1]; exact ⟨_, _, h.2, mkInt, rfl⟩
  case rem => rw [if_neg h.1]; exact ⟨_, _, h.2, mkInt, rfl⟩
  case add => exact ⟨_, _, h, mkInt, rfl⟩
  case sub => exact ⟨_, _, h, mkInt, rfl⟩
  case mul => exact ⟨_, _, h, mkInt, rfl⟩
  case and => exact ⟨_, _, h, mkInt, rfl⟩
  case or => exact ⟨_, _, h, mkInt, rfl⟩
  case xor => exact ⟨_, _, h, mkInt, rfl⟩
  case andNot => exact ⟨_, _, h, mkInt, rfl⟩
  all_goals exact ⟨_, _, h, mkBool, rfl⟩

theorem shI_s {op : BinOp} {t : TypeId} {k k' : IntKind} {n q : Int} {X Y : Operand} {K : AV → Prop} (hs : isSh op = true) (h : shI op k n q fun a => K (.lf a)) :
    Does P B W K (do eqGuard op t X Y (.int k n) (.int k' q); binOp op t (.int k n) (.int k' q)) := by
  have hg : ∀ w, (eqGuard op t X Y (.int k n) (.int k' q)).run P w = .ok () w := by
    intro w; unfold eqGuard; split <;> rfl
  unfold Does
  simp only [Sem.run_bind, hg, Result.andThen_ok]
  cases op <;> simp only [shI, vand] at h <;> simp only [isSh] at hs <;> try cases hs
  all_goals
    simp only [binOp, Op.shift]
    rw [if_neg (by omega)]
    exact ⟨_, _, h.2, mkInt, rfl⟩

theorem binS_s {op : BinOp} {t : TypeId} {x y : ByteArray} {X Y : Operand} {K : AV → Prop} (h : binS op x y fun a => K (.lf a)) :
    Does P B W K (do eqGuard op t X Y (.string x) (.string y); binOp op t (.string x) (.string y)) := by
  have hg : ∀ w, (eqGuard op t X Y (.string x) (.string y)).run P w = .ok () w := by
    intro w; unfold eqGuard; split <;> rfl
  unfold Does
  simp only [Sem.run_bind, hg, Result.andThen_ok]
  cases op <;> simp only [binS, vand] at h <;> try cases h
  case add =>
    rename_i h1 h2
    exact ⟨_, _, h2, mkStr, by simpa only [binOp] using run_string_add_sum (P := P) (w := W) x y h1⟩
  case eql => exact ⟨_, _, h, mkBool, rfl⟩
  case neq => exact ⟨_, _, h, mkBool, rfl⟩

theorem binB_s {op : BinOp} {t : TypeId} {x y : Bool} {X Y : Operand} {K : AV → Prop} (h : binB P t op x y fun a => K (.lf a)) :
    Does P B W K (do eqGuard op t X Y (.bool x) (.bool y); binOp op t (.bool x) (.bool y)) := by
  have hg : ∀ w, (eqGuard op t X Y (.bool x) (.bool y)).run P w = .ok () w := by
    intro w; unfold eqGuard; split <;> rfl
  unfold Does
  simp only [Sem.run_bind, hg, Result.andThen_ok]
  unfold binB at h
  split at h
  · rename_i hu
    split at h
    · exact ⟨_, _, h, mkBool, by simpa using run_eql_bool (P := P) (w := W) t x y hu⟩
    · exact ⟨_, _, h, mkBool, by simpa using run_neq_bool (P := P) (w := W) t x y hu⟩
    · exact h.elim
  · exact h.elim

theorem vbin_s {op : BinOp} {t : TypeId} {x y : AV} {u v : Value} {X Y : Operand} {K : AV → Prop} (h : vbin P op t x y fun a => K (.lf a)) (hx : RepA B W x u) (hy : RepA B W y v) :
    Does P B W K (do eqGuard op t X Y u v; binOp op t u v) := by
  unfold vbin at h
  split at h
  · obtain rfl := rep_int hx
    obtain rfl := rep_int hy
    split at h
    · rename_i e; exact shI_s e h
    · rename_i e
      obtain ⟨hk, h⟩ := chk h
      obtain rfl := of_decide_eq_true hk
      exact binI_s e h
  · obtain rfl := rep_str hx
    obtain rfl := rep_str hy
    exact binS_s h
  · obtain rfl := rep_bool hx
    obtain rfl := rep_bool hy
    exact binB_s h
  · exact h.elim

theorem isNat_s {x : AV} {u : Value} {K : Int → Prop} (h : isNat x K) (hx : RepA B W x u) : ∃ k n, u = .int k n ∧ K n := by
  unfold isNat at h
  split at h
  · exact ⟨_, _, rep_int hx, h⟩
  · exact h.elim

/-! ### parts of values -/

theorem add_add (a : Addr) (m n : Nat) : (a.add m).add n = a.add (m + n) := by
  unfold Addr.add
  by_cases hm : m = 0 <;> by_cases hn : n = 0 <;> simp [hm, hn, Nat.add_assoc]

theorem Elems.take {α : Type} {R : α → List Value → Prop} {sz : Nat} {l : List α} {ad : Addr} (h : Elems R sz W l ad) (n : Nat) : Elems R sz W (l.take n) ad := by
  intro i hi
  have hi' : i < l.length := by simp at hi; omega
  obtain ⟨es, h1, h2⟩ := h i hi'
  exact ⟨es, by simpa using h1, h2⟩

theorem Elems.drop {α : Type} {R : α → List Value → Prop} {sz : Nat} {l : List α} {ad : Addr} (h : Elems R sz W l ad) (n : Nat) : Elems R sz W (l.drop n) (ad.add (n * sz)) := by
  intro i hi
  have hi' : n + i < l.length := by simp at hi; omega
  obtain ⟨es, h1, h2⟩ := h (n + i) hi'
  refine ⟨es, by simpa using h1, fun j v hv => ?_⟩
  rw [add_add, show n * sz + (i * sz + j) = (n + i) * sz + j by rw [Nat.add_mul, Nat.add_assoc]]
  exact h2 j v hv

theorem projT_s : ∀ {t : Ty} {x : t.den} {cs : List Value} {i off o : Nat} {u : Ty} {z : u.den}, projT t x i off = some (o, ⟨u, z⟩) → RepC B W t x cs →
    ∃ c1 c2 c3, cs = c1 ++ c2 ++ c3 ∧ c1.length + off = o ∧ RepC B W u z c2
  | .cons a b, x, cs, 0, off, o, u, z, h, hr => by
    simp only [projT, Option.some.injEq, Prod.mk.injEq] at h
    obtain ⟨rfl, h⟩ := h
    cases h
    obtain ⟨c1, c2, rfl, h1, h2⟩ := hr
    exact ⟨[], c1, c2, rfl, by simp, h1⟩
  | .cons a b, x, cs, i + 1, off, o, u, z, h, hr => by
    simp only [projT] at h
    obtain ⟨c1, c2, rfl, h1, h2⟩ := hr
    obtain ⟨d1, d2, d3, rfl, hl, hd⟩ := projT_s h h2
    exact ⟨c1 ++ d1, d2, d3, by simp, by rw [List.length_append, h1.len]; omega, hd⟩
  | .int _, _, _, _, _, _, _, _, h, _ => by simp [projT] at h
  | .bool, _, _, _, _, _, _, _, h, _ => by simp [projT] at h
  | .str, _, _, _, _, _, _, _, h, _ => by simp [projT] at h
  | .nil, _, _, _, _, _, _, _, h, _ => by simp [projT] at h
  | .slice _, _, _, _, _, _, _, _, h, _ => by simp [projT] at h

theorem Lens.id (e : Ty) : Lens e e 0 id fun _ y => y :=
  fun _ _ x cs h => ⟨[], cs, [], by simp, rfl, h, fun y c hy => by simpa using hy⟩

theorem lensT_s : ∀ {t : Ty} {i off o : Nat} {u : Ty} {g : t.den → u.den} {s : t.den → u.den → t.den}, lensT t i off = some (o, ⟨u, g, s⟩) → ∃ q, o = off + q ∧ Lens t u q g s
  | .cons a b, 0, off, o, u, g, s, h => by
    simp only [lensT, Option.some.injEq, Prod.mk.injEq] at h
    obtain ⟨rfl, h⟩ := h
    cases h
    refine ⟨0, rfl, fun B W x cs hr => ?_⟩
    obtain ⟨c1, c2, rfl, h1, h2⟩ := hr
    exact ⟨[], c1, c2, rfl, rfl, h1, fun y c hy => ⟨c, c2, by simp, hy, h2⟩⟩
  | .cons a b, i + 1, off, o, u, g, s, h => by
    simp only [lensT, Option.map_eq_some_iff] at h
    obtain ⟨⟨o', u', g', s'⟩, h1, h2⟩ := h
    simp only [Prod.mk.injEq] at h2
    obtain ⟨rfl, h2⟩ := h2
    cases h2
    obtain ⟨q, rfl, hl⟩ := lensT_s h1
    refine ⟨a.sz + q, by omega, fun B W x cs hr => ?_⟩
    obtain ⟨c1, c2, rfl, e1, e2⟩ := hr
    obtain ⟨d1, d2, d3, rfl, hd, hg, hs⟩ := hl B W x.2 c2 e2
    refine ⟨c1 ++ d1, d2, d3, by simp, by rw [List.length_append, e1.len]; omega, hg, fun y c hy => ?_⟩
    exact ⟨c1, d1 ++ c ++ d3, by simp, e1, hs y c hy⟩
  | .int _, _, _, _, _, _, _, h => by simp [lensT] at h
  | .bool, _, _, _, _, _, _, h => by simp [lensT] at h
  | .str, _, _, _, _, _, _, h => by simp [lensT] at h
  | .nil, _, _, _, _, _, _, h => by simp [lensT] at h
  | .slice _, _, _, _, _, _, _, h => by simp [lensT] at h

theorem Lens.comp {e t u : Ty} {o q : Nat} {g : e.den → t.den} {s : e.den → t.den → e.den} {g' : t.den → u.den} {s' : t.den → u.den → t.den} (h : Lens e t o g s) (h' : Lens t u q g' s') :
    Lens e u (o + q) (fun x => g' (g x)) fun x y => s x (s' (g x) y) := by
  intro B W x cs hr
  obtain ⟨c1, c2, c3, rfl, hl, hg, hs⟩ := h B W x cs hr
  obtain ⟨d1, d2, d3, rfl, hl', hg', hs'⟩ := h' B W _ c2 hg
  refine ⟨c1 ++ d1, d2, d3 ++ c3, by simp, by rw [List.length_append]; omega, hg', fun y c hy => ?_⟩
  have := hs _ _ (hs' y c hy)
  simpa using this

theorem cast_some {s t : Ty} {x : s.den} {y : t.den} (h : s.cast? t x = some y) : ∃ e : s = t, y = e ▸ x := by
  unfold Ty.cast? at h
  split at h
  · rename_i e; exact ⟨e, (Option.some.inj h).symm⟩
  · cases h

theorem RepV.plain {t : Ty} (ht : t.agg = false) {x : t.den} {v : Value} : RepV B W t x v ↔ RepC B W t x [v] := by
  unfold RepV; rw [ht]

theorem typed_s {t : Ty} (ht : t.agg = false) {a : A0} {x : t.den} {v : Value} (h : typed t a = some x) (hr : Rep0 B W a v) : RepC B W t x [v] := by
  unfold typed at h
  split at h
  · obtain ⟨e, rfl⟩ := cast_some h
    subst e
    exact (RepV.plain ht).1 hr
  · cases t <;> simp only at h <;> try cases h
    obtain rfl : v = .slice none 0 0 := hr
    exact ⟨none, 0, rfl, Nat.le_refl _, .inl rfl⟩
  · cases h

theorem packT_s : ∀ {t : Ty} {l l' : List A0} {x : t.den} {vs : List Value}, packT t l = some (x, l') → All2 (Rep0 B W) l vs →
    ∃ cs vs', vs = cs ++ vs' ∧ RepC B W t x cs ∧ All2 (Rep0 B W) l' vs'
  | .nil, l, l', x, vs, h, hl => by
    simp only [packT, Option.some.injEq, Prod.mk.injEq] at h
    obtain ⟨_, rfl⟩ := h
    exact ⟨[], vs, rfl, rfl, hl⟩
  | .cons a b, l, l', x, vs, h, hl => by
    simp only [packT] at h
    split at h
    · rename_i x1 l1 h1
      split at h
      · rename_i y l2 h2
        simp only [Option.some.injEq, Prod.mk.injEq] at h
        obtain ⟨rfl, rfl⟩ := h
        obtain ⟨c1, v1, rfl, e1, hl1⟩ := packT_s h1 hl
        obtain ⟨c2, v2, rfl, e2, hl2⟩ := packT_s h2 hl1
        exact ⟨c1 ++ c2, v2, by simp, ⟨c1, c2, rfl, e1, e2⟩, hl2⟩
      · cases h
    · cases h
  | .int k, [], l', x, vs, h, hl => by simp [packT] at h
  | .bool, [], l', x, vs, h, hl => by simp [packT] at h
  | .str, [], l', x, vs, h, hl => by simp [packT] at h
  | .slice e, [], l', x, vs, h, hl => by simp [packT] at h
  | .int k, q :: l, l', x, vs, h, hl => by
    simp only [packT, Option.map_eq_some_iff, Prod.mk.injEq] at h
    obtain ⟨y, h, rfl, rfl⟩ := h
    cases hl with | cons h1 h2 => exact ⟨[_], _, rfl, typed_s rfl h h1, h2⟩
  | .bool, q :: l, l', x, vs, h, hl => by
    simp only [packT, Option.map_eq_some_iff, Prod.mk.injEq] at h
    obtain ⟨y, h, rfl, rfl⟩ := h
    cases hl with | cons h1 h2 => exact ⟨[_], _, rfl, typed_s rfl h h1, h2⟩
  | .str, q :: l, l', x, vs, h, hl => by
    simp only [packT, Option.map_eq_some_iff, Prod.mk.injEq] at h
    obtain ⟨y, h, rfl, rfl⟩ := h
    cases hl with | cons h1 h2 => exact ⟨[_], _, rfl, typed_s rfl h h1, h2⟩
  | .slice e, q :: l, l', x, vs, h, hl => by
    simp only [packT, Option.map_eq_some_iff, Prod.mk.injEq] at h
    obtain ⟨y, h, rfl, rfl⟩ := h
    cases hl with | cons h1 h2 => exact ⟨[_], _, rfl, typed_s rfl h h1, h2⟩

theorem run_isAgg {t : TypeId} (h : (P.underlying t).isSome = true) (w : World) : (isAgg t).run P w = .ok (isAggB P t) w := by
  obtain ⟨d, hd⟩ := Option.isSome_iff_exists.1 h
  unfold isAgg isAggB
  simp only [Sem.run_bind, run_underlying hd, Result.andThen_ok, hd]
  cases d <;> rfl

theorem run_loadVar {t : TypeId} (h : (P.underlying t).isSome = true) {T : Ty} (hz : szIs P t T.sz = true) (hg : isAggB P t = T.agg) {x : T.den} {cs : List Value} {ad : Addr}
    (hr : RepC B W T x cs) (hc : ∀ j u, cs[j]? = some u → W.cell? (ad.add j) = some u) : ∃ u, (loadVar t ad).run P W = .ok u W ∧ RepV B W T x u := by
  obtain ⟨i, hi, hs⟩ := szIs_eq hz
  unfold loadVar
  simp only [Sem.run_bind, run_isAgg h, Result.andThen_ok, hg]
  cases ha : T.agg with
  | true =>
    have hl := run_loadCells_list (P := P) W ad cs hc
    rw [hr.len] at hl
    simp only [if_true, Sem.run_bind, run_size hi, hs, Result.andThen_ok, hl]
    exact ⟨_, rfl, by unfold RepV; rw [ha]; exact ⟨cs, rfl, hr⟩⟩
  | false =>
    have hlen := hr.len
    have h1 : T.sz = 1 := by cases T <;> first | rfl | cases ha
    rw [h1] at hlen
    obtain ⟨u, rfl⟩ : ∃ u, cs = [u] := by
      match cs, hlen with
      | [u], _ => exact ⟨u, rfl⟩
    have hcell : W.cell? ad = some u := by simpa [Addr.add] using hc 0 u rfl
    refine ⟨u, ?_, by unfold RepV; rw [ha]; exact hr⟩
    simp only [Bool.false_eq_true, if_false, run_load, hcell]

theorem mget_some {m : Mem} {k : Nat} {c : List A0} (h : mget m k = some c) : (k, c) ∈ m := by
  unfold mget at h
  rw [Option.map_eq_some_iff] at h
  obtain ⟨p, hp, rfl⟩ := h
  have h1 := List.find?_some hp
  have h2 := List.mem_of_find?_eq_some hp
  obtain rfl := Nat.eq_of_beq_eq_true h1
  exact h2

theorem cell_arr {w : World} {b : Nat} {arr : Array Value} {ty : TypeId} {fz : Nat × Nat} (h : w.heap[b]? = some (.cells arr ty fz)) (o : Nat) : w.cell? ⟨b, o, none⟩ = arr[o]? := by
  simp [World.cell?, h]

theorem obj_cells (hl : LabOK B W) (hm : MemOK B W m) {k b : Nat} {c : List A0} (hk : mget m k = some c) (hb : B b = .obj k) :
    ∃ arr ty, W.heap[b]? = some (.cells arr ty (0, 0)) ∧ All2 (Rep0 B W) c arr.toList := by
  obtain ⟨b', arr, ty, hb', hw, hc⟩ := hm.2 _ (mget_some hk)
  obtain rfl := hl.objs b b' k hb hb'
  exact ⟨arr, ty, hw, hc⟩

end

end Go.V

namespace Go.V
set_option linter.unusedVariables false
set_option linter.unusedSimpArgs false

section
variable {B0 : Lab} {W0 : World} {N : Nat} {WL : World} {B : Lab} {W : World} {r : Regs} {m : Mem} {P : Program} {a : Act}

theorem optI_s (hr : All2 (RepA B W) r a.tmps.toList) {x : Option Operand} {d : Int} {K : Int → Prop} (h : optI r x d K) :
    ∃ n, K n ∧ ((x = none ∧ n = d) ∨ ∃ y k, x = some y ∧ a.eval y = .int k n) := by
  cases x with
  | none => exact ⟨d, h, .inl ⟨rfl, rfl⟩⟩
  | some y =>
    obtain ⟨k, n, hu, hk⟩ := isNat_s h (vval_rep hr y)
    exact ⟨n, hk, .inr ⟨y, k, rfl, hu⟩⟩

theorem bounds_lh {isS : Bool} {len cap : Nat} {lo hi : Option Operand} {n q : Int} (hlo : (lo = none ∧ n = 0) ∨ ∃ y k, lo = some y ∧ a.eval y = .int k n)
    (hhi : (hi = none ∧ q = len) ∨ ∃ y k, hi = some y ∧ a.eval y = .int k q) (h0 : 0 ≤ n) (h1 : n ≤ q) (h2 : q ≤ cap) :
    (Instr.sliceBounds isS len cap (lo.map a.eval) (hi.map a.eval) none).run P W = .ok (n.toNat, q.toNat, cap) W := by
  have e2 : (q.toNat : Int) = q := Int.toNat_of_nonneg (by omega)
  unfold Instr.sliceBounds
  rcases hlo with ⟨rfl, rfl⟩ | ⟨x, k, rfl, hx⟩ <;> rcases hhi with ⟨rfl, rfl⟩ | ⟨y, k', rfl, hy⟩
  · simp
  · simp only [Option.map_some, Option.map_none, Sem.run_bind, hy, Sem.run_pure, Result.andThen_ok]
    rw [run_sliceBound _ _ _ _ _ (by omega) h2]; simp
  · simp only [Option.map_some, Option.map_none, Sem.run_bind, hx, Sem.run_pure, Result.andThen_ok]
    rw [run_sliceBound _ _ _ _ _ (by omega) (by omega)]; simp
  · simp only [Option.map_some, Option.map_none, Sem.run_bind, hx, hy, Sem.run_pure, Result.andThen_ok]
    rw [run_sliceBound _ _ _ _ _ (by omega) h2]
    simp only [Result.andThen_ok, Sem.run_bind]
    rw [run_sliceBound _ _ _ _ _ (by omega) (by rw [e2]; omega)]; simp

theorem bounds_lhm {len cap : Nat} {lo : Option Operand} {hi mx : Operand} {n q z : Int} {k' k'' : IntKind} (hlo : (lo = none ∧ n = 0) ∨ ∃ y k, lo = some y ∧ a.eval y = .int k n)
    (hhi : a.eval hi = .int k' q) (hmx : a.eval mx = .int k'' z) (h0 : 0 ≤ n) (h1 : n ≤ q) (h2 : q ≤ z) (h3 : z ≤ cap) :
    (Instr.sliceBounds true len cap (lo.map a.eval) ((some hi).map a.eval) ((some mx).map a.eval)).run P W = .ok (n.toNat, q.toNat, z.toNat) W := by
  have e2 : (q.toNat : Int) = q := Int.toNat_of_nonneg (by omega)
  have e3 : (z.toNat : Int) = z := Int.toNat_of_nonneg (by omega)
  unfold Instr.sliceBounds
  simp only [Option.map_some, Sem.run_bind, hhi, hmx]
  rw [run_sliceBound _ _ _ _ _ (by omega) h3]
  simp only [Result.andThen_ok, Sem.run_bind]
  rw [run_sliceBound _ _ _ _ _ (by omega) (by rw [e3]; omega)]
  rcases hlo with ⟨rfl, rfl⟩ | ⟨x, k, rfl, hx⟩
  · simp
  · simp only [Option.map_some, Result.andThen_ok, Sem.run_bind, hx]
    rw [run_sliceBound _ _ _ _ _ (by omega) (by rw [e2]; omega)]; simp

theorem row_slice {e : Ty} {l : List e.den} {ok : Addr → Prop} {ad? : Option Addr} {n q cap z : Nat} (hc : l.length ≤ cap) (h1 : n ≤ q) (h2 : q ≤ l.length) (hz : q ≤ z)
    (hok : ∀ ad k, ok ad → ok (ad.add k)) (hr : l = [] ∨ ∃ ad, ad? = some ad ∧ ok ad ∧ Elems (fun x es => RepC B W e x es) e.sz W l ad) :
    ((l.take q).drop n).length = q - n ∧ ((l.take q).drop n = [] ∨ ∃ ad, (if z = n then ad? else ad?.map (·.add (n * e.sz))) = some ad ∧ ok ad ∧ Elems (fun x es => RepC B W e x es) e.sz W ((l.take q).drop n) ad) := by
  have hlen : ((l.take q).drop n).length = q - n := by simp; omega
  refine ⟨hlen, ?_⟩
  by_cases hnq : n = q
  · exact .inl (List.eq_nil_of_length_eq_zero (by omega))
  · rcases hr with rfl | ⟨ad, rfl, ho, he⟩
    · exact .inl (by simp)
    · refine .inr ⟨ad.add (n * e.sz), ?_, hok _ _ ho, (he.take q).drop n⟩
      rw [if_neg (by omega)]; rfl

theorem st_add {ad : Addr} {k : Nat} (h : B ad.block = .st ∧ ad.spot = none) : B (ad.add k).block = .st ∧ (ad.add k).spot = none := by
  refine ⟨by rw [add_block]; exact h.1, ?_⟩
  unfold Addr.add
  split
  · exact h.2
  · rfl

theorem sliceV_s {e : Ty} {l : List e.den} {n q : Int} {K : AV → Prop} {u : Value} {t el : TypeId} {lo hi : Option Operand} (ht : P.underlying t = some (.slice el)) (hz : szIs P el e.sz = true)
    (hlo : (lo = none ∧ n = 0) ∨ ∃ y k, lo = some y ∧ a.eval y = .int k n)
    (hhi : (hi = none ∧ q = l.length) ∨ ∃ y k, hi = some y ∧ a.eval y = .int k q) (h : sliceV e l n q fun a => K (.lf a)) (hu : RepA B W (.lf (.val (.slice e) l)) u) :
    Does P B W K (Instr.sliceAt t u (lo.map a.eval) (hi.map a.eval) none) := by
  obtain ⟨⟨h0, h1, h2⟩, hk⟩ := h
  obtain ⟨i, hi', hs⟩ := szIs_eq hz
  obtain ⟨ad?, cap, hu, hc, hr⟩ := (hu : RepC B W (.slice e) l [u])
  simp only [List.cons.injEq, and_true] at hu
  subst hu
  have hel : P.elem t = el := by unfold Program.elem; rw [ht]
  have hb := bounds_lh (P := P) (W := W) (isS := true) hlo hhi h0 h1 (show q ≤ (cap : Int) by omega)
  obtain ⟨hl, hrow⟩ := row_slice (B := B) (W := W) (ok := fun ad => B ad.block = .st ∧ ad.spot = none) (ad? := ad?) (n := n.toNat) (q := q.toNat) (cap := cap) (z := cap) hc (by omega) (by omega) (by omega)
    (fun ad k h => st_add h) (hr.imp id fun ⟨ad, h1, h2, h3, h4⟩ => ⟨ad, h1, ⟨h2, h3⟩, h4⟩)
  refine ⟨_, sliced ad? n.toNat q.toNat cap e.sz, hk, ?_, ?_⟩
  · refine ⟨_, cap - n.toNat, ?_, ?_, hrow.imp id fun ⟨ad, h1, h2, h3⟩ => ⟨ad, h1, h2.1, h2.2, h3⟩⟩
    · unfold sliced; rw [hl]
    · have := hl; show ((l.take q.toNat).drop n.toNat).length ≤ _; omega
  · rw [run_sliceAt_slice _ _ _ _ _ _ (by rw [hel]; exact ht), run_slice_any _ _ _ _ _ (by rw [hel]; exact ht), hb]
    simp only [Result.andThen_ok, hel, run_size hi', hs]

theorem sliceF_s {e : Ty} {l : List e.den} {n q z : Int} {K : AV → Prop} {u : Value} {t el : TypeId} {lo : Option Operand} {hi mx : Operand} {k' k'' : IntKind} (ht : P.underlying t = some (.slice el)) (hz : szIs P el e.sz = true)
    (hlo : (lo = none ∧ n = 0) ∨ ∃ y k, lo = some y ∧ a.eval y = .int k n)
    (hhi : a.eval hi = .int k' q) (hmx : a.eval mx = .int k'' z) (h : sliceF e l n q z fun a => K (.lf a)) (hu : RepA B W (.lf (.val (.slice e) l)) u) :
    Does P B W K (Instr.sliceAt t u (lo.map a.eval) ((some hi).map a.eval) ((some mx).map a.eval)) := by
  obtain ⟨⟨h0, h1, rfl, h2⟩, hk⟩ := h
  obtain ⟨i, hi', hs⟩ := szIs_eq hz
  obtain ⟨ad?, cap, hu, hc, hr⟩ := (hu : RepC B W (.slice e) l [u])
  simp only [List.cons.injEq, and_true] at hu
  subst hu
  have hel : P.elem t = el := by unfold Program.elem; rw [ht]
  have hb := bounds_lhm (P := P) (W := W) (len := l.length) hlo hhi hmx h0 h1 (by omega) (show q ≤ (cap : Int) by omega)
  obtain ⟨hl, hrow⟩ := row_slice (B := B) (W := W) (ok := fun ad => B ad.block = .st ∧ ad.spot = none) (ad? := ad?) (n := n.toNat) (q := q.toNat) (cap := cap) (z := q.toNat) hc (by omega) (by omega) (by omega)
    (fun ad k h => st_add h) (hr.imp id fun ⟨ad, h1, h2, h3, h4⟩ => ⟨ad, h1, ⟨h2, h3⟩, h4⟩)
  refine ⟨_, sliced ad? n.toNat q.toNat q.toNat e.sz, hk, ?_, ?_⟩
  · refine ⟨_, ?_, hrow.imp id fun ⟨ad, h1, h2, h3⟩ => ⟨ad, h1, h2.1, h2.2, h3⟩⟩
    unfold sliced; rw [hl]
  · rw [run_sliceAt_slice _ _ _ _ _ _ (by rw [hel]; exact ht), run_slice_any _ _ _ _ _ (by rw [hel]; exact ht), hb]
    simp only [Result.andThen_ok, hel, run_size hi', hs]

theorem sliceA_s {w : Ow} {e : Ty} {l : List e.den} {q : Int} {K : AV → Prop} {u : Value} {t el : TypeId} {hi : Option Operand} (ht : P.underlying t = some (.slice el)) (hz : szIs P el e.sz = true)
    (hhi : (hi = none ∧ q = l.length) ∨ ∃ y k, hi = some y ∧ a.eval y = .int k q) (h : sliceA w e l q fun a => K (.lf a)) (hu : RepA B W (.lf (.al w e l)) u) :
    Does P B W K (Instr.sliceAt t u none (hi.map a.eval) none) := by
  obtain ⟨⟨h1, h2⟩, hk⟩ := h
  obtain ⟨i, hi', hs⟩ := szIs_eq hz
  have hel : P.elem t = el := by unfold Program.elem; rw [ht]
  have hlen : (l.take q.toNat).length = q.toNat := by simp; omega
  have go : ∀ (ad? : Option Addr) (cap : Nat), q ≤ cap → (Instr.sliceAt t (.slice ad? l.length cap) none (hi.map a.eval) none).run P W = .ok (sliced ad? 0 q.toNat cap e.sz) W := by
    intro ad? cap hc
    have hb := bounds_lh (P := P) (W := W) (isS := true) (len := l.length) (cap := cap) (lo := none) (.inl ⟨rfl, rfl⟩) hhi (Int.le_refl 0) h1 hc
    rw [run_sliceAt_slice _ _ _ _ _ _ (by rw [hel]; exact ht), run_slice_any _ _ _ _ _ (by rw [hel]; exact ht)]
    simp only [Option.map_none] at hb
    rw [hb]
    simp only [Result.andThen_ok, hel, run_size hi', hs]; rfl
  rcases (hu : OwnRow B W w e l u) with ⟨rfl, rfl⟩ | ⟨b, cap, rfl, hb, arr, ty, fz, g1, g2, g3, g4, g5⟩
  · have hq : q = 0 := by simp at h2; omega
    subst hq
    exact ⟨_, _, hk, .inl ⟨rfl, rfl⟩, go none 0 (by simp)⟩
  · refine ⟨_, _, hk, .inr ⟨b, cap, ?_, hb, arr, ty, fz, g1, g2, by omega, g4, g5.take _⟩, go _ cap (by omega)⟩
    unfold sliced
    rw [hlen]
    simp only [Nat.zero_mul, Nat.sub_zero]
    split
    · rfl
    · simp [Addr.add]

theorem sliceS_s {s : ByteArray} {n q : Int} {K : AV → Prop} {t : TypeId} {lo hi : Option Operand} (ht : P.underlying t = some .string)
    (hlo : (lo = none ∧ n = 0) ∨ ∃ y k, lo = some y ∧ a.eval y = .int k n)
    (hhi : (hi = none ∧ q = s.size) ∨ ∃ y k, hi = some y ∧ a.eval y = .int k q) (h : sliceS s n q fun a => K (.lf a)) :
    Does P B W K (Instr.sliceAt t (.string s) (lo.map a.eval) (hi.map a.eval) none) := by
  obtain ⟨⟨h0, h1, h2⟩, hk⟩ := h
  refine ⟨_, _, hk, mkStr, ?_⟩
  rw [run_sliceAt_string _ _ _ _ _ _ ht]
  have hb := bounds_lh (P := P) (W := W) (isS := false) (len := s.size) (cap := s.size) hlo hhi h0 h1 h2
  unfold Instr.slice
  simp only [Sem.run_bind, run_underlying ht, Result.andThen_ok, Option.isSome_none, Bool.false_eq_true, if_false, Sem.run_pure, hb]

theorem vslice_s (hr : All2 (RepA B W) r a.tmps.toList) {t : TypeId} {x lo hi mx} {K : AV → Prop} (h : vslice P r t (vval r x) lo hi mx fun a => K (.lf a)) :
    Does P B W K (Instr.sliceAt t (a.eval x) (lo.map a.eval) (hi.map a.eval) (mx.map a.eval)) := by
  have hx := vval_rep hr x
  generalize vval r x = v at h hx
  unfold vslice at h
  split at h
  · obtain e := rep_str hx
    rw [e]
    split at h
    · rename_i ht
      obtain ⟨n, h, hlo⟩ := optI_s hr h
      obtain ⟨q, h, hhi⟩ := optI_s hr h
      exact sliceS_s ht hlo hhi h
    · exact h.elim
  · split at h
    · rename_i el ht
      obtain ⟨hz, h⟩ := chk h
      obtain ⟨n, h, hlo⟩ := optI_s hr h
      cases mx with
      | none =>
        obtain ⟨q, h, hhi⟩ := optI_s hr h
        exact sliceV_s ht hz hlo hhi h hx
      | some z =>
        cases hi with
        | none => exact h.elim
        | some y =>
          obtain ⟨k', q, hq, h⟩ := isNat_s h (vval_rep hr y)
          obtain ⟨k'', z', hz', h⟩ := isNat_s h (vval_rep hr z)
          exact sliceF_s ht hz hlo hq hz' h hx
    · exact h.elim
  · split at h
    · rename_i el ht
      obtain ⟨hz, h⟩ := chk h
      obtain ⟨q, h, hhi⟩ := optI_s hr h
      exact sliceA_s ht hz hhi h hx
    · exact h.elim
  · exact h.elim

end

end Go.V

namespace Go.V
set_option linter.unusedVariables false
set_option linter.unusedSimpArgs false

section
variable {B : Lab} {W : World} {r : Regs} {m : Mem} {P : Program} {a : Act}

theorem strOfNums_push : ∀ (l : List Int) (s : ByteArray), l.foldl (fun r n => r.push (UInt8.ofNat n.toNat)) s = ⟨s.data ++ (l.map fun n => UInt8.ofNat n.toNat).toArray⟩
  | [], s => by simp
  | n :: l, s => by
    rw [List.foldl_cons, strOfNums_push l]
    simp only [ByteArray.push]
    congr 1
    apply Array.toList_inj.1
    simp
theorem strOfNums_fold (l : List Int) : l.foldl (fun r n => r.push (UInt8.ofNat n.toNat)) ByteArray.empty = strOfNums l := by
  rw [strOfNums_push]
  unfold strOfNums
  congr 1
  apply Array.toList_inj.1
  rw [Array.toList_append]
  rfl

/-- the cells of a row of one-cell elements -/
theorem cells_ints {k : IntKind} {l : List Int} {ad : Addr} (h : Elems (fun x es => RepC B W (.int k) x es) 1 W l ad) : ∀ j v, (l.map (Value.int k))[j]? = some v → W.cell? (ad.add j) = some v := by
  intro j v hj
  rw [List.getElem?_map, Option.map_eq_some_iff] at hj
  obtain ⟨n, hn, rfl⟩ := hj
  obtain ⟨hlt, rfl⟩ := List.getElem?_eq_some_iff.1 hn
  obtain ⟨es, h1, h2⟩ := h j hlt
  have : es = [Value.int k l[j]] := h1
  subst this
  simpa using h2 0 _ rfl

theorem bytes_s {l : List Int} {u : Value} {src dst e : TypeId} {K : AV → Prop} (hs : P.underlying src = some (.slice e)) (he : P.underlying e = some (.int .u8)) (hd : P.underlying dst = some .string)
    (hu : RowAt B W (.int .u8) l u) (hk : K (.lf (.val .str (strOfNums l)))) : Does P B W K (convert src dst u) := by
  obtain ⟨ad?, cap, rfl, hc, h⟩ := hu
  refine ⟨_, _, hk, mkStr, ?_⟩
  rw [run_convert_bytes_string _ _ _ _ _ _ _ hs he hd]
  rcases h with rfl | ⟨ad, rfl, hsp, h⟩
  · cases ad? with
    | none => rfl
    | some ad =>
      have := run_bytesToString (P := P) (w := W) ad 0 cap [] (by rfl)
      rw [strOfNums_fold] at this
      exact this
  · have hl := run_loadCells_list (P := P) W ad (l.map (Value.int .u8)) (cells_ints h)
    rw [List.length_map] at hl
    have := run_bytesToString (P := P) (w := W) ad l.length cap l hl
    rw [strOfNums_fold] at this
    exact this

theorem getD_get {α : Type} {l : List α} {n : Nat} (h : n < l.length) (d : α) : l.getD n d = l[n] := by
  simp [List.getD, h]

theorem index_s {s : ByteArray} {n : Int} {k : IntKind} {t : TypeId} {K : AV → Prop} (ht : P.underlying t = some .string) (h : 0 ≤ n ∧ n < (s.size : Int))
    (hk : K (.lf (.val (.int .u8) ((s.data.toList.getD n.toNat 0).toNat : Int)))) : Does P B W K (Instr.index t (.string s) (.int k n)) := by
  refine ⟨_, _, hk, mkInt, ?_⟩
  rw [run_index_string _ _ _ _ _ ht, dif_pos h]
  have hn : n.toNat < s.data.toList.length := by
    have : s.data.toList.length = s.size := rfl
    omega
  rw [getD_get hn]
  rfl

theorem indexAt_s {t el : TypeId} {e : Ty} {ad : Addr} {len cap : Nat} {k : IntKind} {n : Int} (ht : P.underlying t = some (.slice el)) (hz : szIs P el e.sz = true) (h : 0 ≤ n ∧ n < (len : Int)) :
    (Instr.indexAt t (.slice (some ad) len cap) (.int k n)).run P W = .ok (.pointer (some (ad.add (n.toNat * e.sz)))) W := by
  obtain ⟨i, hi, hs⟩ := szIs_eq hz
  unfold Instr.indexAt
  simp only [asIntOf, Sem.run_bind, Sem.run_pure, Result.andThen_ok, run_underlying ht]
  rw [if_pos h]
  simp only [Sem.run_bind, run_size hi, hs, Result.andThen_ok, Sem.run_pure]

theorem indexV_s {t el : TypeId} {e : Ty} {l : List e.den} {u : Value} {k : IntKind} {n : Int} {K : AV → Prop} (ht : P.underlying t = some (.slice el)) (hz : szIs P el e.sz = true)
    (h : 0 ≤ n ∧ n < (l.length : Int)) (hu : RepA B W (.lf (.val (.slice e) l)) u) (hk : K (.lf (.pv e (l.getD n.toNat e.dflt)))) : Does P B W K (Instr.indexAt t u (.int k n)) := by
  obtain ⟨ad?, cap, hu, hc, hr⟩ := (hu : RepC B W (.slice e) l [u])
  simp only [List.cons.injEq, and_true] at hu
  subst hu
  rcases hr with rfl | ⟨ad, rfl, hb, hs, he⟩
  · simp at h; omega
  · refine ⟨_, _, hk, ?_, indexAt_s ht hz h⟩
    have hn : n.toNat < l.length := by omega
    obtain ⟨es, h1, h2⟩ := he n.toNat hn
    refine ⟨_, es, rfl, (st_add ⟨hb, hs⟩).1, (st_add ⟨hb, hs⟩).2, by rw [getD_get hn]; exact h1, fun j u hj => ?_⟩
    rw [add_add]; exact h2 j u hj

theorem indexA_s {t el : TypeId} {w : Ow} {e : Ty} {l : List e.den} {u : Value} {k : IntKind} {n : Int} {K : AV → Prop} (ht : P.underlying t = some (.slice el)) (hz : szIs P el e.sz = true)
    (h : 0 ≤ n ∧ n < (l.length : Int)) (hu : RepA B W (.lf (.al w e l)) u) (hk : K (.lf (.vp w e l n.toNat e 0 id fun _ y => y))) : Does P B W K (Instr.indexAt t u (.int k n)) := by
  rcases (hu : OwnRow B W w e l u) with ⟨rfl, rfl⟩ | ⟨b, cap, rfl, hb⟩
  · simp at h; omega
  · refine ⟨_, _, hk, ?_, indexAt_s ht hz h⟩
    refine ⟨b, cap, ?_, by omega, hb, Lens.id e⟩
    rw [Addr.add_lit]; simp

theorem fieldPlace_s {fd : Field} (hz : (!szIs P fd.type 0 && (P.info? fd.type).isSome) = true) (ad : Addr) : (fieldPlace ad fd).run P W = .ok (ad.add fd.offset) W := by
  simp only [Bool.and_eq_true, Bool.not_eq_true'] at hz
  obtain ⟨i, hi⟩ := Option.isSome_iff_exists.1 hz.2
  have hn : ¬ i.size = 0 := by
    intro e
    have := hz.1
    unfold szIs at this
    rw [hi] at this
    simp [e] at this
  unfold fieldPlace
  simp only [Sem.run_bind, run_size hi, Result.andThen_ok, if_neg hn, Sem.run_pure]

theorem fieldAt_s {s : TypeId} {fs : Array Field} {f : Nat} {fd : Field} {ad : Addr} (hs : P.underlying s = some (.struct fs)) (hf : fs[f]? = some fd) (hz : (!szIs P fd.type 0 && (P.info? fd.type).isSome) = true) :
    (Instr.fieldAt s (.pointer (some ad)) f).run P W = .ok (.pointer (some (ad.add fd.offset))) W := by
  unfold Instr.fieldAt Instr.sureAddr
  simp only [Sem.run_bind, run_underlying hs, Result.andThen_ok, hf, Sem.run_pure, fieldPlace_s hz]

theorem part_s {ft : TypeId} (h : (P.underlying ft).isSome = true) {u : Ty} (hg : isAggB P ft = u.agg) (hz : szIs P ft u.sz = true) {z : u.den} {c1 c2 c3 : List Value} {o : Nat} (ho : c1.length = o) (hr : RepC B W u z c2) :
    ∃ x, (part ft (c1 ++ c2 ++ c3).toArray o).run P W = .ok x W ∧ RepV B W u z x := by
  obtain ⟨i, hi, hs⟩ := szIs_eq hz
  unfold part
  simp only [Sem.run_bind, run_isAgg h, Result.andThen_ok, hg]
  cases ha : u.agg with
  | true =>
    simp only [if_true, Sem.run_bind, run_size hi, hs, Result.andThen_ok, Sem.run_pure]
    refine ⟨_, rfl, ?_⟩
    unfold RepV; rw [ha]
    refine ⟨c2, ?_, hr⟩
    congr 1
    apply Array.toList_inj.1
    simp only [Array.toList_extract, List.extract_eq_take_drop]
    subst ho
    rw [List.append_assoc, List.drop_left, Nat.add_sub_cancel_left, ← hr.len, List.take_left]
  | false =>
    have hlen := hr.len
    have h1 : u.sz = 1 := by cases u <;> first | rfl | cases ha
    rw [h1] at hlen
    obtain ⟨x, rfl⟩ : ∃ x, c2 = [x] := by
      match c2, hlen with
      | [x], _ => exact ⟨x, rfl⟩
    subst ho
    refine ⟨x, ?_, by unfold RepV; rw [ha]; exact hr⟩
    simp

theorem vals_rep (hr : All2 (RepA B W) r a.tmps.toList) : ∀ (l : List Operand), All2 (Rep0 B W) (l.map fun x => (vval r x).leaf) (l.map a.eval)
  | [] => .nil
  | x :: l => by
    refine .cons ?_ (vals_rep hr l)
    have := vval_rep hr x
    show Rep0 B W (vval r x).leaf (a.eval x)
    generalize vval r x = v at this
    cases v with
    | lf a => exact this
    | _ => trivial

theorem row_len {x : A0} {e : Ty} {l : List e.den} {u : Value} (h : x.row? = some ⟨e, l⟩) (hu : RepA B W (.lf x) u) : ∃ a cap, u = .slice a l.length cap := by
  obtain ⟨a, cap, h, _⟩ := rep_row h hu
  exact ⟨a, cap, h⟩

theorem call1 {b : Builtin} {args : Array Operand} {ats : Array TypeId} {o : Oper} {x : Operand} {t : TypeId} (ho : o.op = .call { callee := .builtin b, args, argTypes := ats }) (h1 : args.toList = [x]) (h2 : ats.toList = [t])
    {f : Array TypeId → TypeId → Array Value → Sem Value} (hf : ∀ ats ty cs vs, builtin b ats ty cs vs = (do pure (.value (← f ats ty vs)))) :
    execOp a.eval o = (do pure (.value (← f #[t] o.type #[a.eval x]))) := by
  obtain rfl : args = #[x] := by rw [← Array.toArray_toList (xs := args), h1]
  obtain rfl : ats = #[t] := by rw [← Array.toArray_toList (xs := ats), h2]
  simp [execOp, ho, resolve, invoke, hf]
theorem call2 {b : Builtin} {args : Array Operand} {ats : Array TypeId} {o : Oper} {x y : Operand} (ho : o.op = .call { callee := .builtin b, args, argTypes := ats }) (h1 : args.toList = [x, y])
    {f : Array TypeId → TypeId → Array Value → Sem Value} (hf : ∀ ats ty cs vs, builtin b ats ty cs vs = (do pure (.value (← f ats ty vs)))) :
    execOp a.eval o = (do pure (.value (← f ats o.type #[a.eval x, a.eval y]))) := by
  obtain rfl : args = #[x, y] := by rw [← Array.toArray_toList (xs := args), h1]
  simp [execOp, ho, resolve, invoke, hf]

theorem vpure_s (hl : LabOK B W) (hm : MemOK B W m) (hr : All2 (RepA B W) r a.tmps.toList) {o : Oper} {K : AV → Prop} (h : vpure P r m o K) :
    ∃ v u, K v ∧ RepA B W v u ∧ (execOp a.eval o).run P W = .ok (.value u) W := by
  cases ho : o.op <;> simp only [vpure, ho] at h <;> try (exact h.elim)
  case move x => exact ⟨_, _, h, vval_rep hr x, by simp only [execOp, ho]; rfl⟩
  case binOp op t x y t' => exact (vbin_s (X := x) (Y := y) h (vval_rep hr x) (vval_rep hr y)).exec (by simp only [execOp, ho])
  case unOp op t x =>
    have hx := vval_rep hr x
    generalize vval r x = v at h hx
    refine Does.exec (s := Op.unary op (a.eval x)) ?_ (by simp only [execOp, ho])
    split at h
    · rw [rep_bool hx]; exact ⟨_, _, h, mkBool, rfl⟩
    · rw [rep_int hx]; exact ⟨_, _, h, mkInt, by simp [Op.unary, Op.intArith]⟩
    · exact h.elim
  case nilCheck x =>
    have hx := vval_rep hr x
    generalize vval r x = v at h hx
    split at h
    · have hx' := hx
      obtain ⟨b, hb, e⟩ := hx'
      exact ⟨_, _, h, hx, by simp only [execOp, ho, e]; rfl⟩
    · have hx' := hx
      obtain ⟨ad, cs, e, _⟩ := hx'
      exact ⟨_, _, h, hx, by simp only [execOp, ho, e]; rfl⟩
    · exact h.elim
  case index t x i =>
    have hx := vval_rep hr x
    generalize vval r x = v at h hx
    split at h
    · rename_i ht
      obtain ⟨k, n, hn, h⟩ := isNat_s h (vval_rep hr i)
      refine Does.exec (s := Instr.index t (a.eval x) (a.eval i)) ?_ (by simp only [execOp, ho])
      rw [rep_str hx, hn]
      exact index_s ht h.1 h.2
    · exact h.elim
  case indexAddr t x i =>
    have hx := vval_rep hr x
    generalize vval r x = v at h hx
    refine Does.exec (s := Instr.indexAt t (a.eval x) (a.eval i)) ?_ (by simp only [execOp, ho])
    split at h
    · rename_i el ht
      split at h
      · obtain ⟨hz, h⟩ := chk h
        obtain ⟨k, n, hn, h⟩ := isNat_s h (vval_rep hr i)
        rw [hn]
        exact indexV_s ht hz h.1 hx h.2
      · obtain ⟨hz, h⟩ := chk h
        obtain ⟨k, n, hn, h⟩ := isNat_s h (vval_rep hr i)
        rw [hn]
        exact indexA_s ht hz h.1 hx h.2
      · exact h.elim
    · exact h.elim
  case fieldAddr s x f =>
    have hx := vval_rep hr x
    generalize vval r x = v at h hx
    refine Does.exec (s := Instr.fieldAt s (a.eval x) f) ?_ (by simp only [execOp, ho])
    split at h
    · rename_i fs hs
      split at h
      · obtain ⟨fd, hf, h⟩ := optK_some h
        obtain ⟨hz, h⟩ := chk h
        obtain ⟨b, hb, e⟩ := hx
        rw [fN_eq] at h
        refine ⟨_, _, h, ⟨b, hb, rfl⟩, ?_⟩
        rw [e, fieldAt_s hs hf hz, Addr.add_lit]
      · obtain ⟨fd, hf, h⟩ := optK_some h
        obtain ⟨⟨off, u, z⟩, hp, h⟩ := optK_some h
        obtain ⟨hz, h⟩ := chk h
        simp only [Bool.and_assoc] at hz
        rw [Bool.and_eq_true] at hz
        obtain ⟨ad, cs, e, hb, hsp, hc, hu⟩ := hx
        obtain ⟨c1, c2, c3, rfl, hlen, hc2⟩ := projT_s hp hc
        have hoff : fd.offset = c1.length := by have := Nat.eq_of_beq_eq_true hz.1; omega
        refine ⟨_, _, h, ⟨ad.add fd.offset, c2, rfl, (st_add ⟨hb, hsp⟩).1, (st_add ⟨hb, hsp⟩).2, hc2, fun j q hj => ?_⟩, by rw [e]; exact fieldAt_s hs hf hz.2⟩
        rw [add_add, hoff]
        refine hu _ _ ?_
        have hj' : j < c2.length := (List.getElem?_eq_some_iff.1 hj).1
        rw [List.append_assoc, List.getElem?_append_right (by omega), Nat.add_sub_cancel_left, List.getElem?_append_left hj']
        exact hj
      · obtain ⟨fd, hf, h⟩ := optK_some h
        obtain ⟨⟨off, u, g', s'⟩, hp, h⟩ := optK_some h
        obtain ⟨hz, h⟩ := chk h
        simp only [Bool.and_assoc] at hz
        rw [Bool.and_eq_true] at hz
        obtain ⟨q, hq, hlens⟩ := lensT_s hp
        have hoff : fd.offset = q := by have := Nat.eq_of_beq_eq_true hz.1; omega
        obtain ⟨b, cap, e, hi, hb, hl1⟩ := hx
        obtain rfl : off = q := by omega
        refine ⟨_, _, h, ⟨b, cap, rfl, hi, hb, hl1.comp hlens⟩, ?_⟩
        rw [e, fieldAt_s hs hf hz.2, Addr.add_lit, hoff, Nat.add_assoc]
      · exact h.elim
    · exact h.elim
  case field s x f =>
    have hx := vval_rep hr x
    generalize vval r x = v at h hx
    refine Does.exec (s := Instr.field s (a.eval x) f) ?_ (by simp only [execOp, ho])
    split at h
    · rename_i fs t y hs
      obtain ⟨fd, hf, h⟩ := optK_some h
      obtain ⟨⟨off, u, z⟩, hp, h⟩ := optK_some h
      obtain ⟨hz, h⟩ := chk h
      simp only [Bool.and_eq_true, beq_iff_eq] at hz
      obtain ⟨⟨⟨⟨hagg, ho1⟩, hag⟩, hsz⟩, hund⟩ := hz
      have hx' : RepV B W t y (a.eval x) := hx
      unfold RepV at hx'
      rw [hagg] at hx'
      obtain ⟨cs, e, hc⟩ := hx'
      obtain ⟨c1, c2, c3, rfl, hlen, hc2⟩ := projT_s hp hc
      have hoff : c1.length = fd.offset := by have := Nat.eq_of_beq_eq_true ho1; omega
      obtain ⟨q, hq, hqr⟩ := part_s (P := P) (c3 := c3) hund hag hsz hoff hc2
      refine ⟨_, q, h, hqr, ?_⟩
      rw [e]
      unfold Instr.field
      simp only [Sem.run_bind, run_underlying hs, Result.andThen_ok, hf, asAgg, Sem.run_pure, hq]
    · exact h.elim
  case extract x i =>
    have hx := vval_rep hr x
    generalize vval r x = v at h hx
    refine Does.exec (s := Instr.extract (a.eval x) i) ?_ (by simp only [execOp, ho])
    split at h
    · obtain ⟨y, hy, h⟩ := optK_some h
      obtain ⟨vs, e, hvs⟩ := hx
      obtain ⟨u, hu, hur⟩ := hvs.get i y hy
      refine ⟨_, u, h, hur, ?_⟩
      rw [Array.getElem?_toList] at hu
      rw [e]
      simp [Instr.extract, hu]
    · exact h.elim
  case load t x =>
    obtain ⟨hund, h⟩ := chk h
    have hx := vval_rep hr x
    generalize vval r x = v at h hx
    refine Does.exec (s := Instr.loadAt t (a.eval x)) ?_ (by simp only [execOp, ho])
    split at h
    · obtain ⟨c, hc, h⟩ := optK_some h
      obtain ⟨b, hb, e⟩ := hx
      obtain ⟨arr, ty, hw, hcs⟩ := obj_cells hl hm hc hb
      split at h
      · rename_i ha
        obtain ⟨y, hy, h⟩ := optK_some h
        obtain ⟨u, hu, hur⟩ := hcs.get _ _ hy
        rw [Array.getElem?_toList] at hu
        refine ⟨_, u, h, hur, ?_⟩
        rw [e]
        simp only [Instr.loadAt, Instr.sureAddr, loadVar, Sem.run_bind, Sem.run_pure, Result.andThen_ok, run_isAgg hund, ha, Bool.false_eq_true, if_false, run_load, cell_arr hw, hu]
      · rename_i ha
        obtain ⟨T, hT, h⟩ := optK_some h
        obtain ⟨hz, h⟩ := chk h
        obtain ⟨⟨y, rest⟩, hy, h⟩ := optK_some h
        rw [Bool.and_eq_true] at hz
        obtain ⟨cs, vs', hvs, hcr, _⟩ := packT_s hy (hcs.drop _)
        obtain ⟨u, hu, hur⟩ := run_loadVar (P := P) hund hz.1 (by rw [ha, hz.2]) hcr (ad := ⟨b, _, none⟩) (fun j q hj => by
          rw [Addr.add_lit, cell_arr hw, ← Array.getElem?_toList, ← List.getElem?_drop, hvs, List.getElem?_append_left (List.getElem?_eq_some_iff.1 hj).1]
          exact hj)
        refine ⟨_, u, h, hur, ?_⟩
        rw [e]
        simp only [Instr.loadAt, Instr.sureAddr, Sem.run_bind, Sem.run_pure, Result.andThen_ok, hu]
    · obtain ⟨hz, h⟩ := chk h
      rw [Bool.and_eq_true, beq_iff_eq] at hz
      obtain ⟨ad, cs, e, hb, hsp, hc, hu⟩ := hx
      obtain ⟨u, hu, hur⟩ := run_loadVar (P := P) hund hz.1 hz.2 hc hu
      refine ⟨_, u, h, hur, ?_⟩
      rw [e]
      simp only [Instr.loadAt, Instr.sureAddr, Sem.run_bind, Sem.run_pure, Result.andThen_ok, hu]
    · rename_i w0 e0 l0 i0 u0 off0 g0 s0
      obtain ⟨hz, h⟩ := chk h
      rw [Bool.and_eq_true, beq_iff_eq] at hz
      obtain ⟨b, cap, e, hi, hb, hlens⟩ := hx
      obtain ⟨_, arr, ty, fz, g1, g2, g3, g4, g5⟩ := hb
      obtain ⟨es, h1, h2⟩ := g5 _ hi
      obtain ⟨c1, c2, c3, rfl, hlen, hg, _⟩ := hlens B W _ _ h1
      obtain ⟨u, hu, hur⟩ := run_loadVar (P := P) hund hz.1 hz.2 hg (ad := ⟨b, i0 * e0.sz + off0, none⟩) (fun j q hj => by
        have hj' : j < c2.length := (List.getElem?_eq_some_iff.1 hj).1
        have := h2 (c1.length + j) q (by rw [List.append_assoc, List.getElem?_append_right (by omega), Nat.add_sub_cancel_left, List.getElem?_append_left hj']; exact hj)
        rw [Addr.add_lit] at this ⊢
        rw [← this, hlen, Nat.zero_add, Nat.add_assoc])
      refine ⟨_, u, h, by rw [getD_get hi]; exact hur, ?_⟩
      rw [e]
      simp only [Instr.loadAt, Instr.sureAddr, Sem.run_bind, Sem.run_pure, Result.andThen_ok, hu]
    · exact h.elim
  case convert src dst x =>
    have hx := vval_rep hr x
    generalize vval r x = v at h hx
    refine Does.exec (s := convert src dst (a.eval x)) ?_ (by simp only [execOp, ho])
    split at h
    · rw [rep_int hx]
      split at h
      · rename_i h1 h2
        exact ⟨_, _, h, mkInt, by simp [convert, run_underlying h1, run_underlying h2, Conv.intToInt]⟩
      · exact h.elim
    · split at h
      · rename_i h1 h2
        split at h
        · rename_i h3; exact bytes_s h1 h3 h2 (rep_row rfl hx) h
        · exact h.elim
      · exact h.elim
    · split at h
      · rename_i h1 h2
        split at h
        · rename_i h3; exact bytes_s h1 h3 h2 (rep_row rfl hx) h
        · exact h.elim
      · exact h.elim
    · rw [rep_str hx]
      split at h
      · rename_i h1 h2
        exact ⟨_, _, h, mkStr, by simp [convert, run_underlying h1, run_underlying h2]⟩
      · exact h.elim
    · exact h.elim
  case slice t x lo hi mx =>
    exact (vslice_s hr h).exec (by simp only [execOp, ho])
  case makeInterface t x =>
    have hx := vval_rep hr x
    generalize vval r x = v at h hx
    refine Does.exec (s := Instr.makeInterface t (a.eval x)) ?_ (by simp only [execOp, ho])
    split at h
    · exact h.elim
    · rename_i d y hne hd
      refine ⟨_, _, h, ⟨_, rfl, hx⟩, ?_⟩
      unfold Instr.makeInterface
      simp only [Sem.run_bind, run_underlying hd, Result.andThen_ok, Sem.run_pure]
    · exact h.elim
  case makeFunc f x y =>
    exact ⟨_, _, h, ⟨x.map a.eval, y.map a.eval, rfl, by simpa using vals_rep hr x.toList, by simpa using vals_rep hr y.toList⟩, by simp only [execOp, ho]; rfl⟩
  case call c =>
    obtain ⟨callee, args, ats⟩ := c
    cases callee <;> try (exact h.elim)
    rename_i bi
    cases bi <;> try (exact h.elim)
    case len =>
      simp only at h
      split at h
      · rename_i x t h1 h2
        have hx := vval_rep hr x
        generalize vval r x = v at h hx
        refine Does.exec (s := Builtin.len_ #[t] o.type #[a.eval x]) ?_ (call1 ho h1 h2 (fun _ _ _ _ => rfl))
        split at h
        · rename_i ht
          rw [rep_str hx]
          exact ⟨_, _, h, mkInt, run_len_string _ _ _ _ ht⟩
        · rename_i el y ht
          obtain ⟨⟨e, l⟩, hrow, h⟩ := optK_some h
          obtain ⟨ad, cap, hu⟩ := row_len hrow hx
          rw [hu]
          have hel : P.elem t = el := by unfold Program.elem; rw [ht]
          exact ⟨_, _, h, mkInt, run_len_slice _ _ _ _ _ _ (by rw [hel]; exact ht)⟩
        · exact h.elim
      · exact h.elim
    case max =>
      simp only at h
      split at h
      · rename_i x y h1
        have hx := vval_rep hr x
        have hy := vval_rep hr y
        generalize vval r x = v at h hx
        generalize vval r y = v' at h hy
        refine Does.exec (s := Builtin.max_ ats o.type #[a.eval x, a.eval y]) ?_ (call2 ho h1 (fun _ _ _ _ => rfl))
        split at h
        · rw [rep_int hx, rep_int hy]
          exact ⟨_, _, h, mkInt, run_max_int2 _ _ _ _ _ _ _⟩
        · exact h.elim
      · exact h.elim
    case min =>
      simp only at h
      split at h
      · rename_i x y h1
        have hx := vval_rep hr x
        have hy := vval_rep hr y
        generalize vval r x = v at h hx
        generalize vval r y = v' at h hy
        refine Does.exec (s := Builtin.min_ ats o.type #[a.eval x, a.eval y]) ?_ (call2 ho h1 (fun _ _ _ _ => rfl))
        split at h
        · rw [rep_int hx, rep_int hy]
          exact ⟨_, _, h, mkInt, run_min_int2 _ _ _ _ _ _ _⟩
        · exact h.elim
      · exact h.elim

end

end Go.V

namespace Go.V
set_option linter.unusedVariables false
set_option linter.unusedSimpArgs false

/-- W' is W with one new block -/
structure NewW (W W' : World) (o : Obj) : Prop where
  size : W'.heap.size = W.heap.size + 1
  old : ∀ b, b < W.heap.size → W'.heap[b]? = W.heap[b]?
  new : W'.heap[W.heap.size]? = some o
  os : W'.os = W.os
  tape : W'.tape = W.tape
  output : W'.output = W.output

theorem NewW.push {W W' : World} {o : Obj} (h : W'.heap = W.heap.push o) (h1 : W'.os = W.os) (h2 : W'.tape = W.tape) (h3 : W'.output = W.output) : NewW W W' o where
  size := by rw [h, Array.size_push]
  old := fun b hb => by rw [h, Array.getElem?_push, if_neg (by omega)]
  new := by rw [h, Array.getElem?_push, if_pos rfl]
  os := h1
  tape := h2
  output := h3
theorem NewW.alloc (W : World) (o : Obj) : NewW W (W.alloc o) o := .push rfl rfl rfl rfl
theorem NewW.drew (W : World) (o : Obj) : NewW W (W.drew.alloc o) o := .push rfl rfl rfl rfl

/-- W' is W but for block b -/
structure AtW (W W' : World) (b : Nat) (o : Obj) : Prop where
  size : W'.heap.size = W.heap.size
  other : ∀ k, k ≠ b → W'.heap[k]? = W.heap[k]?
  here : W'.heap[b]? = some o
  os : W'.os = W.os
  tape : W'.tape = W.tape
  output : W'.output = W.output

def newL (B : Lab) (n : Nat) (L : Lbl) : Lab := fun b => if b = n then L else B b

section
variable {B0 : Lab} {W0 : World} {N : Nat} {WL : World} {B : Lab} {W W' : World} {r : Regs} {m : Mem} {tm : List Value}

theorem LabOK.out (h : LabOK B W) {b : Nat} (hb : W.heap.size ≤ b) : B b = .no := by
  cases e : B b with
  | no => rfl
  | _ => have := h.dom b (by rw [e]; exact fun h => by cases h); omega

theorem newL_old {n b : Nat} {L : Lbl} (h : b ≠ n) : newL B n L b = B b := by simp [newL, h]
theorem newL_new {n : Nat} {L : Lbl} : newL B n L n = L := by simp [newL]

theorem newL_ext (h : LabOK B W) {o : Obj} (hw : NewW W W' o) (L : Lbl) : Ext B W (newL B W.heap.size L) W' (fun _ => False) (fun _ => False) := by
  have key : ∀ b, B b ≠ .no → b < W.heap.size := h.dom
  refine ⟨fun b hb => ?_, fun b w hb _ => ?_, fun b k hb _ => ?_⟩
  · have hlt := key b (by rw [hb]; exact fun h => by cases h)
    exact ⟨by rw [newL_old (by omega)]; exact hb, hw.old b hlt⟩
  · have hlt := key b (by rw [hb]; exact fun h => by cases h)
    exact ⟨by rw [newL_old (by omega)]; exact hb, hw.old b hlt⟩
  · have hlt := key b (by rw [hb]; exact fun h => by cases h)
    rw [newL_old (by omega)]; exact hb

theorem newL_move (h : LabOK B W) {o : Obj} (hw : NewW W W' o) (L : Lbl) : Move B W (newL B W.heap.size L) W' where
  size := by rw [hw.size]; omega
  os := hw.os
  tape := hw.tape
  output := hw.output
  st := fun b hb => (newL_ext h hw L).st b hb
  no := fun b hlt hb => ⟨by rw [newL_old (by omega)]; exact hb, hw.old b hlt⟩
  obj := fun b k _ _ hb => (newL_ext h hw L).obj b k hb (fun h => h)

theorem newL_ok (h : LabOK B W) {o : Obj} (hw : NewW W W' o) {L : Lbl} (h1 : ∀ w, L = .row w → ∀ b, B b ≠ .row w) (h2 : ∀ k, L = .obj k → ∀ b, B b ≠ .obj k) : LabOK (newL B W.heap.size L) W' where
  dom := fun b hb => by
    rw [hw.size]
    by_cases e : b = W.heap.size
    · omega
    · rw [newL_old e] at hb; have := h.dom b hb; omega
  rows := fun b b' w e e' => by
    by_cases c : b = W.heap.size <;> by_cases c' : b' = W.heap.size
    · omega
    · subst c; rw [newL_new] at e; rw [newL_old c'] at e'; exact absurd e' (h1 w e b')
    · subst c'; rw [newL_new] at e'; rw [newL_old c] at e; exact absurd e (h1 w e' b)
    · rw [newL_old c] at e; rw [newL_old c'] at e'; exact h.rows b b' w e e'
  objs := fun b b' w e e' => by
    by_cases c : b = W.heap.size <;> by_cases c' : b' = W.heap.size
    · omega
    · subst c; rw [newL_new] at e; rw [newL_old c'] at e'; exact absurd e' (h2 w e b')
    · subst c'; rw [newL_new] at e'; rw [newL_old c] at e; exact absurd e (h2 w e' b)
    · rw [newL_old c] at e; rw [newL_old c'] at e'; exact h.objs b b' w e e'

theorem mmap_id (m : Mem) : mmap id m = m := by simp [mmap]
theorem rmap_id (r : Regs) : r.map (AV.map id) = r := by
  rw [show (AV.map id) = id from funext AV.map_id]; simp

theorem Inv.new (h : Inv B0 W0 N WL B W r m tm) {o : Obj} (hw : NewW W W' o) {L : Lbl} (h1 : ∀ w, L = .row w → ∀ b, B b ≠ .row w) (h2 : ∀ k, L = .obj k → ∀ b, B b ≠ .obj k) :
    Inv B0 W0 N WL (newL B W.heap.size L) W' r m tm := by
  have hx := newL_ext h.lab hw L
  have := h.turn (newL_ok h.lab hw h1 h2) (newL_move h.lab hw L) id (fun a v ha => Rep0.ext hx (fun _ _ h => h) (fun _ _ h => h) ha) (fun b k hb _ =>
    ⟨hx.obj b k hb (fun h => h), hw.old b (h.lab.dom b (by rw [hb]; exact fun h => by cases h))⟩)
  rwa [mmap_id, rmap_id] at this

theorem atW_ext {b : Nat} {o : Obj} (hw : AtW W W' b o) {w : Ow} (hb : B b = .row w) : Ext B W B W' (· = w) (fun _ => False) where
  st := fun k hk => ⟨hk, hw.other k (fun e => by subst e; rw [hb] at hk; cases hk)⟩
  row := fun k u hk hn => ⟨hk, hw.other k (fun e => by subst e; rw [hb] at hk; cases hk; exact hn rfl)⟩
  obj := fun k u hk _ => hk

theorem atW_move {b : Nat} {o : Obj} (hw : AtW W W' b o) (hb : B b ≠ .st) (hn : B b ≠ .no) : Move B W B W' where
  size := by rw [hw.size]; omega
  os := hw.os
  tape := hw.tape
  output := hw.output
  st := fun k hk => ⟨hk, hw.other k (fun e => by subst e; exact hb hk)⟩
  no := fun k _ hk => ⟨hk, hw.other k (fun e => by subst e; exact hn hk)⟩
  obj := fun k u _ _ hk => hk

theorem atW_ok (h : LabOK B W) {b : Nat} {o : Obj} (hw : AtW W W' b o) : LabOK B W' :=
  ⟨fun k hk => by rw [hw.size]; exact h.dom k hk, h.rows, h.objs⟩

/-- a row is written: all that named it is struck -/
theorem Inv.write (h : Inv B0 W0 N WL B W r m tm) {b : Nat} {o : Obj} (hw : AtW W W' b o) {w : Ow} (hb : B b = .row w) :
    Inv B0 W0 N WL B W' (r.map (AV.map (A0.kill w))) (mmap (A0.kill w) m) tm :=
  h.turn (atW_ok h.lab hw) (atW_move hw (by rw [hb]; exact fun h => by cases h) (by rw [hb]; exact fun h => by cases h)) _ (fun _ _ ha => Rep0.kill (atW_ext hw hb) ha)
    (fun k q hk _ => ⟨hk, hw.other k (fun e => by subst e; rw [hb] at hk; cases hk)⟩)

theorem atW_extO {b : Nat} {o : Obj} (hw : AtW W W' b o) {k : Nat} (hb : B b = .obj k) : Ext B W B W' (fun _ => False) (fun _ => False) where
  st := fun q hq => ⟨hq, hw.other q (fun e => by subst e; rw [hb] at hq; cases hq)⟩
  row := fun q u hq _ => ⟨hq, hw.other q (fun e => by subst e; rw [hb] at hq; cases hq)⟩
  obj := fun q u hq _ => hq

theorem mset_keys (m : Mem) (k : Nat) (c : List A0) : (mset m k c).map (·.1) = m.map (·.1) := by
  unfold mset
  rw [List.map_map]
  apply List.map_congr_left
  intro p _
  simp only [Function.comp]
  cases Nat.beq p.1 k <;> rfl

/-- an object is written -/
theorem Inv.store (h : Inv B0 W0 N WL B W r m tm) {b : Nat} {arr : Array Value} {ty : TypeId} (hw : AtW W W' b (.cells arr ty (0, 0))) {k : Nat} (hb : B b = .obj k) {c : List A0} (hc : All2 (Rep0 B W) c arr.toList) :
    Inv B0 W0 N WL B W' r (mset m k c) tm := by
  have hx := atW_extO hw hb
  have hid : ∀ a v, Rep0 B W a v → Rep0 B W' a v := fun a v ha => Rep0.ext hx (fun _ _ h => h) (fun _ _ h => h) ha
  refine ⟨atW_ok h.lab hw, h.low.move (atW_move hw (by rw [hb]; exact fun h => by cases h) (by rw [hb]; exact fun h => by cases h)), h.move.trans (atW_move hw (by rw [hb]; exact fun h => by cases h) (by rw [hb]; exact fun h => by cases h)),
    forall2_imp h.regs (fun a v _ ha => by have := RepA.map (f := id) hid ha; rwa [AV.map_id] at this), by rw [mset_keys]; exact h.mem.1, ?_⟩
  intro p hp
  obtain ⟨q, hq, rfl⟩ := List.mem_map.1 hp
  obtain ⟨b', arr', ty', hb', hw', hc'⟩ := h.mem.2 q hq
  cases e : Nat.beq q.1 k with
  | true =>
    simp only [cond_true]
    obtain rfl := Nat.eq_of_beq_eq_true e
    exact ⟨b, arr, ty, hb, hw.here, forall2_imp hc fun a v _ ha => hid a v ha⟩
  | false =>
    simp only [cond_false]
    have hne : b' ≠ b := by
      rintro rfl
      rw [hb] at hb'
      cases hb'
      rw [Nat.beq_refl] at e; cases e
    exact ⟨b', arr', ty', hb', (hw.other b' hne).trans hw', forall2_imp hc' fun a v _ ha => hid a v ha⟩

theorem mdel_mem {m : Mem} {k : Nat} {p : Nat × List A0} (h : p ∈ mdel m k) : p ∈ m ∧ p.1 ≠ k := by
  unfold mdel at h
  rw [List.mem_filter] at h
  refine ⟨h.1, fun e => ?_⟩
  have := h.2
  rw [e, Nat.beq_refl] at this
  cases this

theorem dropL_obj {k q b : Nat} (h : dropL B k b = .obj q) : B b = .obj q ∧ q ≠ k := by
  unfold dropL at h
  split at h
  · rename_i j hj
    split at h
    · cases h
    · rename_i hn; cases h; exact ⟨hj, hn⟩
  · rename_i hq; exact absurd h (hq q)
theorem dropL_row {k b : Nat} {w : Ow} (h : dropL B k b = .row w) : B b = .row w := by
  unfold dropL at h
  split at h
  · split at h <;> cases h
  · exact h
theorem dropL_ext (B : Lab) (W : World) (k : Nat) : Ext B W (dropL B k) W (fun _ => False) (· = k) where
  st := fun b h => by simp [dropL, h]
  row := fun b u h _ => by simp [dropL, h]
  obj := fun b j h hn => by simp [dropL, h, hn]
theorem dropL_move (B : Lab) (W : World) {k : Nat} (hk : k < 1000) : Move B W (dropL B k) W :=
  ⟨Nat.le_refl _, rfl, rfl, rfl, fun b h => by simp [dropL, h], fun b _ h => by simp [dropL, h], fun b j hj _ h => by
    have : j ≠ k := by omega
    simp [dropL, h, this]⟩
theorem dropL_ok (h : LabOK B W) (k : Nat) : LabOK (dropL B k) W where
  dom := fun b hb => h.dom b (fun e => hb (by simp [dropL, e]))
  rows := fun b b' u h1 h2 => h.rows b b' u (dropL_row h1) (dropL_row h2)
  objs := fun b b' q h1 h2 => h.objs b b' q (dropL_obj h1).1 (dropL_obj h2).1
theorem dropL_no (k b : Nat) : dropL B k b ≠ .obj k := fun h => (dropL_obj h).2 rfl

/-- an object is forgotten -/
theorem Inv.drop (h : Inv B0 W0 N WL B W r m tm) {k : Nat} (hk : k < 1000) : Inv B0 W0 N WL (dropL B k) W (r.map (AV.map (A0.drop k))) (mmap (A0.drop k) (mdel m k)) tm := by
  have hd : Inv B0 W0 N WL B W r (mdel m k) tm := by
    refine ⟨h.lab, h.low, h.move, h.regs, ?_, fun p hp => h.mem.2 p (mdel_mem hp).1⟩
    unfold mdel
    exact List.Nodup.sublist (List.filter_sublist.map _) h.mem.1
  refine hd.turn (dropL_ok h.lab k) (dropL_move B W hk) _ (fun _ _ ha => Rep0.drop (dropL_ext B W k) ha) ?_
  intro b q hb hq
  obtain ⟨p, hp, rfl⟩ := List.mem_map.1 hq
  exact ⟨(dropL_ext B W k).obj b _ hb (mdel_mem hp).2, rfl⟩

end

end Go.V

namespace Go.V
set_option linter.unusedVariables false
set_option linter.unusedSimpArgs false

def Flat {α : Type} (R : α → List Value → Prop) : List α → List Value → Prop
  | [], cs => cs = []
  | x :: l, cs => ∃ c1 c2, cs = c1 ++ c2 ∧ R x c1 ∧ Flat R l c2

theorem Flat.append {α : Type} {R : α → List Value → Prop} : ∀ {l l2 : List α} {cs cs2 : List Value}, Flat R l cs → Flat R l2 cs2 → Flat R (l ++ l2) (cs ++ cs2)
  | [], l2, cs, cs2, h, g => by rw [show cs = [] from h]; exact g
  | x :: l, l2, cs, cs2, h, g => by
    obtain ⟨c1, c2, rfl, h1, h2⟩ := h
    exact ⟨c1, c2 ++ cs2, by simp, h1, h2.append g⟩

theorem Flat.imp {α : Type} {R R' : α → List Value → Prop} (hr : ∀ x c, R x c → R' x c) : ∀ {l : List α} {cs : List Value}, Flat R l cs → Flat R' l cs
  | [], _, h => h
  | x :: l, _, h => by
    obtain ⟨c1, c2, rfl, h1, h2⟩ := h
    exact ⟨c1, c2, rfl, hr _ _ h1, h2.imp hr⟩

theorem Flat.len {α : Type} {R : α → List Value → Prop} {sz : Nat} (hs : ∀ x c, R x c → c.length = sz) : ∀ {l : List α} {cs : List Value}, Flat R l cs → cs.length = l.length * sz
  | [], _, h => by rw [show _ = [] from h]; simp
  | x :: l, _, h => by
    obtain ⟨c1, c2, rfl, h1, h2⟩ := h
    rw [List.length_append, hs _ _ h1, h2.len hs, List.length_cons, Nat.add_mul]; omega

section
variable {B0 : Lab} {W0 : World} {N : Nat} {WL : World} {B : Lab} {W W' : World} {r : Regs} {m : Mem} {tm : List Value} {P : Program}

theorem Elems.flat {α : Type} {R : α → List Value → Prop} {sz : Nat} (hs : ∀ x c, R x c → c.length = sz) : ∀ {l : List α} {ad : Addr}, Elems R sz W l ad →
    ∃ cs, Flat R l cs ∧ ∀ j v, cs[j]? = some v → W.cell? (ad.add j) = some v
  | [], ad, h => ⟨[], rfl, fun j v hj => by simp at hj⟩
  | x :: l, ad, h => by
    obtain ⟨es, h1, h2⟩ := h 0 (by simp)
    have hd := h.drop 1
    simp only [List.drop_succ_cons, List.drop_zero, Nat.one_mul] at hd
    obtain ⟨cs, h3, h4⟩ := Elems.flat hs hd
    refine ⟨es ++ cs, ⟨es, cs, rfl, h1, h3⟩, fun j v hj => ?_⟩
    by_cases hlt : j < es.length
    · rw [List.getElem?_append_left hlt] at hj
      simpa using h2 j v hj
    · rw [List.getElem?_append_right (by omega)] at hj
      have := h4 _ _ hj
      rw [add_add, ← hs _ _ h1] at this
      rwa [show es.length + (j - es.length) = j by omega] at this

theorem Flat.elems {α : Type} {R : α → List Value → Prop} {sz : Nat} (hs : ∀ x c, R x c → c.length = sz) : ∀ {l : List α} {cs : List Value} {ad : Addr}, Flat R l cs →
    (∀ j v, cs[j]? = some v → W.cell? (ad.add j) = some v) → Elems R sz W l ad
  | [], _, ad, h, _ => fun i hi => by simp at hi
  | x :: l, _, ad, h, hc => by
    obtain ⟨c1, c2, rfl, h1, h2⟩ := h
    have ht := Flat.elems (ad := ad.add sz) hs h2 (fun j v hj => by
      rw [add_add]
      apply hc
      rw [List.getElem?_append_right (by rw [hs _ _ h1]; omega), hs _ _ h1, Nat.add_sub_cancel_left]
      exact hj)
    intro i hi
    cases i with
    | zero =>
      refine ⟨c1, h1, fun j v hj => ?_⟩
      rw [Nat.zero_mul, Nat.zero_add]
      exact hc j v (by rw [List.getElem?_append_left (List.getElem?_eq_some_iff.1 hj).1]; exact hj)
    | succ i =>
      obtain ⟨es, e1, e2⟩ := ht i (by simpa using hi)
      refine ⟨es, by simpa using e1, fun j v hj => ?_⟩
      have := e2 j v hj
      rw [add_add] at this
      rwa [show (i + 1) * sz + j = sz + (i * sz + j) by rw [Nat.add_mul]; omega]

theorem RepC.sz : ∀ {t : Ty} (x : t.den) (c : List Value), RepC B W t x c → c.length = t.sz := fun _ _ h => h.len

theorem RepC.one : ∀ {t : Ty} {x : t.den} {cs : List Value}, RepC B W t x cs → ∀ v ∈ cs, v.oneCell' = true
  | .int _, _, _, h => by rw [show _ = _ from h]; simp [Value.oneCell']
  | .bool, _, _, h => by rw [show _ = _ from h]; simp [Value.oneCell']
  | .str, _, _, h => by rw [show _ = _ from h]; simp [Value.oneCell']
  | .nil, _, _, h => by rw [show _ = _ from h]; simp
  | .cons a b, x, cs, h => by
    obtain ⟨c1, c2, rfl, h1, h2⟩ := h
    intro v hv
    rcases List.mem_append.1 hv with hv | hv
    · exact h1.one v hv
    · exact h2.one v hv
  | .slice e, _, _, h => by
    obtain ⟨a, cap, rfl, _⟩ := h
    simp [Value.oneCell']
theorem Flat.one {e : Ty} : ∀ {l : List e.den} {cs : List Value}, Flat (fun x es => RepC B W e x es) l cs → ∀ v ∈ cs, v.oneCell' = true
  | [], _, h => by rw [show _ = [] from h]; simp
  | x :: l, _, h => by
    obtain ⟨c1, c2, rfl, h1, h2⟩ := h
    intro v hv
    rcases List.mem_append.1 hv with hv | hv
    · exact RepC.one h1 v hv
    · exact h2.one v hv

theorem setCell_at {b o : Nat} {v : Value} {cur : Array Value} {ty : TypeId} {fz : Nat × Nat} (hg : W.heap[b]? = some (.cells cur ty fz)) :
    AtW W (W.setCell ⟨b, o, none⟩ v) b (.cells (cur.setIfInBounds o v) ty fz) where
  size := by simp [World.setCell]
  other := fun k hk => RowKit.Below.heap_setCell W ⟨b, o, none⟩ v k hk
  here := by
    simp only [World.setCell, Array.getElem?_modify, if_true, hg, Option.map_some, Option.isSome_none, Bool.false_eq_true, if_false]
  os := rfl
  tape := rfl
  output := rfl

theorem AtW.trans {W W' W'' : World} {b : Nat} {o o' : Obj} (h : AtW W W' b o) (g : AtW W' W'' b o') : AtW W W'' b o' :=
  ⟨g.size.trans h.size, fun k hk => (g.other k hk).trans (h.other k hk), g.here, g.os.trans h.os, g.tape.trans h.tape, g.output.trans h.output⟩

theorem AtW.refl {W : World} {b : Nat} {o : Obj} (h : W.heap[b]? = some o) : AtW W W b o := ⟨rfl, fun _ _ => rfl, h, rfl, rfl, rfl⟩

theorem run_storeCells_fz (b o : Nat) (ty : TypeId) (fz : Nat × Nat) : ∀ (vs : List Value) (i : Nat) (cur : Array Value) (w : World), w.heap[b]? = some (.cells cur ty fz) →
    (∀ i, i < cur.size → ¬ (fz.1 ≤ i ∧ i < fz.2)) → o + i + vs.length ≤ cur.size → (∀ v ∈ vs, v.oneCell' = true) →
    ∃ w' cur', (storeCells ⟨b, o, none⟩ vs i).run P w = .ok () w' ∧ AtW w w' b (.cells cur' ty fz) ∧ cur'.toList = cur.toList.take (o + i) ++ vs ++ cur.toList.drop (o + i + vs.length)
  | [], i, cur, w, hg, _, _, _ => ⟨w, cur, rfl, .refl hg, by simp⟩
  | v :: vs, i, cur, w, hg, hf, hl, h1 => by
    have hlt : o + i < cur.size := by simp at hl; omega
    have hcell : w.cell? ⟨b, o + i, none⟩ = some cur[o + i] := by rw [cell_arr hg]; simp [hlt]
    have hfro : w.frozen? ⟨b, o + i, none⟩ = false := by
      have := hf _ hlt
      unfold World.frozen?
      simp only [hg]
      rw [Bool.eq_false_iff]
      intro h
      simp only [Bool.and_eq_true, decide_eq_true_eq] at h
      exact this h
    have hs := setCell_at (W := w) (o := o + i) (v := v) hg
    obtain ⟨w', cur', hr, hat, hcur⟩ := run_storeCells_fz b o ty fz vs (i + 1) (cur.setIfInBounds (o + i) v) _ hs.here (by simpa using hf) (by simp at hl ⊢; omega) (fun u hu => h1 u (List.mem_cons_of_mem _ hu))
    refine ⟨w', cur', ?_, hs.trans hat, ?_⟩
    · simp only [storeCells, Sem.run_bind, Addr.add_lit]
      rw [run_store P w _ v _ (h1 v List.mem_cons_self)]
      simp only [hcell, hfro, Bool.false_eq_true, if_false, Result.andThen_ok]
      exact hr
    · rw [hcur]
      have hset : (cur.setIfInBounds (o + i) v).toList = cur.toList.take (o + i) ++ v :: cur.toList.drop (o + i + 1) := by
        rw [Array.toList_setIfInBounds, List.set_eq_take_append_cons_drop, if_pos (by simpa using hlt)]
      have htl : (cur.toList.take (o + i)).length = o + i := by simp; omega
      have a1 : List.take (o + (i + 1)) (cur.setIfInBounds (o + i) v).toList = cur.toList.take (o + i) ++ [v] := by
        rw [hset, List.take_append, htl, show o + (i + 1) - (o + i) = 1 by omega, List.take_of_length_le (by omega)]
        rfl
      have a2 : List.drop (o + (i + 1) + vs.length) (cur.setIfInBounds (o + i) v).toList = cur.toList.drop (o + i + (v :: vs).length) := by
        rw [hset, List.drop_append, htl, List.drop_of_length_le (by omega), List.nil_append, show o + (i + 1) + vs.length - (o + i) = vs.length + 1 by omega, List.drop_succ_cons, List.drop_drop]
        congr 1
        simp; omega
      rw [a1, a2]; simp

end

end Go.V

namespace Go.V
set_option linter.unusedVariables false
set_option linter.unusedSimpArgs false

section
variable {B0 : Lab} {W0 : World} {N : Nat} {WL : World} {B : Lab} {W W' : World} {r : Regs} {m : Mem} {tm : List Value} {P : Program}

/-- what can be appended: n elements, whose cells are cs -/
structure Src (P : Program) (W : World) (size : Nat) (x : Value) (n : Nat) (cs : List Value) : Prop where
  len : ∀ w, (Builtin.lenOf x).run P w = .ok n w
  cells : ∀ w : World, w.heap = W.heap → (Builtin.firstCells size n x).run P w = .ok cs.toArray w

theorem cell_heap {w w' : World} (h : w'.heap = w.heap) (a : Addr) : w'.cell? a = w.cell? a := by simp [World.cell?, h]

theorem src_row {e : Ty} {l : List e.den} {u : Value} (h : RowAt B W e l u) : ∃ cs, Flat (fun x es => RepC B W e x es) l cs ∧ Src P W e.sz u l.length cs := by
  obtain ⟨ad?, cap, rfl, hc, h⟩ := h
  rcases h with rfl | ⟨ad, rfl, hs, he⟩
  · refine ⟨[], rfl, fun w => rfl, fun w hw => ?_⟩
    cases ad? with
    | none => rfl
    | some ad => simp [Builtin.firstCells, loadCells, loadCellsFrom]
  · obtain ⟨cs, hf, hcells⟩ := he.flat RepC.sz
    refine ⟨cs, hf, fun w => rfl, fun w hw => ?_⟩
    have := run_loadCells_list (P := P) w ad cs (fun j v hj => (cell_heap hw _).trans (hcells j v hj))
    rw [hf.len RepC.sz] at this
    exact this

theorem flat_ints (k : IntKind) : ∀ (l : List Int), Flat (fun x es => RepC B W (.int k) x es) l (l.map (Value.int k))
  | [] => rfl
  | n :: l => ⟨[.int k n], _, rfl, rfl, flat_ints k l⟩

theorem src_str (s : ByteArray) : Flat (fun x es => RepC B W (.int .u8) x es) (numsOfStr s) ((numsOfStr s).map (Value.int .u8)) ∧ Src P W 1 (.string s) (numsOfStr s).length ((numsOfStr s).map (Value.int .u8)) := by
  have hl : (numsOfStr s).length = s.size := by simp [numsOfStr]
  refine ⟨flat_ints _ _, fun w => by rw [hl]; rfl, fun w _ => ?_⟩
  rw [hl]
  simp only [Builtin.firstCells, Sem.run_pure]
  congr 1
  apply Array.toList_inj.1
  have : (s.extract 0 s.size).data = s.data := by simp
  simp [this, numsOfStr]

/-- the second type of an append -/
theorem apT_run {u : TypeId} (h : apT P u = true) (w : World) : (do
      let zeros ← (do pure ((← underlying u) matches .int _) : Sem Bool)
      pure zeros : Sem Bool).run P w = .ok false w := by
  unfold apT at h
  split at h
  · rename_i e hu; simp [run_underlying hu]
  · rename_i hu; simp [run_underlying hu]
  · cases h

theorem apT_cases {u : TypeId} (h : apT P u = true) : (∃ e, P.underlying u = some (.slice e)) ∨ P.underlying u = some .string := by
  unfold apT at h
  split at h
  · exact .inl ⟨_, ‹_›⟩
  · exact .inr ‹_›
  · cases h

section
variable {t u ty el : TypeId} {i : TypeInfo} {z : Value} {base : Option Addr} {sLen sCap n : Nat} {x : Value} {cs : List Value}

theorem run_append_in (ht : P.underlying t = some (.slice el)) (hu : apT P u = true) (hi : P.info? el = some i) (hx : Src P W i.size x n cs) (hroom : sLen + n ≤ sCap)
    (hst : match base with | some ad => (storeCells (ad.add (sLen * i.size)) cs).run P W = .ok () W' | none => W' = W) :
    (Builtin.append_ #[t, u] ty #[.slice base sLen sCap, x]).run P W = .ok (.slice base (sLen + n) sCap) W' := by
  have hf := hx.cells W rfl
  rcases apT_cases hu with ⟨e, hu⟩ | hu <;>
    cases base <;>
      simp only at hst <;>
        simp [Builtin.append_, run_underlying ht, run_underlying hu, sizeOf, typeInfo, hi, hx.len, hroom, hf, hst]

theorem run_append_out (ht : P.underlying t = some (.slice el)) (hu : apT P u = true) (hi : P.info? el = some i) (hz : i.zero = some z) (hx : Src P W i.size x n cs) {olds : List Value}
    (hold : ∀ w : World, w.heap = W.heap → (Builtin.firstCells i.size sLen (.slice base sLen sCap)).run P w = .ok olds.toArray w)
    (hg : sCap < sLen + n) (h63 : sLen + n ≤ 4611686018427387904) (hby : (sLen + n) * i.bytes ≤ 140737488355328) :
    (Builtin.append_ #[t, u] ty #[.slice base sLen sCap, x]).run P W =
      .ok (.slice (some ⟨W.heap.size, 0, none⟩) (sLen + n) (grownCap W (sLen + n) sCap el))
        (W.drew.alloc (.cells ((olds ++ cs).toArray ++ Builtin.zeroCells z.cells (grownCap W (sLen + n) sCap el - (sLen + n))) el)) := by
  have hn : ¬ (sLen + n ≤ sCap) := by omega
  have h63' : ¬ (9223372036854775807 < ((sLen : Int) + (n : Int))) := by omega
  have hfit := growslice_fits hg hby
  have h48' : ¬ (281474976710656 < Builtin.nextslicecap (sLen + n) sCap * i.bytes) := by omega
  have hf := hx.cells W.drew rfl
  have ho := hold W.drew rfl
  rcases apT_cases hu with ⟨e, hu⟩ | hu <;>
    (simp [Builtin.append_, run_underlying ht, run_underlying hu, sizeOf, typeInfo, zeroValue, hi, hz, hx.len, hn, h63', h48', Question.forced, newRow, grownCap, hf, ho]
     congr 2
     apply Array.ext'
     simp [List.append_assoc])
end

theorem zeroOK_s {t : TypeId} {n : Nat} (h : zeroOK P t n = true) : ∃ i z, P.info? t = some i ∧ i.zero = some z ∧ z.cells.size = n := by
  unfold zeroOK zeroCells? at h
  split at h
  · rename_i z hz
    split at hz
    · rename_i i hi
      rw [Option.map_eq_some_iff] at hz
      obtain ⟨q, hq, rfl⟩ := hz
      exact ⟨i, q, hi, hq, by simpa using Nat.eq_of_beq_eq_true h⟩
    · cases hz
  · cases h

/-- a new block that begins with a row -/
theorem newRow_s {w : Ow} {e : Ty} {l : List e.den} {cs : List Value} {cap : Nat} {el : TypeId} {arr : Array Value} {fz : Nat × Nat} (h : LabOK B W) (hw : NewW W W' (.cells arr el fz)) (hf : Flat (fun x es => RepC B W e x es) l cs)
    (harr : ∀ (j : Nat) (v : Value), cs[j]? = some v → arr[j]? = some v) (hc : l.length ≤ cap) (hs : cap * e.sz ≤ arr.size) (hfz : UnF arr.size fz) :
    RowBlk (newL B W.heap.size (.row w)) W' w e l cap W.heap.size := by
  have hx := (newL_ext h hw (.row w)).s
  refine ⟨newL_new, arr, el, fz, hw.new, hfz, hc, hs, ?_⟩
  refine Flat.elems (fun x c hr => RepC.len hr) (hf.imp fun x c hr => RepC.ext hx hr) (fun j v hj => ?_)
  rw [Addr.add_lit, Nat.zero_add, cell_arr hw.new]
  exact harr j v hj

theorem grown_arr {z : Value} {cs : List Value} {need cap sz : Nat} (hl : cs.length = need * sz) (hz : z.cells.size = sz) (hc : need ≤ cap) :
    (∀ (j : Nat) (v : Value), cs[j]? = some v → (cs.toArray ++ Builtin.zeroCells z.cells (cap - need))[j]? = some v) ∧ cap * sz ≤ (cs.toArray ++ Builtin.zeroCells z.cells (cap - need)).size := by
  constructor
  · intro j v hj
    have hlt := (List.getElem?_eq_some_iff.1 hj).1
    rw [Array.getElem?_append_left (by simpa using hlt)]
    simpa using hj
  · rw [Array.size_append, size_zeroCells, hz, List.size_toArray, hl, ← Nat.add_mul]
    exact Nat.mul_le_mul_right _ (by omega)

theorem first_row {e : Ty} {l : List e.den} {v : Value} (h : RowAt B W e l v) : ∃ base cap cs, v = .slice base l.length cap ∧ l.length ≤ cap ∧ Flat (fun x es => RepC B W e x es) l cs ∧
    ∀ w : World, w.heap = W.heap → (Builtin.firstCells e.sz l.length (.slice base l.length cap)).run P w = .ok cs.toArray w := by
  obtain ⟨cs, hf, hs⟩ := src_row (P := P) h
  obtain ⟨base, cap, rfl, hc, _⟩ := h
  exact ⟨base, cap, cs, rfl, hc, hf, hs.cells⟩

theorem append_new (h : Inv B0 W0 N WL B W r m tm) {w : Ow} (hno : ∀ b, B b ≠ .row w) {e : Ty} {l l2 : List e.den} {v x : Value} {cs : List Value} {t u ty el : TypeId}
    (ht : P.underlying t = some (.slice el)) (hu : apT P u = true) (hz : szIs P el e.sz = true) (hz0 : zeroOK P el e.sz = true) (hv : RowAt B W e l v) (hcap : ∀ a n c, v = .slice a n c → c < l.length + l2.length)
    (hx : Src P W e.sz x l2.length cs) (hcs : Flat (fun x es => RepC B W e x es) l2 cs) (hfit : fits P el (l.length + l2.length)) :
    ∃ W' u', (Builtin.append_ #[t, u] ty #[v, x]).run P W = .ok u' W' ∧ Inv B0 W0 N WL (newL B W.heap.size (.row w)) W' r m tm ∧ OwnRow (newL B W.heap.size (.row w)) W' w e (l ++ l2) u' := by
  obtain ⟨i, hi, hs⟩ := szIs_eq hz
  obtain ⟨i', z, hi', hz', hzs⟩ := zeroOK_s hz0
  rw [hi] at hi'; cases hi'
  obtain ⟨base, cap, olds, rfl, hc, hfo, hold⟩ := first_row (P := P) hv
  have hlt := hcap _ _ _ rfl
  have hby : P.bytesOf el = i.bytes := by simp [Program.bytesOf, hi]
  rw [← hs] at hx hold
  have hrun := run_append_out (P := P) (W := W) (ty := ty) ht hu hi hz' hx hold hlt hfit.1 (hby ▸ hfit.2)
  have hge := grownCap_ge W (l.length + l2.length) cap el
  have hfl := hfo.append hcs
  have hlen : (olds ++ cs).length = (l.length + l2.length) * e.sz := by rw [hfl.len RepC.sz, List.length_append]
  obtain ⟨g1, g2⟩ := grown_arr hlen hzs hge
  have hw := NewW.drew W (.cells ((olds ++ cs).toArray ++ Builtin.zeroCells z.cells (grownCap W (l.length + l2.length) cap el - (l.length + l2.length))) el)
  refine ⟨_, _, hrun, h.new hw (fun w' e => by cases e; exact hno) (fun k e => by cases e), .inr ⟨W.heap.size, _, ?_, newRow_s h.lab hw hfl g1 (by rw [List.length_append]; exact hge) g2 (.inl rfl)⟩⟩
  rw [List.length_append]

theorem append_own (h : Inv B0 W0 N WL B W r m tm) {w : Ow} {e : Ty} {l l2 : List e.den} {v x : Value} {cs : List Value} {t u ty el : TypeId}
    (ht : P.underlying t = some (.slice el)) (hu : apT P u = true) (hz : szIs P el e.sz = true) (hz0 : zeroOK P el e.sz = true) (hv : OwnRow B W w e l v)
    (hx : Src P W e.sz x l2.length cs) (hcs : Flat (fun x es => RepC B W e x es) l2 cs) (hfit : fits P el (l.length + l2.length)) :
    ∃ W' u' B', (Builtin.append_ #[t, u] ty #[v, x]).run P W = .ok u' W' ∧ Inv B0 W0 N WL B' W' (r.map (AV.map (A0.kill w))) (mmap (A0.kill w) m) tm ∧ OwnRow B' W' w e (l ++ l2) u' := by
  have hrow : RowAt B W e l v := rep_row (a := .al w e l) rfl hv
  have out : (∀ a n c, v = .slice a n c → c < l.length + l2.length) → ∃ W' u' B', (Builtin.append_ #[t, u] ty #[v, x]).run P W = .ok u' W' ∧ Inv B0 W0 N WL B' W' (r.map (AV.map (A0.kill w))) (mmap (A0.kill w) m) tm ∧ OwnRow B' W' w e (l ++ l2) u' := by
    intro hc
    have hs := (killL_ext B W w).s
    obtain ⟨W', u', h1, h2, h3⟩ := append_new (P := P) (h.kill w) (killL_no w) (u := u) (ty := ty) ht hu hz hz0 (by
      obtain ⟨a, cap, e1, e2, e3⟩ := hrow
      exact ⟨a, cap, e1, e2, e3.imp id fun ⟨ad, q1, q2, q3⟩ => ⟨ad, q1, q2, q3.mono (fun x es _ hr => RepC.ext hs hr) rfl⟩⟩) hc hx (hcs.imp fun x c hr => RepC.ext hs hr) hfit
    exact ⟨W', u', _, h1, h2, h3⟩
  obtain ⟨i, hi, hs⟩ := szIs_eq hz
  have hx' := hx
  rw [← hs] at hx'
  rcases hv with ⟨rfl, rfl⟩ | ⟨b, cap, rfl, hb⟩
  · by_cases h0 : l2 = []
    · subst h0
      obtain rfl : cs = [] := hcs
      refine ⟨W, .slice none 0 0, _, ?_, h.kill w, .inl ⟨rfl, rfl⟩⟩
      exact run_append_in (P := P) (W' := W) (base := none) (sLen := 0) (sCap := 0) ht hu hi hx' (Nat.le_refl _) rfl
    · refine out fun a n c e => ?_
      cases e
      have : l2.length ≠ 0 := fun e => h0 (List.eq_nil_of_length_eq_zero e)
      simp; omega
  · by_cases hroom : l.length + l2.length ≤ cap
    · obtain ⟨hlab, arr, ty', fz, g1, g2, g3, g4, g5⟩ := hb
      obtain ⟨cs0, hf0, hc0⟩ := g5.flat RepC.sz
      have hl0 := hf0.len RepC.sz
      have hl2 := hcs.len RepC.sz
      have hsz : l.length * e.sz + cs.length ≤ arr.size := by rw [hl2, ← Nat.add_mul]; exact Nat.le_trans (Nat.mul_le_mul_right _ hroom) g4
      obtain ⟨W', arr', hst, hat, harr⟩ := run_storeCells_fz (P := P) b (l.length * e.sz) ty' fz cs 0 arr W g1 g2.un (by omega) (Flat.one hcs)
      have hasz : arr'.size = arr.size := by
        have := congrArg List.length harr
        simp at this
        omega
      refine ⟨W', _, B, run_append_in (P := P) (W' := W') ht hu hi hx' hroom (by simp only; rw [Addr.add_lit, Nat.zero_add, hs]; exact hst), h.write hat hlab, .inr ⟨b, cap, by rw [List.length_append], hlab, arr', ty', fz, hat.here, by rw [hasz]; exact g2, by rw [List.length_append]; exact hroom, by rw [hasz]; exact g4, ?_⟩⟩
      have hx2 := (atW_ext hat hlab).s
      refine Flat.elems (fun x c hr => RepC.len hr) ((hf0.imp fun x c hr => RepC.ext hx2 hr).append (hcs.imp fun x c hr => RepC.ext hx2 hr)) (fun j v hj => ?_)
      rw [Addr.add_lit, Nat.zero_add, cell_arr hat.here, ← Array.getElem?_toList, harr]
      simp only [Nat.add_zero]
      have htl : (arr.toList.take (l.length * e.sz)).length = l.length * e.sz := by simp; omega
      by_cases hlt : j < cs0.length
      · rw [List.getElem?_append_left hlt] at hj
        have := hc0 j v hj
        rw [Addr.add_lit, Nat.zero_add, cell_arr g1, ← Array.getElem?_toList] at this
        rw [List.append_assoc, List.getElem?_append_left (by omega), List.getElem?_take, if_pos (by omega)]
        exact this
      · rw [List.getElem?_append_right (by omega)] at hj
        have hj' := (List.getElem?_eq_some_iff.1 hj).1
        rw [List.append_assoc, List.getElem?_append_right (by omega), htl, ← hl0, List.getElem?_append_left hj']
        exact hj
    · refine out fun a n c e => ?_
      cases e
      omega

end

end Go.V

namespace Go.V
set_option linter.unusedVariables false
set_option linter.unusedSimpArgs false

section
variable {B0 : Lab} {W0 : World} {N : Nat} {WL : World} {B : Lab} {W W' : World} {r : Regs} {m : Mem} {P : Program} {a : Act}

/-- what must follow an operation -/
def Next? (B0 : Lab) (W0 : World) (N : Nat) (WL : World) (K : Regs → Mem → Prop) (next : Act → World → Prop) : Prop :=
  ∀ (B : Lab) (W : World) (r : Regs) (m : Mem) (a : Act), a.defers = [] → Inv B0 W0 N WL B W r m a.tmps.toList → K r m → next a W

theorem put_list {a : Act} {d : Nat} {u : Value} : (a.put (some d) u).tmps.toList = a.tmps.toList.set d u := by simp [Act.put]

theorem Inv.set (h : Inv B0 W0 N WL B W r m a.tmps.toList) {v : AV} {u : Value} (hu : RepA B W v u) (d : Nat) : Inv B0 W0 N WL B W (r.set d v) m (a.put (some d) u).tmps.toList := by
  rw [put_list]
  exact ⟨h.lab, h.low, h.move, h.regs.set d v u hu, h.mem⟩

theorem vput_s {K : Regs → Mem → Prop} {next : Act → World → Prop} (hn : Next? B0 W0 N WL K next) (hd : a.defers = []) (h : Inv B0 W0 N WL B W r m a.tmps.toList) {v : AV} {u : Value} {d : Option Nat} (hv : vput r m d v K) (hu : RepA B W v u) :
    next (a.put d u) W := by
  cases d with
  | none => exact hn _ _ _ _ _ hd h hv
  | some d =>
    rw [vput_some] at hv
    exact hn _ _ _ _ _ hd (h.set hu d) hv

theorem vnew_mk {K : Regs → Mem → Prop} {d : Nat} {e : Ty} {l : List e.den} (hv : vnew r m d e l K) : K ((r.map (AV.map (A0.kill (.sl d)))).set d (.lf (.al (.sl d) e l))) (mmap (A0.kill (.sl d)) m) := by
  simpa only [vnew, mapS_eq, fs_eq] using hv

/-- a nil row of one's own -/
theorem vnew_nil {K : Regs → Mem → Prop} {next : Act → World → Prop} (hn : Next? B0 W0 N WL K next) (hd : a.defers = []) (h : Inv B0 W0 N WL B W r m a.tmps.toList) {d : Nat} {e : Ty} (hv : vnew r m d e [] K) :
    next (a.put (some d) (.slice none 0 0)) W :=
  hn _ _ _ _ _ hd ((h.kill (.sl d)).set (v := .lf (.al (.sl d) e [])) (.inl ⟨rfl, rfl⟩) d) (vnew_mk hv)

/-- a row of one's own in a new block -/
theorem vnew_row {K : Regs → Mem → Prop} {next : Act → World → Prop} (hn : Next? B0 W0 N WL K next) (hd : a.defers = []) (h : Inv B0 W0 N WL B W r m a.tmps.toList) {d : Nat} {e : Ty} {l : List e.den} (hv : vnew r m d e l K)
    {cs : List Value} {cap : Nat} {el : TypeId} {arr : Array Value} {fz : Nat × Nat} (hw : NewW W W' (.cells arr el fz)) (hf : Flat (fun x es => RepC B W e x es) l cs)
    (harr : ∀ (j : Nat) (v : Value), cs[j]? = some v → arr[j]? = some v) (hc : l.length ≤ cap) (hs : cap * e.sz ≤ arr.size) (hfz : UnF arr.size fz) :
    next (a.put (some d) (.slice (some ⟨W.heap.size, 0, none⟩) l.length cap)) W' := by
  have hk := h.kill (.sl d)
  have hx := (killL_ext B W (.sl d)).s
  have hi := hk.new (L := .row (.sl d)) hw (fun w e => by cases e; exact killL_no _) (fun k e => by cases e)
  exact hn _ _ _ _ _ hd (hi.set (v := .lf (.al (.sl d) e l)) (.inr ⟨W.heap.size, cap, rfl, newRow_s hk.lab hw (hf.imp fun x c hr => RepC.ext hx hr) harr hc hs hfz⟩) d) (vnew_mk hv)

theorem upon_val {o : Oper} {next : Act → World → Prop} {Q : Exit → Act → World → Prop} {s : Sem Next} {u : Value} (hr : s.run P W = .ok (.value u) W') (h : next (a.put o.dst u) W') : o.upon P a next Q (s.run P W) := by
  rw [hr]; exact h
theorem upon_skip {o : Oper} {next : Act → World → Prop} {Q : Exit → Act → World → Prop} {s : Sem Next} (hr : s.run P W = .ok .skip W') (h : next (a.put o.dst undef) W') : o.upon P a next Q (s.run P W) := by
  rw [hr]; exact h

theorem vpure_up {K : Regs → Mem → Prop} {next : Act → World → Prop} {Q : Exit → Act → World → Prop} (hn : Next? B0 W0 N WL K next) (hd : a.defers = []) (h : Inv B0 W0 N WL B W r m a.tmps.toList) {o : Oper}
    (hv : vpure P r m o fun v => vput r m o.dst v K) : o.upon P a next Q ((execOp a.eval o).run P W) := by
  obtain ⟨v, u, hk, hr, hrun⟩ := vpure_s h.lab h.mem h.regs hv
  exact upon_val hrun (vput_s hn hd h hk hr)

theorem sc_nil {u : Value} (h : RepA B W (.lf (.sc (.slice none 0 0))) u) : u = .slice none 0 0 := h

theorem assign_s {K : Regs → Mem → Prop} {next : Act → World → Prop} {Q : Exit → Act → World → Prop} (hn : Next? B0 W0 N WL K next) (hd : a.defers = []) (h : Inv B0 W0 N WL B W r m a.tmps.toList) {o : Oper} {x : Operand} (ho : o.op = .assign x)
    {Snd : SND} {all : List Oper} {E : AV → Mem → Prop} (hv : vop P Snd all o r m K E) : o.upon P a next Q ((execOp a.eval o).run P W) := by
  have hrun : (execOp a.eval o).run P W = .ok (.value (a.eval x)) W := by simp only [execOp, ho]; rfl
  simp only [vop, ho] at hv
  refine upon_val hrun ?_
  cases hdst : o.dst with
  | none => rw [hdst] at hv; exact hv.elim
  | some d =>
    rw [hdst] at hv
    simp only at hv
    have hx := vval_rep h.regs x
    split at hv
    · rename_i e
      split at hv
      · obtain ⟨E', _, hv⟩ := optK_some hv
        rw [e] at hx
        rw [sc_nil hx]
        exact vnew_nil hn hd h hv
      · exact vput_s hn hd h hv hx
    · split at hv
      · exact vname_s hv h fun B r m h hv => vput_s hn hd h hv (vval_rep h.regs x)
      · exact vput_s hn hd h hv hx
    · exact vput_s hn hd h hv hx

theorem valCells_rep : ∀ (l : List Value), All2 (Rep0 B W) (valCells l) l
  | [] => .nil
  | v :: l => .cons (rep_ofVal v) (valCells_rep l)

theorem zeroA_rep {k : Nat} : ∀ {t : Ty} {o : Nat} {l l' : List Value} {c : List A0}, zeroA k t o l = some (c, l') → ∃ c', l = c' ++ l' ∧ All2 (Rep0 B W) c c'
  | .nil, o, l, l', c, h => by
    simp only [zeroA, Option.some.injEq, Prod.mk.injEq] at h
    obtain ⟨rfl, rfl⟩ := h
    exact ⟨[], rfl, .nil⟩
  | .cons x y, o, l, l', c, h => by
    simp only [zeroA] at h
    split at h
    · rename_i c1 l1 h1
      split at h
      · rename_i c2 l2 h2
        simp only [Option.some.injEq, Prod.mk.injEq] at h
        obtain ⟨rfl, rfl⟩ := h
        obtain ⟨d1, rfl, e1⟩ := zeroA_rep h1
        obtain ⟨d2, rfl, e2⟩ := zeroA_rep h2
        exact ⟨d1 ++ d2, by simp, e1.append e2⟩
      · cases h
    · cases h
  | .int _, o, [], l', c, h => by simp [zeroA] at h
  | .bool, o, [], l', c, h => by simp [zeroA] at h
  | .str, o, [], l', c, h => by simp [zeroA] at h
  | .slice _, o, [], l', c, h => by simp [zeroA] at h
  | .int _, o, v :: l, l', c, h => by
    cases v <;> simp only [zeroA] at h <;> cases h
    exact ⟨[_], rfl, .cons rfl .nil⟩
  | .bool, o, v :: l, l', c, h => by
    cases v <;> simp only [zeroA] at h <;> cases h
    exact ⟨[_], rfl, .cons rfl .nil⟩
  | .str, o, v :: l, l', c, h => by
    cases v <;> simp only [zeroA] at h <;> cases h
    exact ⟨[_], rfl, .cons rfl .nil⟩
  | .slice e, o, v :: l, l', c, h => by
    cases v with
    | slice ad n q =>
      cases ad <;> cases n <;> cases q <;> simp only [zeroA] at h <;> cases h
      exact ⟨[_], rfl, .cons (.inl ⟨rfl, rfl⟩) .nil⟩
    | _ => simp only [zeroA] at h; cases h

theorem zeroObj_rep {k : Nat} {t : Ty} {z : List Value} {c : List A0} (h : zeroObj k t z = some c) : All2 (Rep0 B W) c z := by
  unfold zeroObj at h
  split at h
  · rename_i c' hc
    cases h
    obtain ⟨d, rfl, hd⟩ := zeroA_rep hc
    simpa using hd
  · cases h

theorem zeroCells_s {t : TypeId} {z : List Value} (h : zeroCells? P t = some z) : ∃ v, (∀ w, (zeroValue t).run P w = .ok v w) ∧ v.cells.toList = z := by
  unfold zeroCells? at h
  split at h
  · rename_i i hi
    rw [Option.map_eq_some_iff] at h
    obtain ⟨v, hv, rfl⟩ := h
    exact ⟨v, fun w => by simp [zeroValue, typeInfo, hi, hv], rfl⟩
  · cases h

/-- a new object -/
theorem alloc_s {K : Regs → Mem → Prop} {next : Act → World → Prop} (hn : Next? B0 W0 N WL K next) (hd : a.defers = []) (h : Inv B0 W0 N WL B W r m a.tmps.toList) {d : Nat} (hlt : d < 1000) {c : List A0} {arr : Array Value} {ty : TypeId}
    (hw : NewW W W' (.cells arr ty)) (hc : All2 (Rep0 (dropL B d) W) c arr.toList) (hv : K ((r.map (AV.map (A0.drop d))).set d (.lf (.ptr d 0))) ((d, c) :: mmap (A0.drop d) (mdel m d))) :
    next (a.put (some d) (.pointer (some ⟨W.heap.size, 0, none⟩))) W' := by
  have hk := h.drop hlt
  have hi := hk.new (L := .obj d) hw (fun w e => by cases e) (fun k e => by cases e; exact dropL_no _)
  have hx := newL_ext hk.lab hw (.obj d)
  refine hn _ _ _ _ _ hd (Inv.set (v := .lf (.ptr d 0)) ⟨hi.lab, hi.low, hi.move, hi.regs, ?_, ?_⟩ ⟨W.heap.size, newL_new, rfl⟩ d) hv
  · refine List.nodup_cons.2 ⟨?_, hi.mem.1⟩
    rw [mmap_keys]
    intro hm
    obtain ⟨p, hp, e⟩ := List.mem_map.1 hm
    exact (mdel_mem hp).2 e
  · intro p hp
    rcases List.mem_cons.1 hp with rfl | hp
    · exact ⟨W.heap.size, arr, ty, newL_new, hw.new, forall2_imp hc fun a v _ ha => Rep0.ext hx (fun _ _ h => h) (fun _ _ h => h) ha⟩
    · exact hi.mem.2 p hp

theorem allocOp_s {K : Regs → Mem → Prop} {next : Act → World → Prop} {Q : Exit → Act → World → Prop} (hn : Next? B0 W0 N WL K next) (hd : a.defers = []) (h : Inv B0 W0 N WL B W r m a.tmps.toList) {o : Oper} {t : TypeId} (ho : o.op = .alloc t)
    {Snd : SND} {all : List Oper} {E : AV → Mem → Prop} (hv : vop P Snd all o r m K E) : o.upon P a next Q ((execOp a.eval o).run P W) := by
  simp only [vop, ho] at hv
  cases hdst : o.dst with
  | none => rw [hdst] at hv; exact hv.elim
  | some d =>
    rw [hdst] at hv
    obtain ⟨hlt, hv1⟩ := chk hv
    obtain ⟨z, hz, hv2⟩ := optK_some hv1
    obtain ⟨c, hc, hv3⟩ := optK_some hv2
    simp only [fr_eq, fm_eq, fl0_eq, vput_some] at hv3
    obtain ⟨v, hzv, hzl⟩ := zeroCells_s hz
    have hrun : (execOp a.eval o).run P W = .ok (.value (.pointer (some ⟨W.heap.size, 0, none⟩))) (W.alloc (.cells v.cells t)) := by
      simp only [execOp, ho, Instr.alloc, newVar, newRow, Sem.run_bind, hzv, Result.andThen_ok, run_newObj, Sem.run_pure]
      rfl
    refine upon_val hrun ?_
    rw [hdst]
    refine alloc_s hn hd h (by simpa using hlt) (NewW.alloc W _) ?_ hv3
    rw [hzl]
    split at hc
    · exact zeroObj_rep hc
    · cases hc
      exact valCells_rep _

theorem cellsT_rep : ∀ {t : Ty} {x : t.den} {cs : List Value}, RepC B W t x cs → All2 (Rep0 B W) (cellsT t x) cs
  | .nil, _, _, h => by rw [show _ = [] from h]; exact .nil
  | .cons a b, x, cs, h => by
    obtain ⟨c1, c2, rfl, h1, h2⟩ := h
    exact (cellsT_rep h1).append (cellsT_rep h2)
  | .int k, x, cs, h => by rw [show cs = _ from h]; exact .cons (rfl : [Value.int k x] = _) .nil
  | .bool, x, cs, h => by rw [show cs = _ from h]; exact .cons (rfl : [Value.bool x] = _) .nil
  | .str, x, cs, h => by rw [show cs = _ from h]; exact .cons (rfl : [Value.string x] = _) .nil
  | .slice e, x, cs, h => by
    obtain ⟨a, cap, rfl, h⟩ := h
    exact .cons (⟨a, cap, rfl, h⟩ : RepC B W (.slice e) x _) .nil

theorem RepV.cells {t : Ty} {x : t.den} {u : Value} (h : RepV B W t x u) : RepC B W t x u.cells.toList := by
  cases t with
  | int k => rw [rep_int (B := B) (W := W) h]; exact rfl
  | bool => rw [rep_bool (B := B) (W := W) h]; exact rfl
  | str => rw [rep_str (B := B) (W := W) h]; exact rfl
  | nil =>
    obtain ⟨cs, rfl, h⟩ := (h : ∃ cs, u = .agg cs.toArray ∧ RepC B W .nil x cs)
    simpa [Value.cells] using h
  | cons p q =>
    obtain ⟨cs, rfl, h⟩ := (h : ∃ cs, u = .agg cs.toArray ∧ RepC B W (.cons p q) x cs)
    simpa [Value.cells] using h
  | slice e =>
    obtain ⟨a, cap, e, h⟩ := (h : RepC B W (.slice e) x [u])
    simp only [List.cons.injEq, and_true] at e
    subst e
    exact ⟨a, cap, rfl, h⟩

theorem cells_rep {v : AV} {u : Value} {c : List A0} (h : v.cells = some c) (hr : RepA B W v u) : All2 (Rep0 B W) c u.cells.toList := by
  unfold AV.cells at h
  split at h
  · cases h; exact cellsT_rep (RepV.cells hr)
  · rename_i v
    split at h
    · cases h
    · rename_i hn
      cases h
      obtain rfl : u = v := hr
      have : u.cells = #[u] := by unfold Value.cells; split <;> first | rfl | exact absurd rfl (hn _)
      rw [this]
      exact .cons rfl .nil
  · cases h
    obtain ⟨b, hb, rfl⟩ := hr
    exact .cons ⟨b, hb, rfl⟩ .nil
  · cases h
    obtain ⟨vs, rfl, h⟩ := hr
    exact h
  · cases h

theorem nilsL_rep {k : Nat} : ∀ {ts : List Ty} {c : List A0} {vs : List Value} {o : Nat}, All2 (Rep0 B W) c vs → All2 (Rep0 B W) (nilsL k o ts c) vs
  | ts, _, _, o, .nil => by cases ts with | nil => exact .nil | cons t ts => cases t <;> exact .nil
  | [], _, _, o, .cons h t => .cons h t
  | .slice e :: ts, a :: l, _, o, .cons h t => by
    unfold nilsL
    split
    · rename_i e1 e2
      cases e1
      cases e2
      exact .cons (.inl ⟨h, rfl⟩) (nilsL_rep t)
    · rename_i e1 e2
      cases e1
      cases e2
      exact .cons h (nilsL_rep t)
    · exact .cons h t
  | .int _ :: ts, a :: l, _, o, .cons h t => .cons h (nilsL_rep t)
  | .bool :: ts, a :: l, _, o, .cons h t => .cons h (nilsL_rep t)
  | .str :: ts, a :: l, _, o, .cons h t => .cons h (nilsL_rep t)
  | .nil :: ts, a :: l, _, o, .cons h t => .cons h (nilsL_rep t)
  | .cons _ _ :: ts, a :: l, _, o, .cons h t => .cons h (nilsL_rep t)
theorem nilsO_rep {k : Nat} {t : TypeId} {c : List A0} {vs : List Value} (h : All2 (Rep0 B W) c vs) : All2 (Rep0 B W) (nilsO P k t c) vs := by
  unfold nilsO
  split
  · exact nilsL_rep h
  · exact h

theorem boxOp_s {K : Regs → Mem → Prop} {next : Act → World → Prop} {Q : Exit → Act → World → Prop} (hn : Next? B0 W0 N WL K next) (hd : a.defers = []) (h : Inv B0 W0 N WL B W r m a.tmps.toList) {o : Oper} {t : TypeId} {x : Operand} (ho : o.op = .box t x)
    {Snd : SND} {all : List Oper} {E : AV → Mem → Prop} (hv : vop P Snd all o r m K E) : o.upon P a next Q ((execOp a.eval o).run P W) := by
  simp only [vop, ho] at hv
  have hrun : (execOp a.eval o).run P W = .ok (.value (.pointer (some ⟨W.heap.size, 0, none⟩))) (W.alloc (.cells (a.eval x).cells t)) := by
    simp only [execOp, ho, Instr.box, newVar, newRow, Sem.run_bind, Result.andThen_ok, run_newObj, Sem.run_pure]
    rfl
  refine upon_val hrun ?_
  cases hdst : o.dst with
  | none => rw [hdst] at hv; exact hv.elim
  | some d =>
    rw [hdst] at hv
    refine vfreeze_s hv h fun B r m h hv => ?_
    obtain ⟨hlt, hv1⟩ := chk hv
    obtain ⟨c, hc, hv2⟩ := optK_some hv1
    simp only [fr_eq, fm_eq, fl0_eq, vput_some] at hv2
    refine alloc_s hn hd h (by simpa using hlt) (NewW.alloc W _) ?_ hv2
    exact nilsO_rep (forall2_map (cells_rep hc (vval_rep h.regs x)) fun a v ha => Rep0.drop (dropL_ext B W d) ha)

theorem pick_s {K : Regs → Mem → Prop} {next : Act → World → Prop} {Q : Exit → Act → World → Prop} (hn : Next? B0 W0 N WL K next) (hd : a.defers = []) (h : Inv B0 W0 N WL B W r m a.tmps.toList) {o : Oper} {c x y : Operand} (ho : o.op = .pick c x y)
    {Snd : SND} {all : List Oper} {E : AV → Mem → Prop} (hv : vop P Snd all o r m K E) : o.upon P a next Q ((execOp a.eval o).run P W) := by
  simp only [vop, ho] at hv
  have hc := vval_rep h.regs c
  have hx := vval_rep h.regs x
  have hy := vval_rep h.regs y
  generalize vval r c = v at hv hc
  split at hv
  · rename_i t
    have hb := rep_bool hc
    cases t with
    | true =>
      have hrun : (execOp a.eval o).run P W = .ok (.value (a.eval x)) W := by
        simp only [execOp, ho, hb]; rfl
      exact upon_val hrun (vput_s hn hd h hv hx)
    | false =>
      have hrun : (execOp a.eval o).run P W = .ok (.value (a.eval y)) W := by
        simp only [execOp, ho, hb]; rfl
      exact upon_val hrun (vput_s hn hd h hv hy)
  · exact hv.elim

theorem fold_set (off : Nat) : ∀ (xs : List Value) (k : Nat) (arr : Array Value), off + k + xs.length ≤ arr.size →
    ((xs.zipIdx k).foldl (fun cs (p : Value × Nat) => cs.setIfInBounds (off + p.2) p.1) arr).toList = arr.toList.take (off + k) ++ xs ++ arr.toList.drop (off + k + xs.length)
  | [], k, arr, _ => by simp
  | v :: xs, k, arr, hl => by
    have hlt : off + k < arr.size := by simp at hl; omega
    rw [List.zipIdx_cons, List.foldl_cons, fold_set off xs (k + 1) _ (by simp at hl ⊢; omega)]
    have hset : (arr.setIfInBounds (off + k) v).toList = arr.toList.take (off + k) ++ v :: arr.toList.drop (off + k + 1) := by
      rw [Array.toList_setIfInBounds, List.set_eq_take_append_cons_drop, if_pos (by simpa using hlt)]
    have htl : (arr.toList.take (off + k)).length = off + k := by simp; omega
    have a1 : List.take (off + (k + 1)) (arr.setIfInBounds (off + k) v).toList = arr.toList.take (off + k) ++ [v] := by
      rw [hset, List.take_append, htl, show off + (k + 1) - (off + k) = 1 by omega, List.take_of_length_le (by omega)]
      rfl
    have a2 : List.drop (off + (k + 1) + xs.length) (arr.setIfInBounds (off + k) v).toList = arr.toList.drop (off + k + (v :: xs).length) := by
      rw [hset, List.drop_append, htl, List.drop_of_length_le (by omega), List.nil_append, show off + (k + 1) + xs.length - (off + k) = xs.length + 1 by omega, List.drop_succ_cons, List.drop_drop]
      congr 1
      simp; omega
    rw [a1, a2]; simp

theorem fillA_s (place : Nat → Option (Nat × Nat)) : ∀ {ps : List (Nat × List A0)} {qs : List (Nat × Value)} {cells c : List A0} {arr : Array Value}, All2 (fun p q => p.1 = q.1 ∧ All2 (Rep0 B W) p.2 q.2.cells.toList) ps qs →
    All2 (Rep0 B W) cells arr.toList → fillA place cells ps = some c → ∃ arr', Instr.fill place arr qs = some arr' ∧ All2 (Rep0 B W) c arr'.toList
  | _, _, cells, c, arr, .nil, hc, h => by
    simp only [fillA, Option.some.injEq] at h
    subst h
    exact ⟨arr, rfl, hc⟩
  | _, _, cells, c, arr, .cons (a := ⟨i, v⟩) (b := ⟨j, q⟩) (l := ps) (l' := qs) ⟨e1, e2⟩ ht, hc, h => by
    simp only at e1 e2
    subst e1
    simp only [fillA] at h
    cases hp : place i with
    | none => rw [hp] at h; cases h
    | some os =>
      obtain ⟨off, size⟩ := os
      rw [hp] at h
      simp only at h
      split at h
      · rename_i hb
        simp only [Bool.and_eq_true] at hb
        have hs : v.length = size := Nat.eq_of_beq_eq_true hb.1
        have hle : off + size ≤ cells.length := Nat.le_of_ble_eq_true hb.2
        have hl1 := e2.len
        have hl2 := hc.len
        simp only [Array.length_toList] at hl1 hl2
        have hset : (q.cells.zipIdx.foldl (fun cs (c, j) => cs.setIfInBounds (off + j) c) arr).toList = arr.toList.take off ++ q.cells.toList ++ arr.toList.drop (off + size) := by
          rw [← Array.foldl_toList, Array.toList_zipIdx]
          have := fold_set off q.cells.toList 0 arr (by simp; omega)
          simp only [Nat.add_zero, Array.length_toList] at this
          rw [show off + size = off + q.cells.size by omega]
          exact this
        obtain ⟨arr', h1, h2⟩ := fillA_s place (arr := q.cells.zipIdx.foldl (fun cs (c, j) => cs.setIfInBounds (off + j) c) arr) ht (by
          rw [hset]
          exact ((hc.take off).append e2).append (hc.drop (off + size))) h
        refine ⟨arr', ?_, h2⟩
        simp only [Instr.fill, hp]
        rw [if_neg (by simp; omega)]
        exact h1
      · cases h

theorem partsA_s {r : Regs} (hr : All2 (RepA B W) r a.tmps.toList) : ∀ {ps : List (Nat × Operand)} {qs : List (Nat × List A0)}, partsA r ps = some qs →
    All2 (fun p q => p.1 = q.1 ∧ All2 (Rep0 B W) p.2 q.2.cells.toList) qs (ps.map fun p => (p.1, a.eval p.2))
  | [], qs, h => by simp only [partsA, Option.some.injEq] at h; subst h; exact .nil
  | (i, x) :: ps, qs, h => by
    simp only [partsA] at h
    split at h
    · rename_i c l hc hl
      cases h
      exact .cons ⟨rfl, cells_rep hc (vval_rep hr x)⟩ (partsA_s hr hl)
    · cases h

theorem packN_s {e : Ty} : ∀ {n : Nat} {l : List A0} {xs : List e.den} {vs : List Value}, packN e n l = some xs → All2 (Rep0 B W) l vs → xs.length = n ∧ Flat (fun x es => RepC B W e x es) xs vs
  | 0, [], xs, vs, h, hl => by
    simp only [packN, Option.some.injEq] at h
    subst h
    cases hl
    exact ⟨rfl, rfl⟩
  | 0, _ :: _, xs, vs, h, hl => by simp [packN] at h
  | n + 1, l, xs, vs, h, hl => by
    simp only [packN] at h
    split at h
    · rename_i x l' h1
      rw [Option.map_eq_some_iff] at h
      obtain ⟨ys, h2, rfl⟩ := h
      obtain ⟨cs, vs', rfl, h3, h4⟩ := packT_s h1 hl
      obtain ⟨h5, h6⟩ := packN_s h2 h4
      exact ⟨by simp [h5], cs, vs', rfl, h3, h6⟩
    · cases h

end

end Go.V

namespace Go.V
set_option linter.unusedVariables false
set_option linter.unusedSimpArgs false

section
variable {B0 : Lab} {W0 : World} {N : Nat} {WL : World} {B : Lab} {W W' : World} {r : Regs} {m : Mem} {P : Program} {a : Act}
variable {K : Regs → Mem → Prop} {next : Act → World → Prop} {Q : Exit → Act → World → Prop} {o : Oper} {Snd : SND} {all : List Oper} {E : AV → Mem → Prop}

theorem placesOf_s : ∀ {fs : List Field} {pl : List (Nat × Nat)}, placesOf P fs = some pl → fs.mapM (fun f => (P.info? f.type).map fun i => (f.offset, i.size)) = some pl
  | [], pl, h => by simp only [placesOf, Option.some.injEq] at h; subst h; rfl
  | f :: fs, pl, h => by
    simp only [placesOf] at h
    split at h
    · rename_i i l hi hl
      cases h
      simp [hi, placesOf_s hl]
    · cases h

theorem build_s (hn : Next? B0 W0 N WL K next) (hd : a.defers = []) (h : Inv B0 W0 N WL B W r m a.tmps.toList) {t : TypeId} {ps : Array (Nat × Operand)} (ho : o.op = .build t ps)
    (hv : vop P Snd all o r m K E) : o.upon P a next Q ((execOp a.eval o).run P W) := by
  simp only [vop, ho] at hv
  refine vfreeze_s hv h fun B r m h hv => ?_
  split at hv
  · rename_i fs hu
    obtain ⟨T, hT, hv1⟩ := optK_some hv
    obtain ⟨z, hz, hv2⟩ := optK_some hv1
    obtain ⟨pl, hpl, hv3⟩ := optK_some hv2
    obtain ⟨qs, hqs, hv4⟩ := optK_some hv3
    obtain ⟨c, hc, hv5⟩ := optK_some hv4
    unfold zeroCells? at hz
    split at hz
    · rename_i it hit
      rw [Option.map_eq_some_iff] at hz
      obtain ⟨zv, hzv, rfl⟩ := hz
      obtain ⟨arr', h1, h2⟩ := fillA_s (B := B) (W := W) (pl[·]?) (partsA_s h.regs hqs) (valCells_rep zv.cells.toList) hc
      have hb : P.built t (ps.map fun p => (p.1, a.eval p.2)).toList = some arr' := by
        unfold Program.built
        rw [hit, hu]
        simp only [hzv, placesOf_s hpl]
        rw [Array.toList_map]
        simpa using h1
      have hrun : (execOp a.eval o).run P W = .ok (.value (.agg arr')) W := by
        simp only [execOp, ho, Sem.run_bind]
        rw [run_build (P := P) W t _ arr' hb]
        rfl
      split at hv5
      · exact upon_val hrun (vput_s hn hd h hv5 ⟨arr', rfl, h2⟩)
      obtain ⟨hagg, hv6⟩ := chk hv5
      obtain ⟨⟨y, rest⟩, hp, hv7⟩ := optK_some hv6
      obtain ⟨he, hv8⟩ := chk hv7
      refine upon_val hrun (vput_s hn hd h hv8 ?_)
      obtain ⟨cs, vs', hvs, hcr, hrest⟩ := packT_s hp h2
      have : vs' = [] := by
        simp only [List.isEmpty_iff] at he
        subst he
        cases hrest; rfl
      subst this
      show RepV B W T y _
      unfold RepV
      rw [hagg]
      exact ⟨cs, by congr 1; apply Array.toList_inj.1; rw [hvs]; simp, hcr⟩
    · cases hz
  · exact hv.elim

theorem run_zero {t : TypeId} {z : List Value} (h : zeroCells? P t = some z) : ∃ v, (∀ w, (zeroValue t).run P w = .ok v w) ∧ v.cells.toList = z := zeroCells_s h

theorem repA_rep {c : List A0} {vs : List Value} (h : All2 (Rep0 B W) c vs) : ∀ n, All2 (Rep0 B W) (repA n c) ((List.replicate n vs).flatten)
  | 0 => .nil
  | n + 1 => by rw [List.replicate_succ, List.flatten_cons]; exact h.append (repA_rep h n)

theorem range_mod (z : Array Value) : ∀ (n : Nat), ((Array.range (n * z.size)).map fun i => z[i % z.size]!).toList = (List.replicate n z.toList).flatten := by
  intro n
  induction n with
  | zero => simp
  | succ n ih =>
    by_cases h0 : z.size = 0
    · have : z = #[] := Array.eq_empty_of_size_eq_zero h0
      subst this
      simp
    · rw [List.replicate_succ', List.flatten_append, ← ih]
      simp only [Array.toList_map, Array.toList_range, List.flatten_cons, List.flatten_nil, List.append_nil]
      rw [Nat.add_mul, Nat.one_mul, List.range_add, List.map_append, List.map_map]
      congr 1
      apply List.ext_getElem
      · simp
      · intro i h1 h2
        simp only [List.length_map, List.length_range] at h1
        simp only [List.getElem_map, List.getElem_range, Function.comp]
        rw [Nat.add_comm, Nat.add_mul_mod_self_right, Nat.mod_eq_of_lt h1]
        simp [h1]

theorem buildSlice_s (hn : Next? B0 W0 N WL K next) (hd : a.defers = []) (h : Inv B0 W0 N WL B W r m a.tmps.toList) {t : TypeId} {n : Nat} {ps : Array (Nat × Operand)} (ho : o.op = .buildSlice t n ps)
    (hv : vop P Snd all o r m K E) : o.upon P a next Q ((execOp a.eval o).run P W) := by
  simp only [vop, ho] at hv
  split at hv
  · rename_i d el hdst hu
    refine vfreeze_s hv h fun B r m h hv => ?_
    obtain ⟨T, hT, hv1⟩ := optK_some hv
    obtain ⟨z, hz, hv2⟩ := optK_some hv1
    obtain ⟨hchk, hv3⟩ := chk hv2
    obtain ⟨qs, hqs, hv4⟩ := optK_some hv3
    obtain ⟨c, hc, hv5⟩ := optK_some hv4
    obtain ⟨l, hl, hv6⟩ := optK_some hv5
    simp only [Bool.and_eq_true] at hchk
    obtain ⟨⟨hsz, hzl⟩, hbig⟩ := hchk
    obtain ⟨i, hi, hs⟩ := szIs_eq hsz
    have hzl := Nat.eq_of_beq_eq_true hzl
    have hbig := Nat.le_of_ble_eq_true hbig
    obtain ⟨zv, hzv, hzc⟩ := zeroCells_s hz
    have hzs : zv.cells.size = T.sz := by rw [← hzl, ← hzc]; simp
    have hcells : ((Array.range (n * T.sz)).map fun i => zv.cells[i % zv.cells.size]!).toList = (List.replicate n z).flatten := by
      rw [← hzs, range_mod, hzc]
    obtain ⟨arr', h1, h2⟩ := fillA_s (B := B) (W := W) (arr := (Array.range (n * T.sz)).map fun i => zv.cells[i % zv.cells.size]!) (fun i => some (i * T.sz, T.sz)) (partsA_s h.regs hqs)
      (by rw [hcells]; exact repA_rep (valCells_rep z) n) hc
    obtain ⟨hlen, hflat⟩ := packN_s hl h2
    have hasz : arr'.toList.length = n * T.sz := by rw [hflat.len RepC.sz, hlen]
    have hrun : (execOp a.eval o).run P W = .ok (.value (.slice (some ⟨W.heap.size, 0, none⟩) n n)) (W.alloc (.cells arr' el)) := by
      simp only [execOp, ho, Instr.buildSlice, Sem.run_bind, run_underlying hu, Result.andThen_ok, run_size hi, hs]
      rw [if_neg (by omega)]
      by_cases h0 : n * T.sz = 0
      · rw [if_pos h0]
        have he : ∀ f : Nat → Value, (Array.range (n * T.sz)).map f = #[] := by
          intro f; rw [h0]; simp
        rw [he] at h1
        simp only [Sem.run_pure, Result.andThen_ok, Array.toList_map, he]
        rw [h1]
        simp only [Sem.run_bind, newRow, run_newObj, Result.andThen_ok, Sem.run_pure]
        rfl
      · rw [if_neg h0]
        simp only [Sem.run_bind, hzv, Sem.run_pure, Result.andThen_ok, Array.toList_map]
        rw [h1]
        simp only [Sem.run_bind, newRow, run_newObj, Result.andThen_ok, Sem.run_pure]
        rfl
    refine upon_val hrun ?_
    have hw := NewW.alloc W (.cells arr' el)
    have hget : ∀ (j : Nat) (v : Value), arr'.toList[j]? = some v → arr'[j]? = some v := fun j v hj => by rwa [Array.getElem?_toList] at hj
    have hsz2 : n * T.sz ≤ arr'.size := by rw [← hasz]; simp
    rw [hdst]
    split at hv6
    · have := vnew_row hn hd h hv6 hw hflat hget (cap := n) (by omega) hsz2 (.inl rfl)
      rwa [hlen] at this
    · have hx := newL_ext h.lab hw .st
      have hi' := h.new (L := .st) hw (fun w e => by cases e) (fun k e => by cases e)
      refine vput_s hn hd hi' hv6 ?_
      refine ⟨_, n, by rw [hlen], by omega, .inr ⟨⟨W.heap.size, 0, none⟩, rfl, newL_new, rfl, ?_⟩⟩
      refine Flat.elems (fun x c hr => RepC.len hr) (hflat.imp fun x c hr => RepC.ext hx.s hr) (fun j v hj => ?_)
      rw [Addr.add_lit, Nat.zero_add, cell_arr hw.new]
      exact hget j v hj
  · exact hv.elim

theorem run_panic {x : Value} {t : TypeId} {u : Value} (h : x = .iface t u) (w : World) : (Instr.panic x).run P w = .halt (.panic (.iface t u)) w := by
  subst h; rfl

end

end Go.V

namespace Go.V
set_option linter.unusedVariables false
set_option linter.unusedSimpArgs false

section
variable {B0 : Lab} {W0 : World} {N : Nat} {WL : World} {B : Lab} {W W' : World} {r : Regs} {m : Mem} {P : Program} {a : Act}
variable {K : Regs → Mem → Prop} {next : Act → World → Prop} {Q : Exit → Act → World → Prop} {o : Oper} {Snd : SND} {all : List Oper} {E : AV → Mem → Prop}

/-- what must follow a panic -/
def Exc? (B0 : Lab) (W0 : World) (N : Nat) (WL : World) (E : AV → Mem → Prop) (Q : Exit → Act → World → Prop) : Prop :=
  ∀ (B : Lab) (W : World) (v : AV) (u : Value) (m : Mem) (a : Act), a.defers = [] → LabOK B W → Low N WL B W → Move B0 W0 B W → RepA B W v u → MemOK B W m → E v m → Q (.panic [{ v := u, recovered := false }]) a W

theorem one_cells {u : Value} (h : u.oneCell' = true) : u.cells = #[u] := by
  cases u <;> first | rfl | cases h

theorem run_storeVar {t : TypeId} {n b off : Nat} {u : Value} {arr : Array Value} {ty : TypeId} {fz : Nat × Nat} (hz : szIs P t n = true) (hl : u.cells.toList.length = n) (hw : W.heap[b]? = some (.cells arr ty fz))
    (hf : ∀ i, i < arr.size → ¬ (fz.1 ≤ i ∧ i < fz.2)) (hle : off + n ≤ arr.size) (h1 : ∀ v ∈ u.cells.toList, v.oneCell' = true) :
    ∃ W' arr', (Instr.storeAt t (.pointer (some ⟨b, off, none⟩)) u).run P W = .ok () W' ∧ AtW W W' b (.cells arr' ty fz) ∧ arr'.toList = arr.toList.take off ++ u.cells.toList ++ arr.toList.drop (off + n) := by
  obtain ⟨i, hi, hs⟩ := szIs_eq hz
  obtain ⟨W', arr', hr, hat, harr⟩ := run_storeCells_fz (P := P) b off ty fz u.cells.toList 0 arr W hw hf (by omega) h1
  refine ⟨W', arr', ?_, hat, by rw [harr, hl]; rfl⟩
  unfold Instr.storeAt storeVar Instr.sureAddr
  simp only [Sem.run_bind, Sem.run_pure, Result.andThen_ok, run_size hi]
  rw [if_neg (by rw [hs, ← hl]; simp)]
  exact hr

theorem storeObj (hn : Next? B0 W0 N WL K next) (hd : a.defers = []) (h : Inv B0 W0 N WL B W r m a.tmps.toList) {t : TypeId} {n k off : Nat} {ad : Value} {u : Value} (hp : RepA B W (.lf (.ptr k off)) ad) {c c2 : List A0} (hc : mget m k = some c) (hz : szIs P t n = true)
    (hl : u.cells.toList.length = n) (hle : off + n ≤ c.length) (h1 : ∀ v ∈ u.cells.toList, v.oneCell' = true) (h2 : All2 (Rep0 B W) c2 u.cells.toList) (hk : K r (mset m k (c.take off ++ c2 ++ c.drop (off + n)))) :
    ∃ W', (Instr.storeAt t ad u).run P W = .ok () W' ∧ next a W' := by
  obtain ⟨b, hb, rfl⟩ := hp
  obtain ⟨arr, ty, hw, hcs⟩ := obj_cells h.lab h.mem hc hb
  have hlen := hcs.len
  simp only [Array.length_toList] at hlen
  obtain ⟨W', arr', hr, hat, harr⟩ := run_storeVar (P := P) (n := n) (off := off) hz hl hw (fun i _ => by simp) (by omega) h1
  refine ⟨W', hr, hn _ _ _ _ _ hd (h.store hat hb ?_) hk⟩
  rw [harr]
  exact ((hcs.take off).append h2).append (hcs.drop (off + n))

theorem set_splice {α : Type} (l : List α) (i : Nat) (x : α) (h : i < l.length) : l.set i x = l.take i ++ [x] ++ l.drop (i + 1) := by
  rw [List.set_eq_take_append_cons_drop, if_pos h]; simp

theorem into1_s (hn : Next? B0 W0 N WL K next) (hd : a.defers = []) (h : Inv B0 W0 N WL B W r m a.tmps.toList) {t : TypeId} {x z : Operand} (hz : szIs P t 1 = true)
    (hv : into1 z x K r m) : ∃ W', (Instr.storeAt t (a.eval z) (a.eval x)).run P W = .ok () W' ∧ next a W' := by
  have hx := vval_rep h.regs x
  have hp := vval_rep h.regs z
  unfold into1 at hv
  generalize vval r x = v at hv hx
  generalize vval r z = p at hv hp
  obtain ⟨k, off, rfl⟩ : ∃ k off, p = .lf (.ptr k off) := by
    split at hv
    · exact ⟨_, _, rfl⟩
    · exact hv.elim
  have key : ∀ (y : A0), RepA B W (.lf y) (a.eval x) → (a.eval x).oneCell' = true → (optK (mget m k) fun c => vchk (Nat.blt off c.length) (fl0 (c.set off y) fun c => fm (mset m k c) fun m => K r m)) →
      ∃ W', (Instr.storeAt t (a.eval z) (a.eval x)).run P W = .ok () W' ∧ next a W' := by
    intro y hy h1 hv
    obtain ⟨c, hc, hv1⟩ := optK_some hv
    obtain ⟨hlt, hv2⟩ := chk hv1
    simp only [fl0_eq, fm_eq] at hv2
    have hlt : off < c.length := by simpa using hlt
    have hcells := one_cells h1
    refine storeObj (c2 := [y]) hn hd h hp hc hz (by rw [hcells]; rfl) (by omega) (by rw [hcells]; simpa using h1) (by rw [hcells]; exact .cons hy .nil) ?_
    rw [← set_splice _ _ _ hlt]
    exact hv2
  cases v with
  | lf y =>
    cases y with
    | undef => exact hv.elim
    | vp w e l i t off g s => exact hv.elim
    | full e l => exact hv.elim
    | val T y =>
      obtain ⟨hagg, hv⟩ := chk hv
      have hr : RepC B W T y [a.eval x] := (RepV.plain (by simpa using hagg)).1 hx
      exact key _ hx (hr.one _ (by simp)) hv
    | pv t y => exact key _ hx (by obtain ⟨ad, cs, e, _⟩ := hx; rw [e]; rfl) hv
    | al w e l => exact key _ hx (by rcases hx with ⟨e, _⟩ | ⟨b, cap, e, _⟩ <;> rw [e] <;> rfl) hv
    | ptr k off => exact key _ hx (by obtain ⟨b, hb, e⟩ := hx; rw [e]; rfl) hv
    | sc v =>
      have e := rep_sc hx
      cases v <;> first | exact hv.elim | exact key _ hx (by rw [e]; rfl) hv
  | _ => exact hv.elim

theorem AtW.ext {b : Nat} {ob : Obj} {w : Ow} (hw : AtW W W' b ob) (hb : B b = .row w) : ExtS B W B W' := (atW_ext hw hb).s

/-- an element of a row is written -/
theorem Rep0.upd (hl : LabOK B W) {b : Nat} {w : Ow} {e : Ty} {l : List e.den} {cap i off : Nat} {u : Ty} {g : e.den → u.den} {s : e.den → u.den → e.den} (hrow : RowBlk B W w e l cap b) (hlt : i < l.length) (hlens : Lens e u off g s)
    {y : u.den} {ys : List Value} (hy : RepC B W u y ys) {arr arr' : Array Value} {ty : TypeId} {fz : Nat × Nat} (hw : W.heap[b]? = some (.cells arr ty fz)) (hat : AtW W W' b (.cells arr' ty fz))
    (harr : arr'.toList = arr.toList.take (i * e.sz + off) ++ ys ++ arr.toList.drop (i * e.sz + off + u.sz)) {q : A0} {v : Value} (hq : Rep0 B W q v) : Rep0 B W' (q.upd w e i fun z => s z y) v := by
  have hb := hrow.1
  have hx := atW_ext hat hb
  have keep : ¬ q.has w → Rep0 B W' q v := fun hnh => Rep0.ext hx (fun x hx hd => hnh (hd ▸ hx)) (fun _ _ h => h) hq
  cases q with
  | al w' e' l' =>
    by_cases hww : w' = w
    · subst hww
      simp only [A0.upd, if_true]
      split
      · rename_i l2 hc
        obtain ⟨he, rfl⟩ := cast_some hc
        cases he
        rcases hq with ⟨rfl, rfl⟩ | ⟨b', cap', rfl, hb', arr1, ty1, fz1, q1, q2, q3, q4, q5⟩
        · exact .inl ⟨rfl, by simp⟩
        · obtain rfl := hl.rows b' b _ hb' hb
          rw [hw] at q1
          cases q1
          have hsz : arr'.size = arr.size := by
            have hys := hy.len
            obtain ⟨_, arr2, ty2, fz2, p1, p2, p3, p4, p5⟩ := hrow
            rw [hw] at p1; cases p1
            obtain ⟨es, f1, f2⟩ := p5 i hlt
            obtain ⟨c1, c2, c3, rfl, g1, g2, g3⟩ := hlens B W _ _ f1
            have hle := f1.len
            simp only [List.length_append] at hle
            have := g2.len
            have hb1 : (i + 1) * e.sz ≤ cap * e.sz := Nat.mul_le_mul_right _ (by omega)
            rw [Nat.add_mul] at hb1
            have := congrArg List.length harr
            simp at this
            omega
          refine .inr ⟨b', cap', by simp, hb, arr', ty, fz, hat.here, by rw [hsz]; exact q2, by simpa using q3, by rw [hsz]; exact q4, ?_⟩
          intro j hj
          have hj' : j < l'.length := by simpa using hj
          obtain ⟨es, f1, f2⟩ := q5 j hj'
          have cellat : ∀ (n : Nat), W.cell? ⟨b', n, none⟩ = arr.toList[n]? := fun n => by rw [cell_arr hw, Array.getElem?_toList]
          have cellat' : ∀ (n : Nat), W'.cell? ⟨b', n, none⟩ = arr'.toList[n]? := fun n => by rw [cell_arr hat.here, Array.getElem?_toList]
          have hflen := f1.len
          have hylen := hy.len
          have htake : ∀ n, n ≤ arr.size → (arr.toList.take n).length = n := fun n h => by simp; omega
          have hjb : (j + 1) * e.sz ≤ arr.size := Nat.le_trans (Nat.mul_le_mul_right _ (by omega)) q4
          rw [Nat.add_mul] at hjb
          by_cases hij : i = j
          · subst hij
            obtain ⟨c1, c2, c3, rfl, g1, g2, g3⟩ := hlens B W _ _ f1
            have h2len := g2.len
            refine ⟨c1 ++ ys ++ c3, ?_, fun n v hn => ?_⟩
            · rw [List.getElem_modify_eq]
              exact RepC.ext hx.s (g3 y ys hy)
            · rw [Addr.add_lit, Nat.zero_add, cellat', harr]
              simp only [List.length_append] at hflen
              have hold : ∀ n v, (c1 ++ c2 ++ c3)[n]? = some v → arr.toList[i * e.sz + n]? = some v := fun n v hn => by
                have := f2 n v hn
                rwa [Addr.add_lit, Nat.zero_add, cellat] at this
              have htl := htake (i * e.sz + off) (by omega)
              by_cases n1 : n < off
              · rw [List.append_assoc, List.getElem?_append_left (by omega), List.getElem?_take, if_pos (by omega)]
                rw [List.append_assoc, List.getElem?_append_left (by omega)] at hn
                exact hold n v (by rw [List.append_assoc, List.getElem?_append_left (by omega)]; exact hn)
              · by_cases n2 : n < off + u.sz
                · rw [List.append_assoc, List.getElem?_append_right (by omega), htl, List.getElem?_append_left (by omega)]
                  rw [List.append_assoc, List.getElem?_append_right (by omega), List.getElem?_append_left (by omega), g1] at hn
                  rw [← hn]; congr 1; omega
                · rw [List.getElem?_append_right (by rw [List.length_append, htl]; omega), List.length_append, htl, List.getElem?_drop]
                  rw [List.getElem?_append_right (by rw [List.length_append]; omega), List.length_append, g1, hylen] at hn
                  have := hold n v (by rw [List.getElem?_append_right (by rw [List.length_append]; omega), List.length_append, g1, h2len]; exact hn)
                  rw [← this]; congr 1; omega
          · refine ⟨es, ?_, fun n v hn => ?_⟩
            · rw [List.getElem_modify_ne _ _ hij]
              exact RepC.ext hx.s f1
            · rw [Addr.add_lit, Nat.zero_add, cellat', harr]
              have hnl := (List.getElem?_eq_some_iff.1 hn).1
              have := f2 n v hn
              rw [Addr.add_lit, Nat.zero_add, cellat] at this
              obtain ⟨_, arr2, ty2, fz2, p1, p2, p3, p4, p5⟩ := hrow
              rw [hw] at p1; cases p1
              obtain ⟨es', f1', f2'⟩ := p5 i hlt
              obtain ⟨c1, c2, c3, rfl, g1, g2, g3⟩ := hlens B W _ _ f1'
              have h2len := g2.len
              have hle' := f1'.len
              simp only [List.length_append] at hle'
              have hb1 : (i + 1) * e.sz ≤ cap * e.sz := Nat.mul_le_mul_right _ (by omega)
              rw [Nat.add_mul] at hb1
              have htl := htake (i * e.sz + off) (by omega)
              rcases Nat.lt_or_gt_of_ne hij with hlt' | hgt
              · have hm1 : (i + 1) * e.sz ≤ j * e.sz := Nat.mul_le_mul_right _ hlt'
                rw [Nat.add_mul] at hm1
                rw [List.getElem?_append_right (by rw [List.length_append, htl]; omega), List.length_append, htl, List.getElem?_drop, ← this]
                congr 1; omega
              · have hm1 : (j + 1) * e.sz ≤ i * e.sz := Nat.mul_le_mul_right _ hgt
                rw [Nat.add_mul] at hm1
                rw [List.append_assoc, List.getElem?_append_left (by omega), List.getElem?_take, if_pos (by omega)]
                exact this
      · trivial
    · simpa only [A0.upd, hww, if_false] using keep hww
  | vp w' e' l' i' t' off' g' s' =>
    by_cases hww : w' = w
    · simp only [A0.upd, hww, if_true]; trivial
    · simpa only [A0.upd, hww, if_false] using keep hww
  | undef => exact keep (fun h => h)
  | val t x => exact keep (fun h => h)
  | pv t x => exact keep (fun h => h)
  | full e l => exact keep (fun h => h)
  | sc v => exact keep (fun h => h)
  | ptr k off => exact keep (fun h => h)

theorem okCell_one {q : A0} {v : Value} (hq : okCell q = true) (h : Rep0 B W q v) : v.oneCell' = true := by
  cases q with
  | undef => cases hq
  | vp w e l i t off g s => cases hq
  | full e l => cases hq
  | val T y =>
    have hagg : T.agg = false := by simpa [okCell] using hq
    have hr : RepC B W T y [v] := (RepV.plain hagg).1 h
    exact hr.one _ (by simp)
  | pv t y => obtain ⟨ad, cs, e, _⟩ := h; rw [e]; rfl
  | al w e l => rcases h with ⟨e, _⟩ | ⟨b, cap, e, _⟩ <;> rw [e] <;> rfl
  | ptr k off => obtain ⟨b, hb, e⟩ := h; rw [e]; rfl
  | sc u =>
    have e : v = u := h
    rw [e]
    cases u <;> first | rfl | cases hq
theorem okCells_one : ∀ {xs : List A0} {vs : List Value}, okCells xs = true → All2 (Rep0 B W) xs vs → ∀ v ∈ vs, v.oneCell' = true
  | _, _, _, .nil, v, hv => by cases hv
  | _, _, hx, .cons h t, v, hv => by
    simp only [okCells, Bool.and_eq_true] at hx
    rcases List.mem_cons.1 hv with rfl | hv
    · exact okCell_one hx.1 h
    · exact okCells_one hx.2 t v hv
theorem nilsAt_rep {k off : Nat} {t : TypeId} {c : List A0} {vs : List Value} (h : All2 (Rep0 B W) c vs) : All2 (Rep0 B W) (nilsAt P k off t c) vs := by
  unfold nilsAt
  split
  · exact nilsL_rep h
  · exact h

theorem intoN_s (hn : Next? B0 W0 N WL K next) (hd : a.defers = []) (h : Inv B0 W0 N WL B W r m a.tmps.toList) {t : TypeId} {x z : Operand}
    (hv : intoN P t z x K r m) : ∃ W', (Instr.storeAt t (a.eval z) (a.eval x)).run P W = .ok () W' ∧ next a W' := by
  have hx := vval_rep h.regs x
  have hp := vval_rep h.regs z
  unfold intoN at hv
  generalize vval r x = v at hv hx
  generalize vval r z = p at hv hp
  split at hv
  · rename_i k off T y
    obtain ⟨hc, hv1⟩ := chk hv
    obtain ⟨c, hc', hv2⟩ := optK_some hv1
    obtain ⟨hle, hv3⟩ := chk hv2
    simp only [fl0_eq, fm_eq] at hv3
    rw [Bool.and_eq_true] at hc
    have hcells := RepV.cells hx
    exact storeObj hn hd h hp hc' hc.1 hcells.len (Nat.le_of_ble_eq_true hle) hcells.one (cellsT_rep hcells) hv3
  · rename_i k off xs
    obtain ⟨hc, hv1⟩ := chk hv
    obtain ⟨c, hc', hv2⟩ := optK_some hv1
    obtain ⟨hle, hv3⟩ := chk hv2
    simp only [fl0_eq, fm_eq] at hv3
    rw [Bool.and_eq_true] at hc
    obtain ⟨vs, e, hvs⟩ := hx
    rw [e]
    exact storeObj (n := xs.length) hn hd h hp hc' hc.1 hvs.len.symm (Nat.le_of_ble_eq_true hle) (okCells_one hc.2 hvs) (nilsAt_rep hvs) hv3
  · exact hv.elim

theorem intoNil_s (hn : Next? B0 W0 N WL K next) (hd : a.defers = []) (h : Inv B0 W0 N WL B W r m a.tmps.toList) {t : TypeId} {x z : Operand} {k off : Nat} (hz : szIs P t 1 = true) (e : vval r x = .lf (.sc (.slice none 0 0)))
    (hv : intoNil P t z k off K r m) : ∃ W', (Instr.storeAt t (a.eval z) (a.eval x)).run P W = .ok () W' ∧ next a W' := by
  have hx := vval_rep h.regs x
  rw [e] at hx
  have hx := sc_nil hx
  unfold intoNil at hv
  split at hv
  · obtain ⟨T, hT, hv1⟩ := optK_some hv
    simp only [mapS_eq] at hv1
    have hk := h.kill (.ce k off)
    have hp := vval_rep hk.regs z
    generalize vval (r.map (AV.map (A0.kill (.ce k off)))) z = p at hv1 hp
    split at hv1
    · rename_i k2 off2
      obtain ⟨hb, hv2⟩ := chk hv1
      obtain ⟨c, hc, hv3⟩ := optK_some hv2
      obtain ⟨hlt, hv4⟩ := chk hv3
      simp only [fl0_eq, fm_eq] at hv4
      rw [Bool.and_eq_true] at hb
      obtain rfl := Nat.eq_of_beq_eq_true hb.1
      obtain rfl := Nat.eq_of_beq_eq_true hb.2
      have hlt : off2 < c.length := by simpa using hlt
      rw [hx]
      refine storeObj (c2 := [.al (.ce k2 off2) T []]) hn hd hk hp hc hz rfl (by omega) (by simp [Value.cells, Value.oneCell']) (.cons (.inl ⟨rfl, rfl⟩) .nil) ?_
      rw [← set_splice _ _ _ hlt]
      exact hv4
    · exact hv1.elim
  · exact hv.elim

theorem intoE_s (hn : Next? B0 W0 N WL K next) (hd : a.defers = []) (h : Inv B0 W0 N WL B W r m a.tmps.toList) {t : TypeId} {x z : Operand}
    (hv : intoE P t z x K r m) : ∃ W', (Instr.storeAt t (a.eval z) (a.eval x)).run P W = .ok () W' ∧ next a W' := by
  have hx := vval_rep h.regs x
  have hp := vval_rep h.regs z
  unfold intoE at hv
  generalize vval r x = v at hv hx
  generalize vval r z = p at hv hp
  split at hv
  · rename_i w e l i u off g s T y
    obtain ⟨hc, hv1⟩ := chk hv
    obtain ⟨y', hy, hv2⟩ := optK_some hv1
    obtain ⟨hT, rfl⟩ := cast_some hy
    subst hT
    simp only [mapS_eq] at hv2
    rw [Bool.and_eq_true] at hc
    have hcells := RepV.cells hx
    obtain ⟨b, cap, e1, hlt, hrow, hlens⟩ := hp
    have hrow' := hrow
    obtain ⟨hb, arr, ty, fz, g1, g2, g3, g4, g5⟩ := hrow
    obtain ⟨es, f1, f2⟩ := g5 i hlt
    obtain ⟨c1, c2, c3, rfl, q1, q2, q3⟩ := hlens B W _ _ f1
    have hle := f1.len
    simp only [List.length_append] at hle
    have := q2.len
    have hb1 : (i + 1) * e.sz ≤ cap * e.sz := Nat.mul_le_mul_right _ (by omega)
    rw [Nat.add_mul] at hb1
    obtain ⟨W', arr', hr, hat, harr⟩ := run_storeVar (P := P) (n := T.sz) (off := i * e.sz + off) hc.1 hcells.len g1 g2.un (by omega) hcells.one
    rw [e1]
    refine ⟨W', hr, hn _ _ _ _ _ hd (h.turn (atW_ok h.lab hat) (atW_move hat (by rw [hb]; exact fun h => by cases h) (by rw [hb]; exact fun h => by cases h)) _ (fun q v hq => Rep0.upd h.lab hrow' hlt hlens hcells g1 hat harr hq) ?_) hv2⟩
    intro b' k hb' _
    exact ⟨hb', hat.other b' (fun e => by subst e; rw [hb] at hb'; cases hb')⟩
  · exact hv.elim

theorem store_s (hn : Next? B0 W0 N WL K next) (hd : a.defers = []) (h : Inv B0 W0 N WL B W r m a.tmps.toList) {t : TypeId} {x y : Operand} (ho : o.op = .store t x y)
    (hv : vop P Snd all o r m K E) : o.upon P a next Q ((execOp a.eval o).run P W) := by
  simp only [vop, ho] at hv
  have hrun : ∀ {W'}, (Instr.storeAt t (a.eval x) (a.eval y)).run P W = .ok () W' → (execOp a.eval o).run P W = .ok .skip W' := fun {W'} e => by
    simp only [execOp, ho, Sem.run_bind, e, Result.andThen_ok, Sem.run_pure]
  cases hdst : o.dst with
  | some d => rw [hdst] at hv; exact hv.elim
  | none =>
    rw [hdst] at hv
    simp only at hv
    suffices hs : ∃ W', (Instr.storeAt t (a.eval x) (a.eval y)).run P W = .ok () W' ∧ next a W' by
      obtain ⟨W', e, hk⟩ := hs
      exact upon_skip (hrun e) (by rw [hdst]; exact hk)
    unfold vstore at hv
    split at hv
    · rename_i k off hvx
      split at hv
      · exact vfreeze_s hv h fun B' r' m' h' hv => intoN_s hn hd h' hv
      · obtain ⟨hz, hv⟩ := chk hv
        split at hv
        · rename_i e; exact intoNil_s hn hd h hz e hv
        · split at hv
          · exact vname_s hv h fun B' r' m' h' hv => into1_s hn hd h' hz hv
          · exact vfreeze_s hv h fun B' r' m' h' hv => into1_s hn hd h' hz hv
        · exact into1_s hn hd h hz hv
    · exact vfreeze_s hv h fun B' r' m' h' hv => intoE_s hn hd h' hv
    · exact hv.elim

theorem load_s (hn : Next? B0 W0 N WL K next) (hd : a.defers = []) (h : Inv B0 W0 N WL B W r m a.tmps.toList) {t : TypeId} {x : Operand} (ho : o.op = .load t x)
    (hv : vop P Snd all o r m K E) : o.upon P a next Q ((execOp a.eval o).run P W) := by
  simp only [vop, ho] at hv
  split at hv
  · obtain ⟨c, hc, hv⟩ := optK_some hv
    exact vfreezeC_s hv h fun B' r' m' h' hv => vpure_up hn hd h' hv
  · exact vpure_up hn hd h hv

theorem sliceOp_s (hn : Next? B0 W0 N WL K next) (hd : a.defers = []) (h : Inv B0 W0 N WL B W r m a.tmps.toList) {t : TypeId} {x lo hi mx} (ho : o.op = .slice t x lo hi mx)
    (hv : vop P Snd all o r m K E) : o.upon P a next Q ((execOp a.eval o).run P W) := by
  simp only [vop, ho] at hv
  split at hv
  · exact vpure_up hn hd h hv
  · exact vfreeze_s hv h fun B' r' m' h' hv => vpure_up hn hd h' hv

theorem grownCap_ge' (w : World) (n : Nat) (e : TypeId) : n ≤ grownCap w n 0 e := grownCap_ge w n 0 e

theorem markStringish_s {b n : Nat} {arr : Array Value} {ty : TypeId} {fz : Nat × Nat} (hw : W.heap[b]? = some (.cells arr ty fz)) :
    ∃ W' fz', (markStringish ⟨b, n, none⟩).run P W = .ok () W' ∧ AtW W W' b (.cells arr ty fz') ∧ (UnF arr.size fz → UnF arr.size fz') := by
  refine ⟨W.freeze ⟨b, arr.size, none⟩ 1, if (fz.1 == fz.2) = true then (arr.size, arr.size + 1) else (min fz.1 arr.size, max fz.2 (arr.size + 1)), ?_, ?_, ?_⟩
  · unfold markStringish
    have hs : W.shape? b = some (ty, arr.size) := by simp [World.shape?, hw]
    simp only [Sem.run_bind, run_shape, hs, Result.andThen_ok, run_freeze]
  · refine ⟨by simp [World.freeze], fun k hk => ?_, ?_, rfl, rfl, rfl⟩
    · simp only [World.freeze, Nat.one_ne_zero, if_false, Array.getElem?_modify]
      rw [if_neg (fun e => hk e.symm)]
    · simp only [World.freeze, Nat.one_ne_zero, if_false, Array.getElem?_modify, if_true, hw, Option.map_some]
  · intro h
    by_cases e : fz.1 = fz.2
    · rw [if_pos (by simpa using e)]
      exact .inr (Nat.le_refl _)
    · rw [if_neg (by simpa using e)]
      rcases h with h | h
      · exact absurd h e
      · exact .inr (by simp only; omega)

theorem bytesNew_s (hn : Next? B0 W0 N WL K next) (hd : a.defers = []) (h : Inv B0 W0 N WL B W r m a.tmps.toList) {d : Nat} {e : TypeId} (s : ByteArray) (hv : vnew r m d (.int .u8) (numsOfStr s) K) :
    next (a.put (some d) (.slice (some ⟨W.heap.size, 0, none⟩) s.size (grownCap W s.size 0 e))) (W.drew.alloc (.cells (bytesRow s (grownCap W s.size 0 e)) e ((bytesRow s (grownCap W s.size 0 e)).size, (bytesRow s (grownCap W s.size 0 e)).size + 1))) := by
  have hl : (numsOfStr s).length = s.size := by simp [numsOfStr]
  have f1 := flat_ints (B := B) (W := W) .u8 (numsOfStr s)
  have hge := grownCap_ge' W s.size e
  have hsz : s.data.size = s.size := rfl
  have := vnew_row hn hd h hv (NewW.drew W (.cells (bytesRow s (grownCap W s.size 0 e)) e ((bytesRow s (grownCap W s.size 0 e)).size, (bytesRow s (grownCap W s.size 0 e)).size + 1))) f1 (cap := grownCap W s.size 0 e) (fun j v hj => by
    have hj' := (List.getElem?_eq_some_iff.1 hj).1
    simp only [List.length_map] at hj'
    unfold bytesRow
    rw [Array.getElem?_append_left (by rw [Array.size_map, hsz, ← hl]; exact hj'), ← Array.getElem?_toList]
    simpa [numsOfStr] using hj) (le_of_eq_of_le hl hge) (by
    show _ * 1 ≤ _
    unfold bytesRow
    rw [Array.size_append, Array.size_map, Array.size_replicate, hsz]
    omega) (.inr (Nat.le_refl _))
  rwa [show @List.length (Ty.int .u8).den (numsOfStr s) = s.size from hl] at this

theorem convert_s (hn : Next? B0 W0 N WL K next) (hd : a.defers = []) (h : Inv B0 W0 N WL B W r m a.tmps.toList) {src dst : TypeId} {x : Operand} (ho : o.op = .convert src dst x)
    (hv : vop P Snd all o r m K E) : o.upon P a next Q ((execOp a.eval o).run P W) := by
  simp only [vop, ho] at hv
  have hrun : ∀ {u : Value} {W'}, (convert src dst (a.eval x)).run P W = .ok u W' → (execOp a.eval o).run P W = .ok (.value u) W' := fun e => by
    simp only [execOp, ho, Sem.run_bind, e, Result.andThen_ok, Sem.run_pure]
  have hx := vval_rep h.regs x
  generalize hvx : vval r x = v at hv hx
  split at hv
  · rename_i s
    have hs := rep_str hx
    split at hv
    · rename_i e h1 h2
      split at hv
      · rename_i d h3 hdst
        obtain ⟨hz, hv⟩ := chk hv
        refine upon_val (hrun (by rw [hs]; exact run_bytes_of_string W src dst e s h1 h2 h3)) ?_
        rw [hdst]
        exact bytesNew_s hn hd h s hv
      · exact hv.elim
    · exact vpure_up hn hd h (by rw [← hvx] at *; exact hv)
  · rename_i w l
    split at hv
    · rename_i e0 e h1 h2
      split at hv
      · rename_i h3
        obtain ⟨hsd, hlt, hv9⟩ := chk hv
        obtain rfl := Nat.eq_of_beq_eq_true hsd
        rcases hx with ⟨e1, e2⟩ | ⟨b, cap, e1, hb, arr, ty, fz, g1, g2, g3, g4, g5⟩
        · subst e2; simp at hlt
        · obtain ⟨W', fz', hm, hat, hun⟩ := markStringish_s (P := P) (n := 0) g1
          have hr := hrun (u := a.eval x) (W' := W') (by
            rw [e1]
            simp only [convert, Sem.run_bind, run_underlying h2, run_underlying h3, Result.andThen_ok, beq_self_eq_true, hm, Sem.run_pure])
          refine upon_val hr ?_
          have hrow : ∀ {q : A0} {u : Value}, Rep0 B W q u → Rep0 B W' q u := by
            intro q u hq
            have hxx := atW_ext hat hb
            cases q with
            | al w' e' l' =>
              by_cases hw : w' = w
              · subst hw
                rcases hq with ⟨q1, q2⟩ | ⟨b', cap', q1, hb', arr', ty', fz2, p1, p2, p3, p4, p5⟩
                · exact .inl ⟨q1, q2⟩
                · obtain rfl := h.lab.rows b' b _ hb' hb
                  rw [g1] at p1; cases p1
                  refine .inr ⟨b', cap', q1, hb, arr, ty, fz', hat.here, hun p2, p3, p4, ?_⟩
                  intro i hi
                  obtain ⟨es, f1, f2⟩ := p5 i hi
                  refine ⟨es, RepC.ext hxx.s f1, fun j v hj => ?_⟩
                  have := f2 j v hj
                  rw [Addr.add_lit, cell_arr g1] at this
                  rw [Addr.add_lit, cell_arr hat.here]; exact this
              · exact Rep0.ext hxx (fun u hu hd => hw (hu.trans hd)) (fun _ _ h => h) hq
            | vp w' e' l' i' t' off' g' s' =>
              by_cases hw : w' = w
              · subst hw
                obtain ⟨b', cap', q1, hi', ⟨hb', arr', ty', fz2, p1, p2, p3, p4, p5⟩, hl⟩ := hq
                obtain rfl := h.lab.rows b' b _ hb' hb
                rw [g1] at p1; cases p1
                refine ⟨b', cap', q1, hi', ⟨hb, arr, ty, fz', hat.here, hun p2, p3, p4, ?_⟩, hl⟩
                intro i hi
                obtain ⟨es, f1, f2⟩ := p5 i hi
                refine ⟨es, RepC.ext hxx.s f1, fun j v hj => ?_⟩
                have := f2 j v hj
                rw [Addr.add_lit, cell_arr g1] at this
                rw [Addr.add_lit, cell_arr hat.here]; exact this
              · exact Rep0.ext hxx (fun u hu hd => hw (hu.trans hd)) (fun _ _ h => h) hq
            | undef => trivial
            | val t x => exact RepV.ext hxx.s hq
            | pv t x => exact Rep0.ext hxx (fun _ h => h.elim) (fun _ _ h => h) hq
            | full e l => exact Rep0.ext hxx (fun _ h => h.elim) (fun _ _ h => h) hq
            | sc v => exact hq
            | ptr k off => exact Rep0.ext hxx (fun _ h => h.elim) (fun _ _ h => h) hq
          have hi := h.turn (atW_ok h.lab hat) (atW_move hat (by rw [hb]; exact fun h => by cases h) (by rw [hb]; exact fun h => by cases h)) id (fun q v hq => hrow hq) (fun b' k hb' _ =>
            ⟨hb', hat.other b' (fun e => by subst e; rw [hb] at hb'; cases hb')⟩)
          rw [mmap_id, rmap_id] at hi
          refine vput_s hn hd hi hv9 (hrow (q := .al w (.int .u8) l) (.inr ⟨b, cap, e1, hb, arr, ty, fz, g1, g2, g3, g4, g5⟩))
      · exact hv.elim
    · exact vpure_up hn hd h (by rw [← hvx] at *; exact hv)
  · exact vpure_up hn hd h (by rw [← hvx] at *; exact hv)

theorem panicOp_s (he : Exc? B0 W0 N WL E Q) (hd : a.defers = []) (h : Inv B0 W0 N WL B W r m a.tmps.toList) {x : Operand} (ho : o.op = .panic x)
    (hv : vop P Snd all o r m K E) : o.upon P a next Q ((execOp a.eval o).run P W) := by
  simp only [vop, ho] at hv
  have hx := vval_rep h.regs x
  generalize vval r x = v at hv hx
  split at hv
  · have hx' := hx
    obtain ⟨u, e, hu⟩ := hx'
    have hrun : (execOp a.eval o).run P W = .halt (.panic (a.eval x)) W := by
      simp only [execOp, ho, Sem.run_bind, run_panic e, e]; rfl
    rw [hrun]
    exact he _ _ _ _ _ _ hd h.lab h.low h.move hx h.mem hv
  · exact hv.elim

end

end Go.V

namespace Go.V
set_option linter.unusedVariables false
set_option linter.unusedSimpArgs false

section
variable {B0 : Lab} {W0 : World} {N : Nat} {WL : World} {B : Lab} {W W' : World} {r : Regs} {m : Mem} {P : Program} {a : Act}
variable {K : Regs → Mem → Prop} {next : Act → World → Prop} {Q : Exit → Act → World → Prop} {o : Oper} {Snd : SND} {all : List Oper} {E : AV → Mem → Prop}

theorem nvOf_s {e : Ty} {v : AV} {u : Value} {l2 : List e.den} (h : nvOf e v = some l2) (hu : RepA B W v u) : ∃ cs, Flat (fun x es => RepC B W e x es) l2 cs ∧ Src P W e.sz u l2.length cs := by
  unfold nvOf at h
  split at h
  · rename_i y
    split at h
    · rename_i e' l hrow
      obtain ⟨he, rfl⟩ := cast_some h
      cases he
      exact src_row (rep_row hrow hu)
    · cases y with
      | val ty s =>
        cases ty with
        | str =>
          rw [rep_str hu]
          obtain ⟨he, rfl⟩ := cast_some h
          cases he
          exact ⟨_, src_str s⟩
        | _ => cases h
      | _ => cases h
  · cases h

theorem append_s (hn : Next? B0 W0 N WL K next) (hd : a.defers = []) (h : Inv B0 W0 N WL B W r m a.tmps.toList) {args : Array Operand} {ats : Array TypeId} (ho : o.op = .call { callee := .builtin .append, args, argTypes := ats })
    (hv : vop P Snd all o r m K E) : o.upon P a next Q ((execOp a.eval o).run P W) := by
  simp only [vop, ho] at hv
  split at hv
  · rename_i d s x t u hdst hargs hats
    obtain ⟨hu, hv⟩ := chk hv
    have hexec := call2 (a := a) ho hargs (f := Builtin.append_) (fun _ _ _ _ => rfl)
    have he : ats = #[t, u] := by rw [← Array.toArray_toList (xs := ats), hats]
    have hx := vval_rep h.regs x
    have hs := vval_rep h.regs s
    suffices hsuf : ∃ W' u', (Builtin.append_ #[t, u] o.type #[a.eval s, a.eval x]).run P W = .ok u' W' ∧ next (a.put (some d) u') W' by
      obtain ⟨W', u', h1, h2⟩ := hsuf
      have hrun : (execOp a.eval o).run P W = .ok (.value u') W' := by
        rw [hexec, he]
        simp only [Sem.run_bind, h1, Result.andThen_ok, Sem.run_pure]
      exact upon_val hrun (by rw [hdst]; exact h2)
    unfold vappend at hv
    split at hv
    · rename_i el ht
      generalize hvs : vval r s = vs at hv hs
      split at hv
      · rename_i w e l
        obtain ⟨hz, hv⟩ := chk hv
        obtain ⟨l2, hl2, hfit, hv⟩ := optK_some hv
        rw [Bool.and_eq_true] at hz
        simp only [mapS_eq, fs_eq] at hv
        obtain ⟨cs, hf, hsrc⟩ := nvOf_s (P := P) hl2 hx
        obtain ⟨W', u', B', h1, h2, h3⟩ := append_own (P := P) (ty := o.type) h ht hu hz.1 hz.2 hs hsrc hf hfit
        exact ⟨W', u', h1, hn _ _ _ _ _ hd (h2.set (v := .lf (.al w e (l ++ l2))) h3 d) hv⟩
      · rename_i e l
        obtain ⟨hz, hv⟩ := chk hv
        obtain ⟨l2, hl2, ⟨hfit, hpos⟩, hv⟩ := optK_some hv
        rw [Bool.and_eq_true] at hz
        obtain ⟨cs, hf, hsrc⟩ := nvOf_s (P := P) hl2 hx
        have hk := h.kill (.sl d)
        have hxx := (killL_ext B W (.sl d)).s
        have hrow := rep_row (a := .full e l) rfl (Rep0.kill (killL_ext B W (.sl d)) hs : Rep0 _ _ (A0.kill (.sl d) (.full e l)) _)
        obtain ⟨W', u', h1, h2, h3⟩ := append_new (P := P) (ty := o.type) hk (killL_no _) ht hu hz.1 hz.2 hrow (fun p n c e => by
          obtain ⟨q, e', _⟩ := hs
          rw [e'] at e; cases e; omega) hsrc (hf.imp fun x c hr => RepC.ext hxx hr) hfit
        exact ⟨W', u', h1, hn _ _ _ _ _ hd (h2.set (v := .lf (.al (.sl d) e (l ++ l2))) h3 d) (vnew_mk hv)⟩
      · obtain ⟨e, he', hv⟩ := optK_some hv
        obtain ⟨hz, hv⟩ := chk hv
        obtain ⟨l2, hl2, hfit, hv⟩ := optK_some hv
        rw [Bool.and_eq_true] at hz
        obtain ⟨cs, hf, hsrc⟩ := nvOf_s (P := P) hl2 hx
        have hk := h.kill (.sl d)
        have hxx := (killL_ext B W (.sl d)).s
        rw [sc_nil hs]
        obtain ⟨W', u', B', h1, h2, h3⟩ := append_own (P := P) (ty := o.type) (w := .sl d) (l := []) h ht hu hz.1 hz.2 (.inl ⟨rfl, rfl⟩) hsrc hf (by simpa using hfit)
        exact ⟨W', u', h1, hn _ _ _ _ _ hd (h2.set (v := .lf (.al (.sl d) e l2)) h3 d) (vnew_mk hv)⟩
      · exact hv.elim
    · exact hv.elim
  · exact hv.elim

theorem flat_replicate {α : Type} {R : α → List Value → Prop} {x : α} {c : List Value} (h : R x c) : ∀ n, Flat R (List.replicate n x) ((List.replicate n c).flatten)
  | 0 => rfl
  | n + 1 => by rw [List.replicate_succ, List.replicate_succ, List.flatten_cons]; exact ⟨c, _, rfl, h, flat_replicate h n⟩

theorem makeSlice_s (hn : Next? B0 W0 N WL K next) (hd : a.defers = []) (h : Inv B0 W0 N WL B W r m a.tmps.toList) {t : TypeId} {x y : Operand} (ho : o.op = .makeSlice t x y)
    (hv : vop P Snd all o r m K E) : o.upon P a next Q ((execOp a.eval o).run P W) := by
  simp only [vop, ho] at hv
  split at hv
  · rename_i d el hdst hu
    obtain ⟨T, hT, hv1⟩ := optK_some hv
    obtain ⟨z, hz, hv2⟩ := optK_some hv1
    obtain ⟨hchk, hv3⟩ := chk hv2
    obtain ⟨k1, n, hn1, hv4⟩ := isNat_s hv3 (vval_rep h.regs x)
    obtain ⟨k2, c, hn2, hv5⟩ := isNat_s hv4 (vval_rep h.regs y)
    obtain ⟨⟨v0, rest⟩, hp, hv6⟩ := optK_some hv5
    obtain ⟨he, ⟨h0, hnc, hfit⟩, hv7⟩ := chk hv6
    subst hnc
    rw [Bool.and_eq_true] at hchk
    obtain ⟨i, hi, hs⟩ := szIs_eq hchk.1
    obtain ⟨zv, hzv, hzc⟩ := zeroCells_s hz
    have hzl := Nat.eq_of_beq_eq_true hchk.2
    have hzs : zv.cells.size = T.sz := by rw [← hzl, ← hzc]; simp
    obtain ⟨cs, vs', hvs, hcr, hrest⟩ := packT_s (B := B) (W := W) hp (valCells_rep z)
    have : vs' = [] := by
      simp only [List.isEmpty_iff] at he
      subst he
      cases hrest; rfl
    subst this
    rw [List.append_nil] at hvs
    subst hvs
    have hby : P.bytesOf el = i.bytes := by simp [Program.bytesOf, hi]
    have hb := hfit.2
    rw [hby] at hb
    have hn63 := hfit.1
    have hni : (n.toNat : Int) = n := Int.toNat_of_nonneg h0
    have hnb : (i.bytes : Int) * n ≤ 281474976710656 := by
      rw [← hni, Int.mul_comm, ← Int.natCast_mul]; omega
    have hw64 : IntKind.i64.wrap n = n := by
      simp only [IntKind.wrap, IntKind.bits, IntKind.signed]
      simp
      omega
    have hcells : ((Array.range (n.toNat * T.sz)).map fun i => zv.cells[i % zv.cells.size]!).toList = (List.replicate n.toNat z).flatten := by
      rw [← hzs, range_mod, hzc]
    have hrun : (execOp a.eval o).run P W = .ok (.value (.slice (some ⟨W.heap.size, 0, none⟩) n.toNat n.toNat)) (W.alloc (.cells ((Array.range (n.toNat * T.sz)).map fun i => zv.cells[i % zv.cells.size]!) el)) := by
      have t1 : ¬ (n < 0) := by omega
      have t2 : ¬ (281474976710656 < (i.bytes : Int) * n) := by omega
      simp only [execOp, ho, Instr.makeSlice, Sem.run_bind, run_underlying hu, Result.andThen_ok, hn1, hn2, asInt, asIntOf, Sem.run_pure, typeInfo, run_program, hi, hw64]
      simp [t1, t2, h0, hzv, hi, run_size hi, hs]
      by_cases hz0 : n.toNat * T.sz = 0
      · rw [if_pos hz0]
        have he : ∀ f : Nat → Value, (Array.range (n.toNat * T.sz)).map f = #[] := by
          intro f; rw [hz0]; simp
        simp only [newRow, Sem.run_bind, run_newObj, Result.andThen_ok, Sem.run_pure]
        rw [he, he]
        rfl
      · rw [if_neg hz0]
        simp only [newRow, Sem.run_bind, run_newObj, Result.andThen_ok, Sem.run_pure]
        rfl
    refine upon_val hrun ?_
    rw [hdst]
    have hflat := flat_replicate (R := fun x es => RepC B W T x es) hcr n.toNat
    have hl : (List.replicate n.toNat v0).length = n.toNat := by simp
    have := vnew_row hn hd h hv7 (NewW.alloc W (.cells _ el)) hflat (cap := n.toNat) (fun j v hj => by rw [← Array.getElem?_toList, hcells]; exact hj) (by rw [hl]; exact Nat.le_refl _) (by simp) (.inl rfl)
    rwa [hl] at this
  · exact hv.elim

theorem panicCall_s (he : Exc? B0 W0 N WL E Q) (hd : a.defers = []) (h : Inv B0 W0 N WL B W r m a.tmps.toList) {args : Array Operand} {ats : Array TypeId} (ho : o.op = .call { callee := .builtin .panic, args, argTypes := ats })
    (hv : vop P Snd all o r m K E) : o.upon P a next Q ((execOp a.eval o).run P W) := by
  simp only [vop, ho] at hv
  split at hv
  · rename_i x hargs
    have hx := vval_rep h.regs x
    generalize vval r x = v at hv hx
    split at hv
    · have hx' := hx
      obtain ⟨u, e, hu⟩ := hx'
      obtain rfl : args = #[x] := by rw [← Array.toArray_toList (xs := args), hargs]
      have hrun : (execOp a.eval o).run P W = .halt (.panic (a.eval x)) W := by
        simp [execOp, ho, resolve, invoke, builtin, e]
        rw [run_panic rfl]; rfl
      rw [hrun]
      exact he _ _ _ _ _ _ hd h.lab h.low h.move hx h.mem hv
    · exact hv.elim
  · exact hv.elim

def isCall : Op → Bool
  | .call { callee := .value _, .. } => true
  | _ => false

theorem vop_s0 (hn : Next? B0 W0 N WL K next) (he : Exc? B0 W0 N WL E Q) (hd : a.defers = []) (h : Inv B0 W0 N WL B W r m a.tmps.toList) (hc : isCall o.op = false)
    (hv : vop P Snd all o r m K E) : o.upon P a next Q ((execOp a.eval o).run P W) := by
  cases ho : o.op
  case assign x => exact assign_s hn hd h ho hv
  case pick c x y => exact pick_s hn hd h ho hv
  case alloc t => exact allocOp_s hn hd h ho hv
  case box t x => exact boxOp_s hn hd h ho hv
  case build t ps => exact build_s hn hd h ho hv
  case buildSlice t n ps => exact buildSlice_s hn hd h ho hv
  case makeSlice t x y => exact makeSlice_s hn hd h ho hv
  case store t x y => exact store_s hn hd h ho hv
  case load t x => exact load_s hn hd h ho hv
  case slice t x lo hi mx => exact sliceOp_s hn hd h ho hv
  case convert s d x => exact convert_s hn hd h ho hv
  case panic x => exact panicOp_s he hd h ho hv
  case call c =>
    obtain ⟨callee, args, ats⟩ := c
    cases callee with
    | value f => rw [ho] at hc; cases hc
    | invoke x n => simp only [vop, ho] at hv; exact vpure_up hn hd h hv
    | builtin b =>
      cases b
      case append => exact append_s hn hd h ho hv
      case panic => exact panicCall_s he hd h ho hv
      all_goals (simp only [vop, ho] at hv; exact vpure_up hn hd h hv)
  all_goals (simp only [vop, ho] at hv; exact vpure_up hn hd h hv)

end

end Go.V

namespace Go.V
set_option linter.unusedVariables false
set_option linter.unusedSimpArgs false

def Callable (P : Program) (f : FuncId) : Prop := ∃ fn, P.funcs[f]? = some fn ∧ (fn.name == "runtime.NumGoroutine") = false ∧ fn.body.isNone = false

def EndRep (B : Lab) (W : World) : Ending → Out → Prop
  | .returned u, .ret v m => RepA B W v u ∧ MemOK B W m
  | .panicked chain, .panic v m => ∃ u, chain = [{ v := u, recovered := false }] ∧ RepA B W v u ∧ MemOK B W m
  | _, _ => False

/-- Function f, called with xs and the objects m, ends in Q. (N, WL: the law's beginning.) -/
def Sound (P : Program) (N : Nat) (WL : World) (f : FuncId) (xs : List AV) (m : Mem) (Q : Out → Prop) : Prop :=
  Callable P f ∧ ∀ (B : Lab) (W : World) (vs : List Value), LabOK B W → Low N WL B W → All2 (RepA B W) xs vs → MemOK B W m →
    Calls P f vs.toArray W fun e W' => ∃ o B', Q o ∧ LabOK B' W' ∧ Low N WL B' W' ∧ Move B W B' W' ∧ EndRep B' W' e o

theorem Sound.mono {P : Program} {N : Nat} {WL : World} {f : FuncId} {xs : List AV} {m : Mem} {Q Q' : Out → Prop} (h : Sound P N WL f xs m Q) (hq : ∀ o, Q o → Q' o) : Sound P N WL f xs m Q' :=
  ⟨h.1, fun B W vs h1 h2 h3 h4 => (h.2 B W vs h1 h2 h3 h4).mono fun e W' ⟨o, B', q, r⟩ => ⟨o, B', hq o q, r⟩⟩

theorem idxOf_get {k : Nat} : ∀ {l : List Nat} {j i : Nat}, idxOf k l j = some i → ∃ n, i = j + n ∧ l[n]? = some k
  | [], _, _, h => by simp [idxOf] at h
  | x :: l, j, i, h => by
    simp only [idxOf] at h
    cases e : Nat.beq x k with
    | true =>
      rw [e] at h
      simp only [cond_true, Option.some.injEq] at h
      exact ⟨0, by omega, by rw [Nat.eq_of_beq_eq_true e]; rfl⟩
    | false =>
      rw [e] at h
      simp only [cond_false] at h
      obtain ⟨n, rfl, hn⟩ := idxOf_get h
      exact ⟨n + 1, by omega, by simpa using hn⟩

theorem idxOf_none {k : Nat} : ∀ {l : List Nat} {j : Nat}, idxOf k l j = none → k ∉ l
  | [], _, _ => by simp
  | x :: l, j, h => by
    simp only [idxOf] at h
    cases e : Nat.beq x k with
    | true => rw [e] at h; simp at h
    | false =>
      rw [e] at h
      simp only [cond_false] at h
      intro hm
      rcases List.mem_cons.1 hm with rfl | hm
      · rw [Nat.beq_refl] at e; cases e
      · exact idxOf_none h hm

theorem nodup_of : ∀ {l : List Nat}, nodupN l = true → l.Nodup
  | [], _ => by simp
  | x :: l, h => by
    simp only [nodupN, Bool.and_eq_true, Bool.not_eq_true', Option.isSome_eq_false_iff, Option.isNone_iff_eq_none] at h
    exact List.nodup_cons.2 ⟨idxOf_none h.1, nodup_of h.2⟩

theorem get_inj {l : List Nat} (h : l.Nodup) {i j k : Nat} (hi : l[i]? = some k) (hj : l[j]? = some k) : i = j := by
  obtain ⟨h1, e1⟩ := List.getElem?_eq_some_iff.1 hi
  obtain ⟨h2, e2⟩ := List.getElem?_eq_some_iff.1 hj
  exact (List.getElem_inj h).1 (e1.trans e2.symm)

theorem mvOf_mem {w : Ow} {i : Nat} : ∀ {l : List (Ow × Nat)}, mvOf w l = some i → (w, i) ∈ l
  | [], h => by simp [mvOf] at h
  | (u, j) :: l, h => by
    simp only [mvOf] at h
    split at h
    · rename_i e; cases h; subst e; exact List.mem_cons_self
    · exact List.mem_cons_of_mem _ (mvOf_mem h)

theorem mvOK_inj {ks : List Nat} : ∀ {mv : List (Ow × Nat)}, mvOK ks mv = true → ∀ {w u : Ow} {i : Nat}, (w, i) ∈ mv → (u, i) ∈ mv → w = u
  | [], _, _, _, _, h, _ => by simp at h
  | (x, j) :: l, hok, w, u, i, hw, hu => by
    simp only [mvOK, Bool.and_eq_true, Bool.not_eq_true', Option.isSome_eq_false_iff, Option.isNone_iff_eq_none] at hok
    obtain ⟨⟨⟨h1, h2⟩, h3⟩, h4⟩ := hok
    have hn : ∀ {q : Ow}, (q, j) ∈ l → False := fun hq => by
      have : (l.map (·.2)).contains j = true := by
        rw [List.contains_iff_mem]
        exact List.mem_map.2 ⟨_, hq, rfl⟩
      rw [h2] at this; cases this
    rcases List.mem_cons.1 hw with e1 | hw' <;> rcases List.mem_cons.1 hu with e2 | hu'
    · cases e1; cases e2; rfl
    · cases e1; exact (hn hu').elim
    · cases e2; exact (hn hw').elim
    · exact mvOK_inj h4 hw' hu'

theorem inOw_inj {ks : List Nat} {mv : List (Ow × Nat)} (hok : mvOK ks mv = true) {w u x : Ow} (h1 : inOw ks mv w = some x) (h2 : inOw ks mv u = some x) : w = u := by
  unfold inOw at h1 h2
  cases e1 : mvOf w mv with
  | some i =>
    rw [e1] at h1
    cases h1
    cases e2 : mvOf u mv with
    | some j =>
      rw [e2] at h2
      cases h2
      exact mvOK_inj hok (mvOf_mem e1) (mvOf_mem e2)
    | none =>
      rw [e2] at h2
      cases u <;> simp at h2
  | none =>
    rw [e1] at h1
    cases w with
    | ce k o =>
      simp only [Option.map_eq_some_iff] at h1
      obtain ⟨j, hj, rfl⟩ := h1
      cases e2 : mvOf u mv with
      | some i => rw [e2] at h2; cases h2
      | none =>
        rw [e2] at h2
        cases u with
        | ce k' o' =>
          simp only [Option.map_eq_some_iff, Ow.ce.injEq] at h2
          obtain ⟨j', hj', h2, rfl⟩ := h2
          obtain ⟨n, rfl, hn⟩ := idxOf_get hj
          obtain ⟨n', rfl, hn'⟩ := idxOf_get hj'
          have : n = n' := by omega
          subst this
          rw [hn] at hn'
          cases hn'
          rfl
        | _ => simp at h2
    | _ => simp at h1

def inLab (ks : List Nat) (mv : List (Ow × Nat)) (B : Lab) : Lab := fun b => match B b with
  | .st => .st
  | .no => .no
  | .row w => match inOw ks mv w with | some w' => .row w' | none => .no
  | .obj k => match idxOf k ks 0 with | some j => .obj (1000 + j) | none => .no

section
variable {B : Lab} {W W' : World} {ks : List Nat} {mv : List (Ow × Nat)} {N : Nat} {WL : World} {m : Mem}

theorem inLab_row {b : Nat} {x : Ow} (h : inLab ks mv B b = .row x) : ∃ w, B b = .row w ∧ inOw ks mv w = some x := by
  unfold inLab at h
  split at h
  · cases h
  · cases h
  · rename_i w hw
    split at h
    · rename_i w' hw'; cases h; exact ⟨w, hw, hw'⟩
    · cases h
  · split at h <;> cases h
theorem inLab_obj {b j : Nat} (h : inLab ks mv B b = .obj j) : ∃ k i, B b = .obj k ∧ idxOf k ks 0 = some i ∧ j = 1000 + i := by
  unfold inLab at h
  split at h
  · cases h
  · cases h
  · split at h <;> cases h
  · rename_i k hk
    split at h
    · rename_i i hi; cases h; exact ⟨k, i, hk, hi, rfl⟩
    · cases h
theorem inLab_st {b : Nat} (h : inLab ks mv B b = .st) : B b = .st := by
  unfold inLab at h
  split at h
  · assumption
  · cases h
  · split at h <;> cases h
  · split at h <;> cases h

theorem inLab_ok (h : LabOK B W) (hok : mvOK ks mv = true) : LabOK (inLab ks mv B) W where
  dom := fun b hb => h.dom b (fun e => hb (by simp [inLab, e]))
  rows := fun b b' x h1 h2 => by
    obtain ⟨w, e1, f1⟩ := inLab_row h1
    obtain ⟨u, e2, f2⟩ := inLab_row h2
    obtain rfl := inOw_inj hok f1 f2
    exact h.rows b b' _ e1 e2
  objs := fun b b' j h1 h2 => by
    obtain ⟨k, i, e1, f1, rfl⟩ := inLab_obj h1
    obtain ⟨k', i', e2, f2, g2⟩ := inLab_obj h2
    obtain ⟨n, rfl, hn⟩ := idxOf_get f1
    obtain ⟨n', rfl, hn'⟩ := idxOf_get f2
    have : n = n' := by omega
    subst this
    rw [hn] at hn'
    cases hn'
    exact h.objs b b' _ e1 e2

theorem inLab_low (h : Low N WL B W) : Low N WL (inLab ks mv B) W :=
  ⟨h.below, h.size, fun b hb => (h.lab b hb).imp (fun e => by simp [inLab, e]) fun e => by simp [inLab, e]⟩

theorem inLab_s : ExtS B W (inLab ks mv B) W := ⟨fun b h => ⟨by simp [inLab, h], rfl⟩⟩

theorem RowBlk.into {w x : Ow} (hw : inOw ks mv w = some x) {e : Ty} {l : List e.den} {cap b : Nat} (h : RowBlk B W w e l cap b) : RowBlk (inLab ks mv B) W x e l cap b := by
  obtain ⟨hb, arr, ty, fz, h1, h2, h3, h4, h5⟩ := h
  exact ⟨by simp [inLab, hb, hw], arr, ty, fz, h1, h2, h3, h4, h5.mono (fun x es _ h => RepC.ext inLab_s h) rfl⟩

theorem Rep0.into {q : A0} {v : Value} (h : Rep0 B W q v) : Rep0 (inLab ks mv B) W (q.into ks mv) v := by
  have keepS : ∀ {q : A0}, (∀ w, ¬ q.has w) → (∀ k, ¬ q.at k) → Rep0 B W q v → Rep0 (inLab ks mv B) W q v := fun h1 h2 h =>
    Rep0.ext (dr := fun _ => True) (dk := fun _ => True) ⟨fun b hb => ⟨by simp [inLab, hb], rfl⟩, fun b w hb hn => (hn trivial).elim, fun b k hb hn => (hn trivial).elim⟩ (fun w hw => (h1 w hw).elim) (fun k hk => (h2 k hk).elim) h
  cases q with
  | al w e l =>
    simp only [A0.into]
    split
    · rename_i x hx
      rcases h with h | ⟨b, cap, rfl, h⟩
      · exact .inl h
      · exact .inr ⟨b, cap, rfl, h.into hx⟩
    · trivial
  | vp w e l i t off g s => trivial
  | ptr k off =>
    simp only [A0.into]
    split
    · rename_i j hj
      obtain ⟨b, hb, rfl⟩ := h
      exact ⟨b, by simp [inLab, hb, hj], rfl⟩
    · trivial
  | undef => trivial
  | val t x => exact keepS (fun _ h => h) (fun _ h => h) h
  | pv t x => exact keepS (fun _ h => h) (fun _ h => h) h
  | full e l => exact keepS (fun _ h => h) (fun _ h => h) h
  | sc v => exact h

theorem subM_ok (hm : MemOK B W m) (hks : ∀ n k, ks[n]? = some k → idxOf k ks 0 = some n) : ∀ {l : List Nat} {j : Nat}, (∀ n k, l[n]? = some k → ks[j + n]? = some k) → (∀ k ∈ l, (mget m k).isSome = true) →
    ((subM m ks mv l j).map (·.1)).Nodup ∧ (∀ p ∈ subM m ks mv l j, 1000 + j ≤ p.1) ∧ ∀ p ∈ subM m ks mv l j, ∃ b arr ty, inLab ks mv B b = .obj p.1 ∧ W.heap[b]? = some (.cells arr ty (0, 0)) ∧ All2 (Rep0 (inLab ks mv B) W) p.2 arr.toList
  | [], j, _, _ => ⟨by simp [subM], by simp [subM], by simp [subM]⟩
  | k :: l, j, hl, hs => by
    obtain ⟨h1, h2, h3⟩ := subM_ok hm hks (l := l) (j := j + 1) (fun n k hk => by
      have := hl (n + 1) k (by simpa using hk)
      rwa [show j + 1 + n = j + (n + 1) by omega]) (fun k hk => hs k (List.mem_cons_of_mem _ hk))
    simp only [subM]
    refine ⟨?_, ?_, ?_⟩
    · rw [List.map_cons]
      refine List.nodup_cons.2 ⟨fun hm => ?_, h1⟩
      obtain ⟨p, hp, e⟩ := List.mem_map.1 hm
      have := h2 p hp
      simp only at e; omega
    · intro p hp
      rcases List.mem_cons.1 hp with rfl | hp
      · exact Nat.le_refl _
      · have := h2 p hp; omega
    · intro p hp
      rcases List.mem_cons.1 hp with rfl | hp
      · obtain ⟨c, hc⟩ := Option.isSome_iff_exists.1 (hs k List.mem_cons_self)
        obtain ⟨b, arr, ty, hb, hw, hcs⟩ := hm.2 _ (mget_some hc)
        have hj := hks j k (by simpa using hl 0 k rfl)
        refine ⟨b, arr, ty, by simp only at hb ⊢; simp [inLab, hb, hj], hw, ?_⟩
        rw [hc]
        exact forall2_map hcs fun a v ha => Rep0.into ha
      · exact h3 p hp

end

end Go.V

namespace Go.V
set_option linter.unusedVariables false
set_option linter.unusedSimpArgs false

def stripL (d : Nat) : Lbl → Lbl
  | .row w => match newOw d w with | true => .no | false => .row w
  | .obj k => match Nat.beq k (3000 + d) with | true => .no | false => .obj k
  | x => x

def backL (ks : List Nat) (d : Nat) : Lbl → Lbl
  | .row w => match backOw ks d w with | some w' => .row w' | none => .no
  | .obj k => match backKey ks d k with | some k' => .obj k' | none => .no
  | x => x

def outLab (ks : List Nat) (mv : List (Ow × Nat)) (d n : Nat) (B B' : Lab) : Lab := fun b =>
  match Nat.blt b n, inLab ks mv B b with
  | true, .no => stripL d (B b)
  | _, _ => backL ks d (B' b)

section
variable {B B' : Lab} {W W' : World} {ks : List Nat} {mv : List (Ow × Nat)} {N : Nat} {WL : World} {m m' : Mem} {d : Nat}

theorem idxOf_isSome {k : Nat} : ∀ {l : List Nat} {j : Nat}, k ∈ l → ∃ i, idxOf k l j = some i
  | x :: l, j, h => by
    simp only [idxOf]
    cases e : Nat.beq x k with
    | true => exact ⟨j, rfl⟩
    | false =>
      simp only [cond_false]
      rcases List.mem_cons.1 h with rfl | h
      · rw [Nat.beq_refl] at e; cases e
      · exact idxOf_isSome h

theorem beqF {a b : Nat} (h : a ≠ b) : Nat.beq a b = false := by
  cases e : Nat.beq a b
  · rfl
  · exact absurd (Nat.eq_of_beq_eq_true e) h

theorem backKey_s {k k' : Nat} (h : backKey ks d k = some k') : (k = 2000 ∧ k' = 3000 + d) ∨ (k ≠ 2000 ∧ 1000 ≤ k ∧ ks[k - 1000]? = some k') := by
  unfold backKey at h
  cases e : Nat.beq k 2000 with
  | true => rw [e] at h; simp only [cond_true, Option.some.injEq] at h; exact .inl ⟨Nat.eq_of_beq_eq_true e, h.symm⟩
  | false =>
    rw [e] at h
    simp only [cond_false] at h
    refine .inr ⟨fun e' => ?_, ?_⟩
    · subst e'; cases e
    · cases e1 : Nat.ble 1000 k with
      | true => rw [e1] at h; exact ⟨Nat.le_of_ble_eq_true e1, h⟩
      | false => rw [e1] at h; cases h

theorem backKey_inj (hk : ks.Nodup) (hd : 3000 + d ∉ ks) {k j x : Nat} (h1 : backKey ks d k = some x) (h2 : backKey ks d j = some x) : k = j := by
  rcases backKey_s h1 with ⟨rfl, rfl⟩ | ⟨n1, l1, e1⟩ <;> rcases backKey_s h2 with ⟨rfl, e⟩ | ⟨n2, l2, e2⟩
  · rfl
  · exact absurd (List.mem_of_getElem? e2) hd
  · subst e; exact absurd (List.mem_of_getElem? e1) hd
  · have := get_inj hk e1 e2; omega

theorem backOw_inj (hk : ks.Nodup) (hd : 3000 + d ∉ ks) {u v w : Ow} (h1 : backOw ks d u = some w) (h2 : backOw ks d v = some w) : u = v := by
  cases u with
  | sl _ => simp [backOw] at h1
  | tp _ _ => simp [backOw] at h1
  | rt j =>
    cases v with
    | sl _ => simp [backOw] at h2
    | tp _ _ => simp [backOw] at h2
    | rt i => cases j <;> cases i <;> simp [backOw] at h1 h2 <;> subst h1 <;> simp_all
    | ce k o =>
      simp only [backOw, Option.map_eq_some_iff] at h2
      obtain ⟨_, _, rfl⟩ := h2
      cases j <;> simp [backOw] at h1
  | ce k o =>
    simp only [backOw, Option.map_eq_some_iff] at h1
    obtain ⟨k', hk', rfl⟩ := h1
    cases v with
    | sl _ => simp [backOw] at h2
    | tp _ _ => simp [backOw] at h2
    | rt i => cases i <;> simp [backOw] at h2
    | ce j p =>
      simp only [backOw, Option.map_eq_some_iff, Ow.ce.injEq] at h2
      obtain ⟨j', hj', rfl, rfl⟩ := h2
      rw [backKey_inj hk hd hk' hj']

/-- what comes back was given, or is new -/
theorem backOw_s {u w : Ow} (h : backOw ks d u = some w) : newOw d w = true ∨ (inOw ks mv w).isSome = true := by
  cases u with
  | sl _ => simp [backOw] at h
  | tp _ _ => simp [backOw] at h
  | rt j => cases j <;> simp [backOw] at h <;> subst h <;> exact .inl (Nat.beq_refl d)
  | ce k o =>
    simp only [backOw, Option.map_eq_some_iff] at h
    obtain ⟨k', hk', rfl⟩ := h
    rcases backKey_s hk' with ⟨rfl, rfl⟩ | ⟨n1, l1, e1⟩
    · exact .inl (Nat.beq_refl _)
    · right
      unfold inOw
      split
      · rfl
      · obtain ⟨i, hi⟩ := idxOf_isSome (j := 0) (List.mem_of_getElem? e1)
        simp [hi]

theorem inLab_no_row {b : Nat} {w : Ow} (hb : B b = .row w) : inLab ks mv B b = .no ↔ (inOw ks mv w).isSome = false := by
  unfold inLab
  rw [hb]
  cases e : inOw ks mv w <;> simp [e]
theorem inLab_no_obj {b k : Nat} (hb : B b = .obj k) : inLab ks mv B b = .no ↔ k ∉ ks := by
  unfold inLab
  rw [hb]
  simp only
  split
  · rename_i j hj
    obtain ⟨n, rfl, hn⟩ := idxOf_get hj
    simp [List.mem_of_getElem? hn]
  · rename_i hj; simp [idxOf_none hj]

theorem outLab_strip {n b : Nat} (h1 : b < n) (h2 : inLab ks mv B b = .no) : outLab ks mv d n B B' b = stripL d (B b) := by
  unfold outLab
  have : Nat.blt b n = true := by simpa [Nat.blt_eq] using h1
  rw [this, h2]
theorem outLab_back {n b : Nat} (h : ¬ (b < n ∧ inLab ks mv B b = .no)) : outLab ks mv d n B B' b = backL ks d (B' b) := by
  unfold outLab
  split
  · rename_i e1 e2
    exact (h ⟨by simpa [Nat.blt_eq] using e1, e2⟩).elim
  · rfl

theorem stripL_row {x : Lbl} {w : Ow} (h : stripL d x = .row w) : x = .row w ∧ newOw d w = false := by
  unfold stripL at h
  split at h
  · split at h
    · cases h
    · rename_i e; cases h; exact ⟨rfl, e⟩
  · split at h <;> cases h
  · rename_i n1 n2; exact absurd h (n1 w)
theorem stripL_obj {x : Lbl} {k : Nat} (h : stripL d x = .obj k) : x = .obj k ∧ k ≠ 3000 + d := by
  unfold stripL at h
  split at h
  · split at h <;> cases h
  · split at h
    · cases h
    · rename_i e; cases h; exact ⟨rfl, fun e' => by subst e'; rw [Nat.beq_refl] at e; cases e⟩
  · rename_i n1 n2; exact absurd h (n2 k)
theorem backL_row {x : Lbl} {w : Ow} (h : backL ks d x = .row w) : ∃ u, x = .row u ∧ backOw ks d u = some w := by
  unfold backL at h
  split at h
  · split at h
    · rename_i e; cases h; exact ⟨_, rfl, e⟩
    · cases h
  · split at h <;> cases h
  · rename_i n1 n2; exact absurd h (n1 w)
theorem backL_obj {x : Lbl} {k : Nat} (h : backL ks d x = .obj k) : ∃ j, x = .obj j ∧ backKey ks d j = some k := by
  unfold backL at h
  split at h
  · split at h <;> cases h
  · split at h
    · rename_i e; cases h; exact ⟨_, rfl, e⟩
    · cases h
  · rename_i n1 n2; exact absurd h (n2 k)

theorem outLab_row {n b : Nat} {w : Ow} (h : outLab ks mv d n B B' b = .row w) :
    (B b = .row w ∧ newOw d w = false ∧ (inOw ks mv w).isSome = false) ∨ ∃ u, B' b = .row u ∧ backOw ks d u = some w := by
  by_cases hc : b < n ∧ inLab ks mv B b = .no
  · rw [outLab_strip hc.1 hc.2] at h
    obtain ⟨e1, e2⟩ := stripL_row h
    exact .inl ⟨e1, e2, (inLab_no_row e1).1 hc.2⟩
  · rw [outLab_back hc] at h
    exact .inr (backL_row h)
theorem outLab_obj {n b k : Nat} (h : outLab ks mv d n B B' b = .obj k) :
    (B b = .obj k ∧ k ≠ 3000 + d ∧ k ∉ ks) ∨ ∃ j, B' b = .obj j ∧ backKey ks d j = some k := by
  by_cases hc : b < n ∧ inLab ks mv B b = .no
  · rw [outLab_strip hc.1 hc.2] at h
    obtain ⟨e1, e2⟩ := stripL_obj h
    exact .inl ⟨e1, e2, (inLab_no_obj e1).1 hc.2⟩
  · rw [outLab_back hc] at h
    exact .inr (backL_obj h)

theorem outLab_ok (h : LabOK B W) (h' : LabOK B' W') (hsz : W.heap.size ≤ W'.heap.size) (hk : ks.Nodup) (hd : 3000 + d ∉ ks) : LabOK (outLab ks mv d W.heap.size B B') W' where
  dom := fun b hb => by
    by_cases hc : b < W.heap.size ∧ inLab ks mv B b = .no
    · exact Nat.lt_of_lt_of_le hc.1 hsz
    · rw [outLab_back hc] at hb
      exact h'.dom b fun e => hb (by rw [e]; rfl)
  rows := fun b b' w h1 h2 => by
    rcases outLab_row h1 with ⟨e1, n1, i1⟩ | ⟨u1, e1, k1⟩ <;> rcases outLab_row h2 with ⟨e2, n2, i2⟩ | ⟨u2, e2, k2⟩
    · exact h.rows b b' w e1 e2
    · rcases backOw_s (mv := mv) k2 with q | q
      · rw [n1] at q; cases q
      · rw [i1] at q; cases q
    · rcases backOw_s (mv := mv) k1 with q | q
      · rw [n2] at q; cases q
      · rw [i2] at q; cases q
    · obtain rfl := backOw_inj hk hd k1 k2
      exact h'.rows b b' _ e1 e2
  objs := fun b b' k h1 h2 => by
    rcases outLab_obj h1 with ⟨e1, n1, i1⟩ | ⟨u1, e1, k1⟩ <;> rcases outLab_obj h2 with ⟨e2, n2, i2⟩ | ⟨u2, e2, k2⟩
    · exact h.objs b b' k e1 e2
    · rcases backKey_s k2 with ⟨_, q⟩ | ⟨_, _, q⟩
      · exact absurd q n1
      · exact absurd (List.mem_of_getElem? q) i1
    · rcases backKey_s k1 with ⟨_, q⟩ | ⟨_, _, q⟩
      · exact absurd q n2
      · exact absurd (List.mem_of_getElem? q) i2
    · obtain rfl := backKey_inj hk hd k1 k2
      exact h'.objs b b' _ e1 e2

/-- what a call leaves -/
structure Back (B : Lab) (W : World) (B' : Lab) (W' : World) (ks : List Nat) (mv : List (Ow × Nat)) (d : Nat) : Prop where
  lab : LabOK B W
  lab' : LabOK B' W'
  move : Move (inLab ks mv B) W B' W'
  nodup : ks.Nodup
  fresh : 3000 + d ∉ ks
  few : ks.length ≤ 1000

theorem Back.give (h : Back B W B' W' ks mv d) {b : Nat} (hb : B' b ≠ .no) : ¬ (b < W.heap.size ∧ inLab ks mv B b = .no) := fun ⟨h1, h2⟩ => hb (h.move.no b h1 h2).1

theorem Back.st' (h : Back B W B' W' ks mv d) {b : Nat} (hb : B' b = .st) : outLab ks mv d W.heap.size B B' b = .st := by
  rw [outLab_back (h.give (by rw [hb]; simp)), hb]; rfl
theorem Back.st (h : Back B W B' W' ks mv d) {b : Nat} (hb : B b = .st) : outLab ks mv d W.heap.size B B' b = .st ∧ W'.heap[b]? = W.heap[b]? := by
  obtain ⟨e1, e2⟩ := h.move.st b (by simp [inLab, hb])
  exact ⟨h.st' e1, e2⟩

theorem Back.obj (h : Back B W B' W' ks mv d) {b k : Nat} (hb : B b = .obj k) (hk : k ≠ 3000 + d) : outLab ks mv d W.heap.size B B' b = .obj k := by
  have hlt := h.lab.dom b (by rw [hb]; simp)
  by_cases hin : k ∈ ks
  · obtain ⟨i, hi⟩ := idxOf_isSome (j := 0) hin
    obtain ⟨n, e, hn⟩ := idxOf_get hi
    rw [Nat.zero_add] at e
    subst e
    have hlt : i < ks.length := (List.getElem?_eq_some_iff.1 hn).1
    have := h.few
    have e' := h.move.obj b (1000 + i) (by omega) (by omega) (by simp [inLab, hb, hi])
    rw [outLab_back (h.give (by rw [e']; simp)), e']
    unfold backL
    simp only
    have : backKey ks d (1000 + i) = some k := by
      unfold backKey
      rw [beqF (by omega)]
      have : Nat.ble 1000 (1000 + i) = true := Nat.ble_eq_true_of_le (by omega)
      rw [this]
      simpa using hn
    rw [this]
  · rw [outLab_strip hlt ((inLab_no_obj hb).2 hin), hb]
    unfold stripL
    simp only
    rw [beqF hk]

theorem Back.row (h : Back B W B' W' ks mv d) {b : Nat} {w : Ow} (hb : B b = .row w) (hn : newOw d w = false) (hi : (inOw ks mv w).isSome = false) : outLab ks mv d W.heap.size B B' b = .row w ∧ W'.heap[b]? = W.heap[b]? := by
  have hlt := h.lab.dom b (by rw [hb]; simp)
  have hno := (inLab_no_row (ks := ks) (mv := mv) hb).2 hi
  refine ⟨?_, (h.move.no b hlt hno).2⟩
  rw [outLab_strip hlt hno, hb]
  unfold stripL
  simp only
  rw [hn]

theorem Back.out (h : Back B W B' W' ks mv d) : Move B W (outLab ks mv d W.heap.size B B') W' where
  size := h.move.size
  os := h.move.os
  tape := h.move.tape
  output := h.move.output
  st := fun b hb => h.st hb
  no := fun b hlt hb => by
    have hno : inLab ks mv B b = .no := by simp [inLab, hb]
    refine ⟨?_, (h.move.no b hlt hno).2⟩
    rw [outLab_strip hlt hno, hb]
    rfl
  obj := fun b k h1 h2 hb => h.obj hb (by omega)

theorem Back.ext (h : Back B W B' W' ks mv d) : Ext B W (outLab ks mv d W.heap.size B B') W' (fun w => newOw d w = true ∨ (inOw ks mv w).isSome = true) (· = 3000 + d) where
  st := fun b hb => h.st hb
  row := fun b w hb hn => by
    refine h.row hb ?_ ?_
    · cases e : newOw d w
      · rfl
      · exact (hn (.inl e)).elim
    · cases e : (inOw ks mv w).isSome
      · rfl
      · exact (hn (.inr e)).elim
  obj := fun b k hb hk => h.obj hb hk

theorem Back.ok (h : Back B W B' W' ks mv d) : LabOK (outLab ks mv d W.heap.size B B') W' := outLab_ok h.lab h.lab' h.move.size h.nodup h.fresh

theorem A0.outn_or (q : A0) : (q.outn ks mv d = .undef) ∨ (q.outn ks mv d = q ∧ (∀ w, q.has w → ¬ (newOw d w = true ∨ (inOw ks mv w).isSome = true)) ∧ ∀ k, q.at k → ¬ k = 3000 + d) := by
  have aux : ∀ w : Ow, ((inOw ks mv w).isSome || newOw d w) = true ∨ (((inOw ks mv w).isSome || newOw d w) = false ∧ ¬ (newOw d w = true ∨ (inOw ks mv w).isSome = true)) := fun w => by
    cases h1 : (inOw ks mv w).isSome <;> cases h2 : newOw d w <;> simp
  cases q with
  | al w e l =>
    rcases aux w with h | ⟨h, h'⟩
    · exact .inl (by simp only [A0.outn, h, cond_true])
    · exact .inr ⟨by simp only [A0.outn, h, cond_false], fun u hu => by cases hu; exact h', fun _ h => h.elim⟩
  | vp w e l i t off g s =>
    rcases aux w with h | ⟨h, h'⟩
    · exact .inl (by simp only [A0.outn, h, cond_true])
    · exact .inr ⟨by simp only [A0.outn, h, cond_false], fun u hu => by cases hu; exact h', fun _ h => h.elim⟩
  | ptr k off =>
    by_cases hk : k = 3000 + d
    · subst hk; exact .inl (by simp only [A0.outn, Nat.beq_refl, cond_true])
    · refine .inr ⟨?_, fun _ h => h.elim, fun j hj => by cases hj; exact hk⟩
      have := beqF hk
      simp only [A0.outn, this, cond_false]
  | _ => exact .inr ⟨rfl, fun _ h => h.elim, fun _ h => h.elim⟩

theorem Rep0.outn (h : Back B W B' W' ks mv d) {q : A0} {v : Value} (hq : Rep0 B W q v) : Rep0 (outLab ks mv d W.heap.size B B') W' (q.outn ks mv d) v := by
  rcases A0.outn_or (ks := ks) (mv := mv) (d := d) q with e | ⟨e, h1, h2⟩
  · rw [e]; trivial
  · rw [e]; exact Rep0.ext h.ext h1 h2 hq

theorem Back.exts (h : Back B W B' W' ks mv d) : ExtS B' W' (outLab ks mv d W.heap.size B B') W' := ⟨fun b hb => ⟨h.st' hb, rfl⟩⟩

theorem Back.obj' (h : Back B W B' W' ks mv d) {b k k' : Nat} (hb : B' b = .obj k) (hk : backKey ks d k = some k') : outLab ks mv d W.heap.size B B' b = .obj k' := by
  rw [outLab_back (h.give (by rw [hb]; simp)), hb]; simp [backL, hk]
theorem Back.row' (h : Back B W B' W' ks mv d) {b : Nat} {u w : Ow} (hb : B' b = .row u) (hk : backOw ks d u = some w) : outLab ks mv d W.heap.size B B' b = .row w := by
  rw [outLab_back (h.give (by rw [hb]; simp)), hb]; simp [backL, hk]

theorem Rep0.back (h : Back B W B' W' ks mv d) {q : A0} {v : Value} (hq : Rep0 B' W' q v) : Rep0 (outLab ks mv d W.heap.size B B') W' (q.back ks d) v := by
  have keepS : ∀ {q : A0}, (∀ w, ¬ q.has w) → (∀ k, ¬ q.at k) → Rep0 B' W' q v → Rep0 (outLab ks mv d W.heap.size B B') W' q v := fun h1 h2 hq =>
    Rep0.ext (dr := fun _ => True) (dk := fun _ => True) ⟨fun b hb => ⟨h.st' hb, rfl⟩, fun b w hb hn => (hn trivial).elim, fun b k hb hn => (hn trivial).elim⟩ (fun w hw => (h1 w hw).elim) (fun k hk => (h2 k hk).elim) hq
  cases q with
  | al w e l =>
    simp only [A0.back]
    split
    · rename_i x hx
      rcases hq with hq | ⟨b, cap, rfl, hb, arr, ty, fz, h1, h2, h3, h4, h5⟩
      · exact .inl hq
      · exact .inr ⟨b, cap, rfl, h.row' hb hx, arr, ty, fz, h1, h2, h3, h4, h5.mono (fun x es _ g => RepC.ext h.exts g) rfl⟩
    · trivial
  | vp w e l i t off g s => trivial
  | ptr k off =>
    simp only [A0.back]
    split
    · rename_i j hj
      obtain ⟨b, hb, rfl⟩ := hq
      exact ⟨b, h.obj' hb hj, rfl⟩
    · trivial
  | undef => trivial
  | val t x => exact keepS (fun _ h => h) (fun _ h => h) hq
  | pv t x => exact keepS (fun _ h => h) (fun _ h => h) hq
  | full e l => exact keepS (fun _ h => h) (fun _ h => h) hq
  | sc v => exact hq

theorem backM_key {p : Nat × List A0} : ∀ {m : Mem}, p ∈ backM ks d m → ∃ q ∈ m, backKey ks d q.1 = some p.1 ∧ p.2 = q.2.map (A0.back ks d)
  | [], h => by simp [backM] at h
  | (k, c) :: l, h => by
    simp only [backM] at h
    split at h
    · rename_i k' hk
      rcases List.mem_cons.1 h with rfl | h
      · exact ⟨_, List.mem_cons_self, hk, rfl⟩
      · obtain ⟨q, hq, r⟩ := backM_key h
        exact ⟨q, List.mem_cons_of_mem _ hq, r⟩
    · obtain ⟨q, hq, r⟩ := backM_key h
      exact ⟨q, List.mem_cons_of_mem _ hq, r⟩

theorem backM_nodup (hk : ks.Nodup) (hd : 3000 + d ∉ ks) : ∀ {m : Mem}, (m.map (·.1)).Nodup → ((backM ks d m).map (·.1)).Nodup
  | [], _ => by simp [backM]
  | (k, c) :: l, h => by
    rw [List.map_cons, List.nodup_cons] at h
    simp only [backM]
    split
    · rename_i k' hk'
      rw [List.map_cons, List.nodup_cons]
      refine ⟨fun hm => ?_, backM_nodup hk hd h.2⟩
      obtain ⟨p, hp, e⟩ := List.mem_map.1 hm
      obtain ⟨q, hq, h1, _⟩ := backM_key hp
      rw [e] at h1
      have := backKey_inj hk hd hk' h1
      exact h.1 (List.mem_map.2 ⟨q, hq, this.symm⟩)
    · exact backM_nodup hk hd h.2

theorem leftM_mem {p : Nat × List A0} (h : p ∈ leftM m ks d) : p ∈ m ∧ p.1 ∉ ks ∧ p.1 ≠ 3000 + d := by
  unfold leftM at h
  obtain ⟨h1, h2⟩ := List.mem_filter.1 h
  rw [Bool.and_eq_true, Bool.not_eq_true', Bool.not_eq_true'] at h2
  refine ⟨h1, fun hm => ?_, fun e => ?_⟩
  · obtain ⟨i, hi⟩ := idxOf_isSome (j := 0) hm
    rw [hi] at h2; cases h2.1
  · rw [e, Nat.beq_refl] at h2; cases h2.2

theorem Back.mem (h : Back B W B' W' ks mv d) (hm : MemOK B W m) (hm' : MemOK B' W' m') : MemOK (outLab ks mv d W.heap.size B B') W' (mmap (A0.outn ks mv d) (leftM m ks d) ++ backM ks d m') := by
  refine ⟨?_, ?_⟩
  · rw [List.map_append, mmap_keys]
    refine List.nodup_append.2 ⟨hm.1.sublist (List.Sublist.map _ List.filter_sublist), backM_nodup h.nodup h.fresh hm'.1, ?_⟩
    rintro x hx y hy rfl
    obtain ⟨p, hp, rfl⟩ := List.mem_map.1 hx
    obtain ⟨q, hq, e⟩ := List.mem_map.1 hy
    obtain ⟨_, n1, n2⟩ := leftM_mem hp
    obtain ⟨q', hq', e', _⟩ := backM_key hq
    rw [e] at e'
    rcases backKey_s e' with ⟨_, g⟩ | ⟨_, _, g⟩
    · exact n2 g
    · exact n1 (List.mem_of_getElem? g)
  · intro p hp
    rcases List.mem_append.1 hp with hp | hp
    · obtain ⟨q, hq, rfl⟩ := List.mem_map.1 hp
      obtain ⟨h1, h2, h3⟩ := leftM_mem hq
      obtain ⟨b, arr, ty, hb, hw, hc⟩ := hm.2 q h1
      have hlt := h.lab.dom b (by rw [hb]; simp)
      have hno := (inLab_no_obj (ks := ks) (mv := mv) hb).2 h2
      exact ⟨b, arr, ty, h.obj hb h3, (h.move.no b hlt hno).2.trans hw, forall2_map hc fun _ _ ha => Rep0.outn h ha⟩
    · obtain ⟨q, hq, h1, h2⟩ := backM_key hp
      obtain ⟨b, arr, ty, hb, hw, hc⟩ := hm'.2 q hq
      refine ⟨b, arr, ty, h.obj' hb h1, hw, ?_⟩
      rw [h2]
      exact forall2_map hc fun _ _ ha => Rep0.back h ha

end

end Go.V
