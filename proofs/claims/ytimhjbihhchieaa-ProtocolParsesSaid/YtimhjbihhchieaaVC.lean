/- V: names of rows are turned; operations that leave memory alone. Conditions: as each states. -/
import Derived.Test.YtimhjbihhchieaaVB
import Derived.Calls
import Derived.Laws.Small
import Derived.Laws.Strings
import Derived.Laws.Strings2
import Derived.Laws.Strings3
import Derived.Laws.Slices
import Derived.Laws.Entries
import Derived.Laws.BytesString
import Derived.Laws.Cells
import Derived.Laws.Rows
import Derived.Laws.Tables
import Derived.Laws.Concat
import Derived.Laws.IdiomStrings
namespace Go.V

section
variable {B0 : Lab} {W0 : World} {N : Nat} {WL : World} {B : Lab} {W : World} {r : Regs} {m : Mem} {tm : List Value}

theorem renL_row {w w' u : Ow} {b : Nat} (h : renL B w w' b = .row u) : (B b = .row w ∧ u = w') ∨ (B b = .row u ∧ u ≠ w) := by
  unfold renL at h
  split at h
  · rename_i q hq
    split at h
    · rename_i e; cases h; exact .inl ⟨e ▸ hq, rfl⟩
    · rename_i hn; cases h; exact .inr ⟨hq, hn⟩
  · rename_i hq; exact absurd h (hq u)
theorem renL_obj {w w' : Ow} {k b : Nat} (h : renL B w w' b = .obj k) : B b = .obj k := by
  unfold renL at h
  split at h
  · split at h <;> cases h
  · exact h
theorem renL_ext (B : Lab) (W : World) (w w' : Ow) : Ext B W (renL B w w') W (· = w) (fun _ => False) where
  st := fun b h => by simp [renL, h]
  row := fun b u h hn => by simp [renL, h, hn]
  obj := fun b k h _ => by simp [renL, h]
theorem renL_move (B : Lab) (W : World) (w w' : Ow) : Move B W (renL B w w') W :=
  ⟨Nat.le_refl _, rfl, rfl, rfl, fun b h => by simp [renL, h], fun b _ h => by simp [renL, h], fun b k _ _ h => by simp [renL, h]⟩
theorem renL_ok (h : LabOK B W) {w w' : Ow} (hno : ∀ b, B b ≠ .row w') : LabOK (renL B w w') W where
  dom := fun b hb => h.dom b (fun e => hb (by simp [renL, e]))
  rows := fun b b' u h1 h2 => by
    rcases renL_row h1 with ⟨e1, rfl⟩ | ⟨e1, n1⟩ <;> rcases renL_row h2 with ⟨e2, e3⟩ | ⟨e2, n2⟩
    · exact h.rows b b' w e1 e2
    · exact absurd e2 (hno _)
    · subst e3; exact absurd e1 (hno _)
    · exact h.rows b b' u e1 e2
  objs := fun b b' k h1 h2 => h.objs b b' k (renL_obj h1) (renL_obj h2)

theorem RowBlk.ren {w w' : Ow} {e : Ty} {l : List e.den} {cap b : Nat} (h : RowBlk B W w e l cap b) : RowBlk (renL B w w') W w' e l cap b := by
  obtain ⟨hb, arr, ty, fz, h1, h2, h3, h4, h5⟩ := h
  exact ⟨by simp [renL, hb], arr, ty, fz, h1, h2, h3, h4, h5.mono (fun x es _ h => RepC.ext (renL_ext B W w w').s h) rfl⟩

theorem Rep0.ren {w w' : Ow} {a : A0} {v : Value} (h : Rep0 B W a v) : Rep0 (renL B w w') W (a.ren w w') v := by
  have keep : ¬ a.has w → Rep0 (renL B w w') W a v := fun hn => Rep0.ext (renL_ext B W w w') (fun u hu hd => hn (hd ▸ hu)) (fun _ _ h => h) h
  cases a with
  | al u e l =>
    by_cases hu : u = w
    · subst hu
      simp only [A0.ren, if_true]
      rcases h with h | ⟨b, cap, rfl, h⟩
      · exact .inl h
      · exact .inr ⟨b, cap, rfl, h.ren⟩
    · simpa only [A0.ren, hu, if_false] using keep hu
  | vp u e l i t off g s =>
    by_cases hu : u = w
    · subst hu
      simp only [A0.ren, if_true]
      obtain ⟨b, cap, rfl, hi, hb, hl⟩ := h
      exact ⟨b, cap, rfl, hi, hb.ren, hl⟩
    · simpa only [A0.ren, hu, if_false] using keep hu
  | undef => exact keep (fun h => h)
  | val t x => exact keep (fun h => h)
  | pv t x => exact keep (fun h => h)
  | full e l => exact keep (fun h => h)
  | sc v => exact keep (fun h => h)
  | ptr k off => exact keep (fun h => h)

theorem Inv.ren (h : Inv B0 W0 N WL B W r m tm) (w w' : Ow) (hno : ∀ b, B b ≠ .row w') : Inv B0 W0 N WL (renL B w w') W (r.map (AV.map (A0.ren w w'))) (mmap (A0.ren w w') m) tm :=
  h.turn (renL_ok h.lab hno) (renL_move B W w w') _ (fun _ _ ha => Rep0.ren ha) fun b k hb _ => ⟨(renL_ext B W w w').obj b k hb (fun h => h), rfl⟩

theorem killL_no (w : Ow) (b : Nat) : killL B w b ≠ .row w := fun h => (killL_row h).2 rfl

theorem vname_s {G : Prop} {u w : Ow} {K : Regs → Mem → Prop} (hv : vname r m u w K) (h : Inv B0 W0 N WL B W r m tm)
    (k : ∀ B r m, Inv B0 W0 N WL B W r m tm → K r m → G) : G := by
  unfold vname at hv
  split at hv
  · exact k _ _ _ h hv
  · simp only [mapS_eq] at hv
    exact k _ _ _ ((h.kill w).ren u w (killL_no w)) hv

theorem vfreeze_s {G : Prop} {K : Regs → Mem → Prop} : ∀ {xs : List Operand} {B : Lab} {r : Regs} {m : Mem}, vfreeze r m xs K → Inv B0 W0 N WL B W r m tm →
    (∀ B r m, Inv B0 W0 N WL B W r m tm → K r m → G) → G
  | [], _, _, _, hv, h, k => k _ _ _ h hv
  | x :: xs, B, r, m, hv, h, k => by
    unfold vfreeze at hv
    split at hv
    · simp only [mapS_eq] at hv
      exact vfreeze_s hv (h.frz _) k
    · exact vfreeze_s hv h k

theorem vfreezeC_s {G : Prop} {K : Regs → Mem → Prop} : ∀ {xs : List A0} {B : Lab} {r : Regs} {m : Mem}, vfreezeC r m xs K → Inv B0 W0 N WL B W r m tm →
    (∀ B r m, Inv B0 W0 N WL B W r m tm → K r m → G) → G
  | [], _, _, _, hv, h, k => k _ _ _ h hv
  | x :: xs, B, r, m, hv, h, k => by
    cases x with
    | al w e l =>
      simp only [vfreezeC, mapS_eq] at hv
      exact vfreezeC_s hv (h.frz _) k
    | _ => exact vfreezeC_s (by simpa only [vfreezeC] using hv) h k

/-! ### operands -/

theorem rep_ofVal (v : Value) : Rep0 B W (ofVal v) v := by
  unfold ofVal
  split <;> rfl

theorem vval_rep {a : Act} (h : All2 (RepA B W) r a.tmps.toList) (x : Operand) : RepA B W (vval r x) (a.eval x) := by
  cases x with
  | tmp t =>
    show RepA B W (r.getD t (.lf .undef)) (a.tmps.getD t undef)
    cases ht : r[t]? with
    | none => simp only [List.getD, ht, Option.getD]; trivial
    | some v =>
      obtain ⟨u, hu, hr⟩ := h.get t v ht
      have e : a.tmps.getD t undef = u := by
        rw [Array.getElem?_toList] at hu
        simp [hu]
      rw [e]
      simpa only [List.getD, ht, Option.getD] using hr
  | const v => exact rep_ofVal v
  | global g => trivial
  | func f => exact ⟨#[], #[], rfl, .nil, .nil⟩

theorem rep_int {k : IntKind} {n : Int} {u : Value} (h : RepA B W (.lf (.val (.int k) n)) u) : u = .int k n := by
  have : [u] = [Value.int k n] := h
  simpa using this
theorem rep_bool {b : Bool} {u : Value} (h : RepA B W (.lf (.val .bool b)) u) : u = .bool b := by
  have : [u] = [Value.bool b] := h
  simpa using this
theorem rep_str {s : ByteArray} {u : Value} (h : RepA B W (.lf (.val .str s)) u) : u = .string s := by
  have : [u] = [Value.string s] := h
  simpa using this
theorem rep_sc {v u : Value} (h : RepA B W (.lf (.sc v)) u) : u = v := h

/-- what a slice is whose elements are known -/
def RowAt (B : Lab) (W : World) (e : Ty) (l : List e.den) (v : Value) : Prop :=
  ∃ a cap, v = .slice a l.length cap ∧ l.length ≤ cap ∧ (l = [] ∨ ∃ ad, a = some ad ∧ ad.spot = none ∧ Elems (fun x es => RepC B W e x es) e.sz W l ad)

theorem rep_row {a : A0} {e : Ty} {l : List e.den} {u : Value} (hr : a.row? = some ⟨e, l⟩) (h : RepA B W (.lf a) u) : RowAt B W e l u := by
  cases a with
  | val t x =>
    cases t <;> simp only [A0.row?] at hr <;> try cases hr
    obtain ⟨a, cap, e, hc, h⟩ := (h : RepC B W (.slice _) _ [u])
    simp at e
    exact ⟨a, cap, e, hc, h.imp id fun ⟨ad, ha, _, hs, he⟩ => ⟨ad, ha, hs, he⟩⟩
  | al w e l =>
    simp only [A0.row?] at hr
    cases hr
    rcases (h : OwnRow B W w e l u) with ⟨rfl, rfl⟩ | ⟨b, cap, rfl, hb, arr, ty, fz, h1, h2, h3, h4, h5⟩
    · exact ⟨none, 0, rfl, Nat.le_refl _, .inl rfl⟩
    · exact ⟨_, cap, rfl, h3, .inr ⟨_, rfl, rfl, h5⟩⟩
  | full e l =>
    simp only [A0.row?] at hr
    cases hr
    obtain ⟨a, rfl, h⟩ := (h : ∃ a, u = .slice a l.length l.length ∧ _)
    exact ⟨a, _, rfl, Nat.le_refl _, h.imp id fun ⟨ad, ha, _, hs, he⟩ => ⟨ad, ha, hs, he⟩⟩
  | _ => simp only [A0.row?] at hr; cases hr

end

end Go.V
