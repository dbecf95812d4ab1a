/- V: rows laid flat, and append. Conditions: as each states. -/
import Derived.Test.YtimhjbihhchieaaVG
namespace Go.V
set_option linter.unusedVariables false
set_option linter.unusedSimpArgs false

def Flat {α : Type} (R : α → List Value → Prop) : List α → List Value → Prop
  | [], cs => cs = []
  | x :: l, cs => ∃ c1 c2, cs = c1 ++ c2 ∧ R x c1 ∧ Flat R l c2

theorem Flat.append {α : Type} {R : α → List Value → Prop} : ∀ {l l2 : List α} {cs cs2 : List Value}, Flat R l cs → Flat R l2 cs2 → Flat R (l ++ l2) (cs ++ cs2)
  | [], l2, cs, cs2, h, g => by rw [show cs = [] from h]; exact g
  | x :: l, l2, cs, cs2, h, g => by
    obtain ⟨c1, c2, rfl, h1, h2⟩ := h
    exact ⟨c1, c2 ++ cs2, by simp, h1, h2.append g⟩

theorem Flat.imp {α : Type} {R R' : α → List Value → Prop} (hr : ∀ x c, R x c → R' x c) : ∀ {l : List α} {cs : List Value}, Flat R l cs → Flat R' l cs
  | [], _, h => h
  | x :: l, _, h => by
    obtain ⟨c1, c2, rfl, h1, h2⟩ := h
    exact ⟨c1, c2, rfl, hr _ _ h1, h2.imp hr⟩

theorem Flat.len {α : Type} {R : α → List Value → Prop} {sz : Nat} (hs : ∀ x c, R x c → c.length = sz) : ∀ {l : List α} {cs : List Value}, Flat R l cs → cs.length = l.length * sz
  | [], _, h => by rw [show _ = [] from h]; simp
  | x :: l, _, h => by
    obtain ⟨c1, c2, rfl, h1, h2⟩ := h
    rw [List.length_append, hs _ _ h1, h2.len hs, List.length_cons, Nat.add_mul]; omega

section
variable {B0 : Lab} {W0 : World} {N : Nat} {WL : World} {B : Lab} {W W' : World} {r : Regs} {m : Mem} {tm : List Value} {P : Program}

theorem Elems.flat {α : Type} {R : α → List Value → Prop} {sz : Nat} (hs : ∀ x c, R x c → c.length = sz) : ∀ {l : List α} {ad : Addr}, Elems R sz W l ad →
    ∃ cs, Flat R l cs ∧ ∀ j v, cs[j]? = some v → W.cell? (ad.add j) = some v
  | [], ad, h => ⟨[], rfl, fun j v hj => by simp at hj⟩
  | x :: l, ad, h => by
    obtain ⟨es, h1, h2⟩ := h 0 (by simp)
    have hd := h.drop 1
    simp only [List.drop_succ_cons, List.drop_zero, Nat.one_mul] at hd
    obtain ⟨cs, h3, h4⟩ := Elems.flat hs hd
    refine ⟨es ++ cs, ⟨es, cs, rfl, h1, h3⟩, fun j v hj => ?_⟩
    by_cases hlt : j < es.length
    · rw [List.getElem?_append_left hlt] at hj
      simpa using h2 j v hj
    · rw [List.getElem?_append_right (by omega)] at hj
      have := h4 _ _ hj
      rw [add_add, ← hs _ _ h1] at this
      rwa [show es.length + (j - es.length) = j by omega] at this

theorem Flat.elems {α : Type} {R : α → List Value → Prop} {sz : Nat} (hs : ∀ x c, R x c → c.length = sz) : ∀ {l : List α} {cs : List Value} {ad : Addr}, Flat R l cs →
    (∀ j v, cs[j]? = some v → W.cell? (ad.add j) = some v) → Elems R sz W l ad
  | [], _, ad, h, _ => fun i hi => by simp at hi
  | x :: l, _, ad, h, hc => by
    obtain ⟨c1, c2, rfl, h1, h2⟩ := h
    have ht := Flat.elems (ad := ad.add sz) hs h2 (fun j v hj => by
      rw [add_add]
      apply hc
      rw [List.getElem?_append_right (by rw [hs _ _ h1]; omega), hs _ _ h1, Nat.add_sub_cancel_left]
      exact hj)
    intro i hi
    cases i with
    | zero =>
      refine ⟨c1, h1, fun j v hj => ?_⟩
      rw [Nat.zero_mul, Nat.zero_add]
      exact hc j v (by rw [List.getElem?_append_left (List.getElem?_eq_some_iff.1 hj).1]; exact hj)
    | succ i =>
      obtain ⟨es, e1, e2⟩ := ht i (by simpa using hi)
      refine ⟨es, by simpa using e1, fun j v hj => ?_⟩
      have := e2 j v hj
      rw [add_add] at this
      rwa [show (i + 1) * sz + j = sz + (i * sz + j) by rw [Nat.add_mul]; omega]

theorem RepC.sz : ∀ {t : Ty} (x : t.den) (c : List Value), RepC B W t x c → c.length = t.sz := fun _ _ h => h.len

theorem RepC.one : ∀ {t : Ty} {x : t.den} {cs : List Value}, RepC B W t x cs → ∀ v ∈ cs, v.oneCell' = true
  | .int _, _, _, h => by rw [show _ = _ from h]; simp [Value.oneCell']
  | .bool, _, _, h => by rw [show _ = _ from h]; simp [Value.oneCell']
  | .str, _, _, h => by rw [show _ = _ from h]; simp [Value.oneCell']
  | .nil, _, _, h => by rw [show _ = _ from h]; simp
  | .cons a b, x, cs, h => by
    obtain ⟨c1, c2, rfl, h1, h2⟩ := h
    intro v hv
    rcases List.mem_append.1 hv with hv | hv
    · exact h1.one v hv
    · exact h2.one v hv
  | .slice e, _, _, h => by
    obtain ⟨a, cap, rfl, _⟩ := h
    simp [Value.oneCell']
theorem Flat.one {e : Ty} : ∀ {l : List e.den} {cs : List Value}, Flat (fun x es => RepC B W e x es) l cs → ∀ v ∈ cs, v.oneCell' = true
  | [], _, h => by rw [show _ = [] from h]; simp
  | x :: l, _, h => by
    obtain ⟨c1, c2, rfl, h1, h2⟩ := h
    intro v hv
    rcases List.mem_append.1 hv with hv | hv
    · exact RepC.one h1 v hv
    · exact h2.one v hv

theorem setCell_at {b o : Nat} {v : Value} {cur : Array Value} {ty : TypeId} {fz : Nat × Nat} (hg : W.heap[b]? = some (.cells cur ty fz)) :
    AtW W (W.setCell ⟨b, o, none⟩ v) b (.cells (cur.setIfInBounds o v) ty fz) where
  size := by simp [World.setCell]
  other := fun k hk => RowKit.Below.heap_setCell W ⟨b, o, none⟩ v k hk
  here := by
    simp only [World.setCell, Array.getElem?_modify, if_true, hg, Option.map_some, Option.isSome_none, Bool.false_eq_true, if_false]
  os := rfl
  tape := rfl
  output := rfl

theorem AtW.trans {W W' W'' : World} {b : Nat} {o o' : Obj} (h : AtW W W' b o) (g : AtW W' W'' b o') : AtW W W'' b o' :=
  ⟨g.size.trans h.size, fun k hk => (g.other k hk).trans (h.other k hk), g.here, g.os.trans h.os, g.tape.trans h.tape, g.output.trans h.output⟩

theorem AtW.refl {W : World} {b : Nat} {o : Obj} (h : W.heap[b]? = some o) : AtW W W b o := ⟨rfl, fun _ _ => rfl, h, rfl, rfl, rfl⟩

theorem run_storeCells_fz (b o : Nat) (ty : TypeId) (fz : Nat × Nat) : ∀ (vs : List Value) (i : Nat) (cur : Array Value) (w : World), w.heap[b]? = some (.cells cur ty fz) →
    (∀ i, i < cur.size → ¬ (fz.1 ≤ i ∧ i < fz.2)) → o + i + vs.length ≤ cur.size → (∀ v ∈ vs, v.oneCell' = true) →
    ∃ w' cur', (storeCells ⟨b, o, none⟩ vs i).run P w = .ok () w' ∧ AtW w w' b (.cells cur' ty fz) ∧ cur'.toList = cur.toList.take (o + i) ++ vs ++ cur.toList.drop (o + i + vs.length)
  | [], i, cur, w, hg, _, _, _ => ⟨w, cur, rfl, .refl hg, by simp⟩
  | v :: vs, i, cur, w, hg, hf, hl, h1 => by
    have hlt : o + i < cur.size := by simp at hl; omega
    have hcell : w.cell? ⟨b, o + i, none⟩ = some cur[o + i] := by rw [cell_arr hg]; simp [hlt]
    have hfro : w.frozen? ⟨b, o + i, none⟩ = false := by
      have := hf _ hlt
      unfold World.frozen?
      simp only [hg]
      rw [Bool.eq_false_iff]
      intro h
      simp only [Bool.and_eq_true, decide_eq_true_eq] at h
      exact this h
    have hs := setCell_at (W := w) (o := o + i) (v := v) hg
    obtain ⟨w', cur', hr, hat, hcur⟩ := run_storeCells_fz b o ty fz vs (i + 1) (cur.setIfInBounds (o + i) v) _ hs.here (by simpa using hf) (by simp at hl ⊢; omega) (fun u hu => h1 u (List.mem_cons_of_mem _ hu))
    refine ⟨w', cur', ?_, hs.trans hat, ?_⟩
    · simp only [storeCells, Sem.run_bind, Addr.add_lit]
      rw [run_store P w _ v _ (h1 v List.mem_cons_self)]
      simp only [hcell, hfro, Bool.false_eq_true, if_false, Result.andThen_ok]
      exact hr
    · rw [hcur]
      have hset : (cur.setIfInBounds (o + i) v).toList = cur.toList.take (o + i) ++ v :: cur.toList.drop (o + i + 1) := by
        rw [Array.toList_setIfInBounds, List.set_eq_take_append_cons_drop, if_pos (by simpa using hlt)]
      have htl : (cur.toList.take (o + i)).length = o + i := by simp; omega
      have a1 : List.take (o + (i + 1)) (cur.setIfInBounds (o + i) v).toList = cur.toList.take (o + i) ++ [v] := by
        rw [hset, List.take_append, htl, show o + (i + 1) - (o + i) = 1 by omega, List.take_of_length_le (by omega)]
        rfl
      have a2 : List.drop (o + (i + 1) + vs.length) (cur.setIfInBounds (o + i) v).toList = cur.toList.drop (o + i + (v :: vs).length) := by
        rw [hset, List.drop_append, htl, List.drop_of_length_le (by omega), List.nil_append, show o + (i + 1) + vs.length - (o + i) = vs.length + 1 by omega, List.drop_succ_cons, List.drop_drop]
        congr 1
        simp; omega
      rw [a1, a2]; simp

end

end Go.V
