/- Texts of this claim, one after the other: the calculus V and the functions' contracts. Conditions: as each states. -/
import Derived.Test.YtimhjbihhchieaaDoorMProtocolBack7
import Derived.SizedLaws
import Derived.ChangeSlices
namespace Go.V
open Go.ChangeShapes Go.WideShapes
set_option linter.unusedVariables false

/-- a slice of whole numbers -/
def IsRow (k : IntKind) (w : World) (a : Option Addr) (len cap : Nat) (zs : List Int) : Prop :=
  (a = none ∧ len = 0 ∧ cap = 0 ∧ zs = []) ∨
  ∃ x, a = some x ∧ len ≤ cap ∧ cap ≤ maxLen ∧ zs.length = cap ∧ (∀ i, i < zs.length → w.cell? (x.add i) = some (.int k (zs.getD i 0))) ∧ ∀ n ∈ zs, (Lit.int k n).wf = true

theorem sized_ints {H : Type} {enc : TypeId × Value → H} {P : Program} {W : World} {base : Nat} {spare : Nat → Bool} {held : Bool} {t e : TypeId} {k : IntKind} {a : Option Addr} {len cap : Nat} {d : DataW H} {ps : List MemPlace} {ts : List TypeId} {ds : List (DataW H)} {j : Nat}
    (hsz : (DataW.weightsEach P ts ds).all (· ≤ reachBytes) = true) (ht : ts[j]? = some t) (hd : ds[j]? = some d) (hu : P.underlying t = some (.slice e)) (he : P.underlying e = some (.int k)) (hc : P.cellsOf e = 1) {B : Nat} (hB : P.bytesOf e = B)
    (h : DataW.Trod enc P W base spare held t (.slice a len cap) d ps) : len * B ≤ 140737488351232 := by
  obtain ⟨fuel, hf⟩ := h
  rcases open_ints hu he hc hf with ⟨hcs, _⟩ | ⟨x, l, c, zs, hcs, _, hl, _, hz, hx, _, _⟩
  · simp [Value.cells] at hcs
    obtain ⟨rfl, rfl, rfl⟩ := hcs
    simp
  · simp [Value.cells] at hcs
    obtain ⟨rfl, rfl, rfl⟩ := hcs
    obtain ⟨hx, _⟩ := Prod.mk.inj hx
    subst hx
    have z := sized_slice hsz ht hd hu
    rw [hB] at z
    have hl2 : len ≤ zs.length := by
      rw [hz]
      split
      · exact hl
      · exact Nat.le_refl _
    have h1 : (lits (H := H) k (zs.take len)).length + (lits (H := H) k (zs.drop len)).length = zs.length := by
      simp [lits]
      omega
    rw [h1] at z
    exact Nat.le_trans (Nat.mul_le_mul_right _ hl2) z

theorem isRow_rep {k : IntKind} {W : World} {a : Option Addr} {len cap : Nat} {zs : List Int} (h : IsRow k W a len cap zs) :
    (zs.take len).length = len ∧ RepA (stL W) W (.lf (.val (.slice (.int k)) (zs.take len))) (.slice a len cap) ∧ ∀ n ∈ zs.take len, (Lit.int k n).wf = true := by
  rcases h with ⟨rfl, rfl, rfl, rfl⟩ | ⟨x, rfl, hle, _, hz, hcell, hwf⟩
  · exact ⟨rfl, ⟨none, 0, rfl, Nat.le_refl _, .inl rfl⟩, fun n hn => by cases hn⟩
  · have hl : (zs.take len).length = len := by rw [List.length_take]; omega
    refine ⟨hl, ⟨some x, cap, ?_, ?_, ?_⟩, fun n hn => hwf n (List.mem_of_mem_take hn)⟩
    · show [Value.slice (some x) len cap] = [Value.slice (some x) (zs.take len).length cap]
      rw [hl]
    · show (zs.take len).length ≤ cap
      rw [hl]; exact hle
    · by_cases h0 : len = 0
      · left
        subst h0
        rfl
      · right
        have hc0 := hcell 0 (by omega)
        refine ⟨x, rfl, ?_, ?_, ?_⟩
        · have := World.block_lt_of_cell? W _ hc0
          have hlt : x.block < W.heap.size := by simpa [Addr.add] using this
          simp [stL, hlt]
        · simpa [Addr.add] using World.cell?_spot hc0
        · intro i hi
          have hi : i < (zs.take len).length := hi
          rw [hl] at hi
          refine ⟨[.int k (zs.getD i 0)], ?_, ?_⟩
          · show [Value.int k (zs.getD i 0)] = [Value.int k ((zs.take len)[i])]
            have e : (zs.take len)[i]'(by omega) = zs.getD i 0 := by rw [List.getElem_take]; exact List.getElem_eq_getD 0
            exact congrArg (fun z => [Value.int k z]) e.symm
          · intro j v hj
            have hcell := hcell i (by omega)
            cases j with
            | zero =>
              simp only [List.getElem?_cons_zero, Option.some.injEq] at hj
              subst hj
              have e : i * Ty.sz (.int k) + 0 = i := by show i * 1 + 0 = i; omega
              rw [e]
              exact hcell
            | succ j => simp at hj

theorem isRow_of {H : Type} {enc : TypeId × Value → H} {P : Program} {W : World} {base : Nat} {held : Bool} {t e : TypeId} {k : IntKind} {a : Option Addr} {len cap : Nat} {d : DataW H} {ps : List MemPlace}
    (hu : P.underlying t = some (.slice e)) (he : P.underlying e = some (.int k)) (hc : P.cellsOf e = 1) (h : DataW.Trod enc P W base (fun _ => true) held t (.slice a len cap) d ps) : ∃ zs, IsRow k W a len cap zs := by
  obtain ⟨fuel, hf⟩ := h
  rcases open_ints hu he hc hf with ⟨hcs, _⟩ | ⟨x, l, c, zs, hcs, _, hl, hm, hz, _, hcell, hwz⟩
  · simp [Value.cells] at hcs
    obtain ⟨rfl, rfl, rfl⟩ := hcs
    exact ⟨[], .inl ⟨rfl, rfl, rfl, rfl⟩⟩
  · simp [Value.cells] at hcs
    obtain ⟨rfl, rfl, rfl⟩ := hcs
    exact ⟨zs, .inr ⟨_, rfl, hl, hm, by simpa using hz, hcell, hwz⟩⟩

/-- a contract of the library: what lay there stays -/
theorem Sound.below {P : Program} {N : Nat} {WL : World} {f : FuncId} {xs : List AV} {v : AV} (hc : Callable P f)
    (h : ∀ (B : Lab) (W : World) (vs : List Value), LabOK B W → Low N WL B W → All2 (RepA B W) xs vs → Calls P f vs.toArray W fun e W' => ∃ u, e = .returned u ∧ RowKit.Below W.heap.size W W' ∧ ∀ B', RepA B' W' v u) :
    Sound P N WL f xs [] (· = .ret v []) := by
  refine ⟨hc, fun B W vs h1 h2 h3 h4 => (h B W vs h1 h2 h3).mono ?_⟩
  rintro e W' ⟨u, rfl, hb, hr⟩
  have hm : Move B W B W' := ⟨hb.size, hb.os, hb.tape, hb.output, fun b e => ⟨e, hb.block b (h1.dom b (by rw [e]; simp))⟩, fun b hlt e => ⟨e, hb.block b hlt⟩, fun b k _ _ e => e⟩
  exact ⟨.ret v [], B, rfl, ⟨fun b e => Nat.lt_of_lt_of_le (h1.dom b e) hb.size, h1.rows, h1.objs⟩, h2.move hm, hm, hr B, ⟨by simp, by simp⟩⟩

/-- a row of one's own is read as a value -/
theorem Sound.frz {P : Program} {N : Nat} {WL : World} {f : FuncId} {xs : List AV} {m : Mem} {Q : Out → Prop} (w : Ow) (h : Sound P N WL f (xs.map (AV.map (A0.frz w))) (mmap (A0.frz w) m) Q) : Sound P N WL f xs m Q := by
  refine ⟨h.1, fun B W vs h1 h2 h3 h4 => ?_⟩
  have hi : Inv B W N WL B W xs m vs := ⟨h1, h2, Move.refl B W, h3, h4⟩
  have hf := hi.frz w
  refine (h.2 (frzL B w) W vs hf.lab hf.low hf.regs hf.mem).mono ?_
  rintro e W' ⟨o, B', q, l1, l2, l3, l4⟩
  exact ⟨o, B', q, l1, l2, hf.move.trans l3, l4⟩

end Go.V
