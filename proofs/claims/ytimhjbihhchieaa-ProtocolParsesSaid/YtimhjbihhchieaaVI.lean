/- V: append. Conditions: as each states. -/
import Derived.Test.YtimhjbihhchieaaVH
namespace Go.V
set_option linter.unusedVariables false
set_option linter.unusedSimpArgs false

section
variable {B0 : Lab} {W0 : World} {N : Nat} {WL : World} {B : Lab} {W W' : World} {r : Regs} {m : Mem} {tm : List Value} {P : Program}

/-- what can be appended: n elements, whose cells are cs -/
structure Src (P : Program) (W : World) (size : Nat) (x : Value) (n : Nat) (cs : List Value) : Prop where
  len : ∀ w, (Builtin.lenOf x).run P w = .ok n w
  cells : ∀ w : World, w.heap = W.heap → (Builtin.firstCells size n x).run P w = .ok cs.toArray w

theorem cell_heap {w w' : World} (h : w'.heap = w.heap) (a : Addr) : w'.cell? a = w.cell? a := by simp [World.cell?, h]

theorem src_row {e : Ty} {l : List e.den} {u : Value} (h : RowAt B W e l u) : ∃ cs, Flat (fun x es => RepC B W e x es) l cs ∧ Src P W e.sz u l.length cs := by
  obtain ⟨ad?, cap, rfl, hc, h⟩ := h
  rcases h with rfl | ⟨ad, rfl, hs, he⟩
  · refine ⟨[], rfl, fun w => rfl, fun w hw => ?_⟩
    cases ad? with
    | none => rfl
    | some ad => simp [Builtin.firstCells, loadCells, loadCellsFrom]
  · obtain ⟨cs, hf, hcells⟩ := he.flat RepC.sz
    refine ⟨cs, hf, fun w => rfl, fun w hw => ?_⟩
    have := run_loadCells_list (P := P) w ad cs (fun j v hj => (cell_heap hw _).trans (hcells j v hj))
    rw [hf.len RepC.sz] at this
    exact this

theorem flat_ints (k : IntKind) : ∀ (l : List Int), Flat (fun x es => RepC B W (.int k) x es) l (l.map (Value.int k))
  | [] => rfl
  | n :: l => ⟨[.int k n], _, rfl, rfl, flat_ints k l⟩

theorem src_str (s : ByteArray) : Flat (fun x es => RepC B W (.int .u8) x es) (numsOfStr s) ((numsOfStr s).map (Value.int .u8)) ∧ Src P W 1 (.string s) (numsOfStr s).length ((numsOfStr s).map (Value.int .u8)) := by
  have hl : (numsOfStr s).length = s.size := by simp [numsOfStr]
  refine ⟨flat_ints _ _, fun w => by rw [hl]; rfl, fun w _ => ?_⟩
  rw [hl]
  simp only [Builtin.firstCells, Sem.run_pure]
  congr 1
  apply Array.toList_inj.1
  have : (s.extract 0 s.size).data = s.data := by simp
  simp [this, numsOfStr]

/-- the second type of an append -/
theorem apT_run {u : TypeId} (h : apT P u = true) (w : World) : (do
      let zeros ← (do pure ((← underlying u) matches .int _) : Sem Bool)
      pure zeros : Sem Bool).run P w = .ok false w := by
  unfold apT at h
  split at h
  · rename_i e hu; simp [run_underlying hu]
  · rename_i hu; simp [run_underlying hu]
  · cases h

theorem apT_cases {u : TypeId} (h : apT P u = true) : (∃ e, P.underlying u = some (.slice e)) ∨ P.underlying u = some .string := by
  unfold apT at h
  split at h
  · exact .inl ⟨_, ‹_›⟩
  · exact .inr ‹_›
  · cases h

section
variable {t u ty el : TypeId} {i : TypeInfo} {z : Value} {base : Option Addr} {sLen sCap n : Nat} {x : Value} {cs : List Value}

theorem run_append_in (ht : P.underlying t = some (.slice el)) (hu : apT P u = true) (hi : P.info? el = some i) (hx : Src P W i.size x n cs) (hroom : sLen + n ≤ sCap)
    (hst : match base with | some ad => (storeCells (ad.add (sLen * i.size)) cs).run P W = .ok () W' | none => W' = W) :
    (Builtin.append_ #[t, u] ty #[.slice base sLen sCap, x]).run P W = .ok (.slice base (sLen + n) sCap) W' := by
  have hf := hx.cells W rfl
  rcases apT_cases hu with ⟨e, hu⟩ | hu <;>
    cases base <;>
      simp only at hst <;>
        simp [Builtin.append_, run_underlying ht, run_underlying hu, sizeOf, typeInfo, hi, hx.len, hroom, hf, hst]

theorem run_append_out (ht : P.underlying t = some (.slice el)) (hu : apT P u = true) (hi : P.info? el = some i) (hz : i.zero = some z) (hx : Src P W i.size x n cs) {olds : List Value}
    (hold : ∀ w : World, w.heap = W.heap → (Builtin.firstCells i.size sLen (.slice base sLen sCap)).run P w = .ok olds.toArray w)
    (hg : sCap < sLen + n) (h63 : sLen + n ≤ 4611686018427387904) (hby : (sLen + n) * i.bytes ≤ 140737488355328) :
    (Builtin.append_ #[t, u] ty #[.slice base sLen sCap, x]).run P W =
      .ok (.slice (some ⟨W.heap.size, 0, none⟩) (sLen + n) (grownCap W (sLen + n) sCap el))
        (W.drew.alloc (.cells ((olds ++ cs).toArray ++ Builtin.zeroCells z.cells (grownCap W (sLen + n) sCap el - (sLen + n))) el)) := by
  have hn : ¬ (sLen + n ≤ sCap) := by omega
  have h63' : ¬ (9223372036854775807 < ((sLen : Int) + (n : Int))) := by omega
  have hfit := growslice_fits hg hby
  have h48' : ¬ (281474976710656 < Builtin.nextslicecap (sLen + n) sCap * i.bytes) := by omega
  have hf := hx.cells W.drew rfl
  have ho := hold W.drew rfl
  rcases apT_cases hu with ⟨e, hu⟩ | hu <;>
    (simp [Builtin.append_, run_underlying ht, run_underlying hu, sizeOf, typeInfo, zeroValue, hi, hz, hx.len, hn, h63', h48', Question.forced, newRow, grownCap, hf, ho]
     congr 2
     apply Array.ext'
     simp [List.append_assoc])
end

theorem zeroOK_s {t : TypeId} {n : Nat} (h : zeroOK P t n = true) : ∃ i z, P.info? t = some i ∧ i.zero = some z ∧ z.cells.size = n := by
  unfold zeroOK zeroCells? at h
  split at h
  · rename_i z hz
    split at hz
    · rename_i i hi
      rw [Option.map_eq_some_iff] at hz
      obtain ⟨q, hq, rfl⟩ := hz
      exact ⟨i, q, hi, hq, by simpa using Nat.eq_of_beq_eq_true h⟩
    · cases hz
  · cases h

/-- a new block that begins with a row -/
theorem newRow_s {w : Ow} {e : Ty} {l : List e.den} {cs : List Value} {cap : Nat} {el : TypeId} {arr : Array Value} {fz : Nat × Nat} (h : LabOK B W) (hw : NewW W W' (.cells arr el fz)) (hf : Flat (fun x es => RepC B W e x es) l cs)
    (harr : ∀ (j : Nat) (v : Value), cs[j]? = some v → arr[j]? = some v) (hc : l.length ≤ cap) (hs : cap * e.sz ≤ arr.size) (hfz : UnF arr.size fz) :
    RowBlk (newL B W.heap.size (.row w)) W' w e l cap W.heap.size := by
  have hx := (newL_ext h hw (.row w)).s
  refine ⟨newL_new, arr, el, fz, hw.new, hfz, hc, hs, ?_⟩
  refine Flat.elems (fun x c hr => RepC.len hr) (hf.imp fun x c hr => RepC.ext hx hr) (fun j v hj => ?_)
  rw [Addr.add_lit, Nat.zero_add, cell_arr hw.new]
  exact harr j v hj

theorem grown_arr {z : Value} {cs : List Value} {need cap sz : Nat} (hl : cs.length = need * sz) (hz : z.cells.size = sz) (hc : need ≤ cap) :
    (∀ (j : Nat) (v : Value), cs[j]? = some v → (cs.toArray ++ Builtin.zeroCells z.cells (cap - need))[j]? = some v) ∧ cap * sz ≤ (cs.toArray ++ Builtin.zeroCells z.cells (cap - need)).size := by
  constructor
  · intro j v hj
    have hlt := (List.getElem?_eq_some_iff.1 hj).1
    rw [Array.getElem?_append_left (by simpa using hlt)]
    simpa using hj
  · rw [Array.size_append, size_zeroCells, hz, List.size_toArray, hl, ← Nat.add_mul]
    exact Nat.mul_le_mul_right _ (by omega)

theorem first_row {e : Ty} {l : List e.den} {v : Value} (h : RowAt B W e l v) : ∃ base cap cs, v = .slice base l.length cap ∧ l.length ≤ cap ∧ Flat (fun x es => RepC B W e x es) l cs ∧
    ∀ w : World, w.heap = W.heap → (Builtin.firstCells e.sz l.length (.slice base l.length cap)).run P w = .ok cs.toArray w := by
  obtain ⟨cs, hf, hs⟩ := src_row (P := P) h
  obtain ⟨base, cap, rfl, hc, _⟩ := h
  exact ⟨base, cap, cs, rfl, hc, hf, hs.cells⟩

theorem append_new (h : Inv B0 W0 N WL B W r m tm) {w : Ow} (hno : ∀ b, B b ≠ .row w) {e : Ty} {l l2 : List e.den} {v x : Value} {cs : List Value} {t u ty el : TypeId}
    (ht : P.underlying t = some (.slice el)) (hu : apT P u = true) (hz : szIs P el e.sz = true) (hz0 : zeroOK P el e.sz = true) (hv : RowAt B W e l v) (hcap : ∀ a n c, v = .slice a n c → c < l.length + l2.length)
    (hx : Src P W e.sz x l2.length cs) (hcs : Flat (fun x es => RepC B W e x es) l2 cs) (hfit : fits P el (l.length + l2.length)) :
    ∃ W' u', (Builtin.append_ #[t, u] ty #[v, x]).run P W = .ok u' W' ∧ Inv B0 W0 N WL (newL B W.heap.size (.row w)) W' r m tm ∧ OwnRow (newL B W.heap.size (.row w)) W' w e (l ++ l2) u' := by
  obtain ⟨i, hi, hs⟩ := szIs_eq hz
  obtain ⟨i', z, hi', hz', hzs⟩ := zeroOK_s hz0
  rw [hi] at hi'; cases hi'
  obtain ⟨base, cap, olds, rfl, hc, hfo, hold⟩ := first_row (P := P) hv
  have hlt := hcap _ _ _ rfl
  have hby : P.bytesOf el = i.bytes := by simp [Program.bytesOf, hi]
  rw [← hs] at hx hold
  have hrun := run_append_out (P := P) (W := W) (ty := ty) ht hu hi hz' hx hold hlt hfit.1 (hby ▸ hfit.2)
  have hge := grownCap_ge W (l.length + l2.length) cap el
  have hfl := hfo.append hcs
  have hlen : (olds ++ cs).length = (l.length + l2.length) * e.sz := by rw [hfl.len RepC.sz, List.length_append]
  obtain ⟨g1, g2⟩ := grown_arr hlen hzs hge
  have hw := NewW.drew W (.cells ((olds ++ cs).toArray ++ Builtin.zeroCells z.cells (grownCap W (l.length + l2.length) cap el - (l.length + l2.length))) el)
  refine ⟨_, _, hrun, h.new hw (fun w' e => by cases e; exact hno) (fun k e => by cases e), .inr ⟨W.heap.size, _, ?_, newRow_s h.lab hw hfl g1 (by rw [List.length_append]; exact hge) g2 (.inl rfl)⟩⟩
  rw [List.length_append]

theorem append_own (h : Inv B0 W0 N WL B W r m tm) {w : Ow} {e : Ty} {l l2 : List e.den} {v x : Value} {cs : List Value} {t u ty el : TypeId}
    (ht : P.underlying t = some (.slice el)) (hu : apT P u = true) (hz : szIs P el e.sz = true) (hz0 : zeroOK P el e.sz = true) (hv : OwnRow B W w e l v)
    (hx : Src P W e.sz x l2.length cs) (hcs : Flat (fun x es => RepC B W e x es) l2 cs) (hfit : fits P el (l.length + l2.length)) :
    ∃ W' u' B', (Builtin.append_ #[t, u] ty #[v, x]).run P W = .ok u' W' ∧ Inv B0 W0 N WL B' W' (r.map (AV.map (A0.kill w))) (mmap (A0.kill w) m) tm ∧ OwnRow B' W' w e (l ++ l2) u' := by
  have hrow : RowAt B W e l v := rep_row (a := .al w e l) rfl hv
  have out : (∀ a n c, v = .slice a n c → c < l.length + l2.length) → ∃ W' u' B', (Builtin.append_ #[t, u] ty #[v, x]).run P W = .ok u' W' ∧ Inv B0 W0 N WL B' W' (r.map (AV.map (A0.kill w))) (mmap (A0.kill w) m) tm ∧ OwnRow B' W' w e (l ++ l2) u' := by
    intro hc
    have hs := (killL_ext B W w).s
    obtain ⟨W', u', h1, h2, h3⟩ := append_new (P := P) (h.kill w) (killL_no w) (u := u) (ty := ty) ht hu hz hz0 (by
      obtain ⟨a, cap, e1, e2, e3⟩ := hrow
      exact ⟨a, cap, e1, e2, e3.imp id fun ⟨ad, q1, q2, q3⟩ => ⟨ad, q1, q2, q3.mono (fun x es _ hr => RepC.ext hs hr) rfl⟩⟩) hc hx (hcs.imp fun x c hr => RepC.ext hs hr) hfit
    exact ⟨W', u', _, h1, h2, h3⟩
  obtain ⟨i, hi, hs⟩ := szIs_eq hz
  have hx' := hx
  rw [← hs] at hx'
  rcases hv with ⟨rfl, rfl⟩ | ⟨b, cap, rfl, hb⟩
  · by_cases h0 : l2 = []
    · subst h0
      obtain rfl : cs = [] := hcs
      refine ⟨W, .slice none 0 0, _, ?_, h.kill w, .inl ⟨rfl, rfl⟩⟩
      exact run_append_in (P := P) (W' := W) (base := none) (sLen := 0) (sCap := 0) ht hu hi hx' (Nat.le_refl _) rfl
    · refine out fun a n c e => ?_
      cases e
      have : l2.length ≠ 0 := fun e => h0 (List.eq_nil_of_length_eq_zero e)
      simp; omega
  · by_cases hroom : l.length + l2.length ≤ cap
    · obtain ⟨hlab, arr, ty', fz, g1, g2, g3, g4, g5⟩ := hb
      obtain ⟨cs0, hf0, hc0⟩ := g5.flat RepC.sz
      have hl0 := hf0.len RepC.sz
      have hl2 := hcs.len RepC.sz
      have hsz : l.length * e.sz + cs.length ≤ arr.size := by rw [hl2, ← Nat.add_mul]; exact Nat.le_trans (Nat.mul_le_mul_right _ hroom) g4
      obtain ⟨W', arr', hst, hat, harr⟩ := run_storeCells_fz (P := P) b (l.length * e.sz) ty' fz cs 0 arr W g1 g2.un (by omega) (Flat.one hcs)
      have hasz : arr'.size = arr.size := by
        have := congrArg List.length harr
        simp at this
        omega
      refine ⟨W', _, B, run_append_in (P := P) (W' := W') ht hu hi hx' hroom (by simp only; rw [Addr.add_lit, Nat.zero_add, hs]; exact hst), h.write hat hlab, .inr ⟨b, cap, by rw [List.length_append], hlab, arr', ty', fz, hat.here, by rw [hasz]; exact g2, by rw [List.length_append]; exact hroom, by rw [hasz]; exact g4, ?_⟩⟩
      have hx2 := (atW_ext hat hlab).s
      refine Flat.elems (fun x c hr => RepC.len hr) ((hf0.imp fun x c hr => RepC.ext hx2 hr).append (hcs.imp fun x c hr => RepC.ext hx2 hr)) (fun j v hj => ?_)
      rw [Addr.add_lit, Nat.zero_add, cell_arr hat.here, ← Array.getElem?_toList, harr]
      simp only [Nat.add_zero]
      have htl : (arr.toList.take (l.length * e.sz)).length = l.length * e.sz := by simp; omega
      by_cases hlt : j < cs0.length
      · rw [List.getElem?_append_left hlt] at hj
        have := hc0 j v hj
        rw [Addr.add_lit, Nat.zero_add, cell_arr g1, ← Array.getElem?_toList] at this
        rw [List.append_assoc, List.getElem?_append_left (by omega), List.getElem?_take, if_pos (by omega)]
        exact this
      · rw [List.getElem?_append_right (by omega)] at hj
        have hj' := (List.getElem?_eq_some_iff.1 hj).1
        rw [List.append_assoc, List.getElem?_append_right (by omega), htl, ← hl0, List.getElem?_append_left hj']
        exact hj
    · refine out fun a n c e => ?_
      cases e
      omega

end

end Go.V
