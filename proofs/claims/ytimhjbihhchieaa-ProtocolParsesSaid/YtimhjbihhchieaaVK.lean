/- V: literals, stores, appends, conversions. Conditions: as each states. -/
import Derived.Test.YtimhjbihhchieaaVJ
namespace Go.V
set_option linter.unusedVariables false
set_option linter.unusedSimpArgs false

section
variable {B0 : Lab} {W0 : World} {N : Nat} {WL : World} {B : Lab} {W W' : World} {r : Regs} {m : Mem} {P : Program} {a : Act}
variable {K : Regs → Mem → Prop} {next : Act → World → Prop} {Q : Exit → Act → World → Prop} {o : Oper} {Snd : SND} {all : List Oper} {E : AV → Mem → Prop}

theorem placesOf_s : ∀ {fs : List Field} {pl : List (Nat × Nat)}, placesOf P fs = some pl → fs.mapM (fun f => (P.info? f.type).map fun i => (f.offset, i.size)) = some pl
  | [], pl, h => by simp only [placesOf, Option.some.injEq] at h; subst h; rfl
  | f :: fs, pl, h => by
    simp only [placesOf] at h
    split at h
    · rename_i i l hi hl
      cases h
      simp [hi, placesOf_s hl]
    · cases h

theorem build_s (hn : Next? B0 W0 N WL K next) (hd : a.defers = []) (h : Inv B0 W0 N WL B W r m a.tmps.toList) {t : TypeId} {ps : Array (Nat × Operand)} (ho : o.op = .build t ps)
    (hv : vop P Snd all o r m K E) : o.upon P a next Q ((execOp a.eval o).run P W) := by
  simp only [vop, ho] at hv
  refine vfreeze_s hv h fun B r m h hv => ?_
  split at hv
  · rename_i fs hu
    obtain ⟨T, hT, hv1⟩ := optK_some hv
    obtain ⟨z, hz, hv2⟩ := optK_some hv1
    obtain ⟨pl, hpl, hv3⟩ := optK_some hv2
    obtain ⟨qs, hqs, hv4⟩ := optK_some hv3
    obtain ⟨c, hc, hv5⟩ := optK_some hv4
    unfold zeroCells? at hz
    split at hz
    · rename_i it hit
      rw [Option.map_eq_some_iff] at hz
      obtain ⟨zv, hzv, rfl⟩ := hz
      obtain ⟨arr', h1, h2⟩ := fillA_s (B := B) (W := W) (pl[·]?) (partsA_s h.regs hqs) (valCells_rep zv.cells.toList) hc
      have hb : P.built t (ps.map fun p => (p.1, a.eval p.2)).toList = some arr' := by
        unfold Program.built
        rw [hit, hu]
        simp only [hzv, placesOf_s hpl]
        rw [Array.toList_map]
        simpa using h1
      have hrun : (execOp a.eval o).run P W = .ok (.value (.agg arr')) W := by
        simp only [execOp, ho, Sem.run_bind]
        rw [run_build (P := P) W t _ arr' hb]
        rfl
      split at hv5
      · exact upon_val hrun (vput_s hn hd h hv5 ⟨arr', rfl, h2⟩)
      obtain ⟨hagg, hv6⟩ := chk hv5
      obtain ⟨⟨y, rest⟩, hp, hv7⟩ := optK_some hv6
      obtain ⟨he, hv8⟩ := chk hv7
      refine upon_val hrun (vput_s hn hd h hv8 ?_)
      obtain ⟨cs, vs', hvs, hcr, hrest⟩ := packT_s hp h2
      have : vs' = [] := by
        simp only [List.isEmpty_iff] at he
        subst he
        cases hrest; rfl
      subst this
      show RepV B W T y _
      unfold RepV
      rw [hagg]
      exact ⟨cs, by congr 1; apply Array.toList_inj.1; rw [hvs]; simp, hcr⟩
    · cases hz
  · exact hv.elim

theorem run_zero {t : TypeId} {z : List Value} (h : zeroCells? P t = some z) : ∃ v, (∀ w, (zeroValue t).run P w = .ok v w) ∧ v.cells.toList = z := zeroCells_s h

theorem repA_rep {c : List A0} {vs : List Value} (h : All2 (Rep0 B W) c vs) : ∀ n, All2 (Rep0 B W) (repA n c) ((List.replicate n vs).flatten)
  | 0 => .nil
  | n + 1 => by rw [List.replicate_succ, List.flatten_cons]; exact h.append (repA_rep h n)

theorem range_mod (z : Array Value) : ∀ (n : Nat), ((Array.range (n * z.size)).map fun i => z[i % z.size]!).toList = (List.replicate n z.toList).flatten := by
  intro n
  induction n with
  | zero => simp
  | succ n ih =>
    by_cases h0 : z.size = 0
    · have : z = #[] := Array.eq_empty_of_size_eq_zero h0
      subst this
      simp
    · rw [List.replicate_succ', List.flatten_append, ← ih]
      simp only [Array.toList_map, Array.toList_range, List.flatten_cons, List.flatten_nil, List.append_nil]
      rw [Nat.add_mul, Nat.one_mul, List.range_add, List.map_append, List.map_map]
      congr 1
      apply List.ext_getElem
      · simp
      · intro i h1 h2
        simp only [List.length_map, List.length_range] at h1
        simp only [List.getElem_map, List.getElem_range, Function.comp]
        rw [Nat.add_comm, Nat.add_mul_mod_self_right, Nat.mod_eq_of_lt h1]
        simp [h1]

theorem buildSlice_s (hn : Next? B0 W0 N WL K next) (hd : a.defers = []) (h : Inv B0 W0 N WL B W r m a.tmps.toList) {t : TypeId} {n : Nat} {ps : Array (Nat × Operand)} (ho : o.op = .buildSlice t n ps)
    (hv : vop P Snd all o r m K E) : o.upon P a next Q ((execOp a.eval o).run P W) := by
  simp only [vop, ho] at hv
  split at hv
  · rename_i d el hdst hu
    refine vfreeze_s hv h fun B r m h hv => ?_
    obtain ⟨T, hT, hv1⟩ := optK_some hv
    obtain ⟨z, hz, hv2⟩ := optK_some hv1
    obtain ⟨hchk, hv3⟩ := chk hv2
    obtain ⟨qs, hqs, hv4⟩ := optK_some hv3
    obtain ⟨c, hc, hv5⟩ := optK_some hv4
    obtain ⟨l, hl, hv6⟩ := optK_some hv5
    simp only [Bool.and_eq_true] at hchk
    obtain ⟨⟨hsz, hzl⟩, hbig⟩ := hchk
    obtain ⟨i, hi, hs⟩ := szIs_eq hsz
    have hzl := Nat.eq_of_beq_eq_true hzl
    have hbig := Nat.le_of_ble_eq_true hbig
    obtain ⟨zv, hzv, hzc⟩ := zeroCells_s hz
    have hzs : zv.cells.size = T.sz := by rw [← hzl, ← hzc]; simp
    have hcells : ((Array.range (n * T.sz)).map fun i => zv.cells[i % zv.cells.size]!).toList = (List.replicate n z).flatten := by
      rw [← hzs, range_mod, hzc]
    obtain ⟨arr', h1, h2⟩ := fillA_s (B := B) (W := W) (arr := (Array.range (n * T.sz)).map fun i => zv.cells[i % zv.cells.size]!) (fun i => some (i * T.sz, T.sz)) (partsA_s h.regs hqs)
      (by rw [hcells]; exact repA_rep (valCells_rep z) n) hc
    obtain ⟨hlen, hflat⟩ := packN_s hl h2
    have hasz : arr'.toList.length = n * T.sz := by rw [hflat.len RepC.sz, hlen]
    have hrun : (execOp a.eval o).run P W = .ok (.value (.slice (some ⟨W.heap.size, 0, none⟩) n n)) (W.alloc (.cells arr' el)) := by
      simp only [execOp, ho, Instr.buildSlice, Sem.run_bind, run_underlying hu, Result.andThen_ok, run_size hi, hs]
      rw [if_neg (by omega)]
      by_cases h0 : n * T.sz = 0
      · rw [if_pos h0]
        have he : ∀ f : Nat → Value, (Array.range (n * T.sz)).map f = #[] := by
          intro f; rw [h0]; simp
        rw [he] at h1
        simp only [Sem.run_pure, Result.andThen_ok, Array.toList_map, he]
        rw [h1]
        simp only [Sem.run_bind, newRow, run_newObj, Result.andThen_ok, Sem.run_pure]
        rfl
      · rw [if_neg h0]
        simp only [Sem.run_bind, hzv, Sem.run_pure, Result.andThen_ok, Array.toList_map]
        rw [h1]
        simp only [Sem.run_bind, newRow, run_newObj, Result.andThen_ok, Sem.run_pure]
        rfl
    refine upon_val hrun ?_
    have hw := NewW.alloc W (.cells arr' el)
    have hget : ∀ (j : Nat) (v : Value), arr'.toList[j]? = some v → arr'[j]? = some v := fun j v hj => by rwa [Array.getElem?_toList] at hj
    have hsz2 : n * T.sz ≤ arr'.size := by rw [← hasz]; simp
    rw [hdst]
    split at hv6
    · have := vnew_row hn hd h hv6 hw hflat hget (cap := n) (by omega) hsz2 (.inl rfl)
      rwa [hlen] at this
    · have hx := newL_ext h.lab hw .st
      have hi' := h.new (L := .st) hw (fun w e => by cases e) (fun k e => by cases e)
      refine vput_s hn hd hi' hv6 ?_
      refine ⟨_, n, by rw [hlen], by omega, .inr ⟨⟨W.heap.size, 0, none⟩, rfl, newL_new, rfl, ?_⟩⟩
      refine Flat.elems (fun x c hr => RepC.len hr) (hflat.imp fun x c hr => RepC.ext hx.s hr) (fun j v hj => ?_)
      rw [Addr.add_lit, Nat.zero_add, cell_arr hw.new]
      exact hget j v hj
  · exact hv.elim

theorem run_panic {x : Value} {t : TypeId} {u : Value} (h : x = .iface t u) (w : World) : (Instr.panic x).run P w = .halt (.panic (.iface t u)) w := by
  subst h; rfl

end

end Go.V
