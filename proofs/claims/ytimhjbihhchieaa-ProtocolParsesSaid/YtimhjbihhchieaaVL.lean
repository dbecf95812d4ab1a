/- V: stores, appends, conversions, panics. Conditions: as each states. -/
import Derived.Test.YtimhjbihhchieaaVK
namespace Go.V
set_option linter.unusedVariables false
set_option linter.unusedSimpArgs false

section
variable {B0 : Lab} {W0 : World} {N : Nat} {WL : World} {B : Lab} {W W' : World} {r : Regs} {m : Mem} {P : Program} {a : Act}
variable {K : Regs → Mem → Prop} {next : Act → World → Prop} {Q : Exit → Act → World → Prop} {o : Oper} {Snd : SND} {all : List Oper} {E : AV → Mem → Prop}

/-- what must follow a panic -/
def Exc? (B0 : Lab) (W0 : World) (N : Nat) (WL : World) (E : AV → Mem → Prop) (Q : Exit → Act → World → Prop) : Prop :=
  ∀ (B : Lab) (W : World) (v : AV) (u : Value) (m : Mem) (a : Act), a.defers = [] → LabOK B W → Low N WL B W → Move B0 W0 B W → RepA B W v u → MemOK B W m → E v m → Q (.panic [{ v := u, recovered := false }]) a W

theorem one_cells {u : Value} (h : u.oneCell' = true) : u.cells = #[u] := by
  cases u <;> first | rfl | cases h

theorem run_storeVar {t : TypeId} {n b off : Nat} {u : Value} {arr : Array Value} {ty : TypeId} {fz : Nat × Nat} (hz : szIs P t n = true) (hl : u.cells.toList.length = n) (hw : W.heap[b]? = some (.cells arr ty fz))
    (hf : ∀ i, i < arr.size → ¬ (fz.1 ≤ i ∧ i < fz.2)) (hle : off + n ≤ arr.size) (h1 : ∀ v ∈ u.cells.toList, v.oneCell' = true) :
    ∃ W' arr', (Instr.storeAt t (.pointer (some ⟨b, off, none⟩)) u).run P W = .ok () W' ∧ AtW W W' b (.cells arr' ty fz) ∧ arr'.toList = arr.toList.take off ++ u.cells.toList ++ arr.toList.drop (off + n) := by
  obtain ⟨i, hi, hs⟩ := szIs_eq hz
  obtain ⟨W', arr', hr, hat, harr⟩ := run_storeCells_fz (P := P) b off ty fz u.cells.toList 0 arr W hw hf (by omega) h1
  refine ⟨W', arr', ?_, hat, by rw [harr, hl]; rfl⟩
  unfold Instr.storeAt storeVar Instr.sureAddr
  simp only [Sem.run_bind, Sem.run_pure, Result.andThen_ok, run_size hi]
  rw [if_neg (by rw [hs, ← hl]; simp)]
  exact hr

theorem storeObj (hn : Next? B0 W0 N WL K next) (hd : a.defers = []) (h : Inv B0 W0 N WL B W r m a.tmps.toList) {t : TypeId} {n k off : Nat} {ad : Value} {u : Value} (hp : RepA B W (.lf (.ptr k off)) ad) {c c2 : List A0} (hc : mget m k = some c) (hz : szIs P t n = true)
    (hl : u.cells.toList.length = n) (hle : off + n ≤ c.length) (h1 : ∀ v ∈ u.cells.toList, v.oneCell' = true) (h2 : All2 (Rep0 B W) c2 u.cells.toList) (hk : K r (mset m k (c.take off ++ c2 ++ c.drop (off + n)))) :
    ∃ W', (Instr.storeAt t ad u).run P W = .ok () W' ∧ next a W' := by
  obtain ⟨b, hb, rfl⟩ := hp
  obtain ⟨arr, ty, hw, hcs⟩ := obj_cells h.lab h.mem hc hb
  have hlen := hcs.len
  simp only [Array.length_toList] at hlen
  obtain ⟨W', arr', hr, hat, harr⟩ := run_storeVar (P := P) (n := n) (off := off) hz hl hw (fun i _ => by simp) (by omega) h1
  refine ⟨W', hr, hn _ _ _ _ _ hd (h.store hat hb ?_) hk⟩
  rw [harr]
  exact ((hcs.take off).append h2).append (hcs.drop (off + n))

theorem set_splice {α : Type} (l : List α) (i : Nat) (x : α) (h : i < l.length) : l.set i x = l.take i ++ [x] ++ l.drop (i + 1) := by
  rw [List.set_eq_take_append_cons_drop, if_pos h]; simp

theorem into1_s (hn : Next? B0 W0 N WL K next) (hd : a.defers = []) (h : Inv B0 W0 N WL B W r m a.tmps.toList) {t : TypeId} {x z : Operand} (hz : szIs P t 1 = true)
    (hv : into1 z x K r m) : ∃ W', (Instr.storeAt t (a.eval z) (a.eval x)).run P W = .ok () W' ∧ next a W' := by
  have hx := vval_rep h.regs x
  have hp := vval_rep h.regs z
  unfold into1 at hv
  generalize vval r x = v at hv hx
  generalize vval r z = p at hv hp
  obtain ⟨k, off, rfl⟩ : ∃ k off, p = .lf (.ptr k off) := by
    split at hv
    · exact ⟨_, _, rfl⟩
    · exact hv.elim
  have key : ∀ (y : A0), RepA B W (.lf y) (a.eval x) → (a.eval x).oneCell' = true → (optK (mget m k) fun c => vchk (Nat.blt off c.length) (fl0 (c.set off y) fun c => fm (mset m k c) fun m => K r m)) →
      ∃ W', (Instr.storeAt t (a.eval z) (a.eval x)).run P W = .ok () W' ∧ next a W' := by
    intro y hy h1 hv
    obtain ⟨c, hc, hv1⟩ := optK_some hv
    obtain ⟨hlt, hv2⟩ := chk hv1
    simp only [fl0_eq, fm_eq] at hv2
    have hlt : off < c.length := by simpa using hlt
    have hcells := one_cells h1
    refine storeObj (c2 := [y]) hn hd h hp hc hz (by rw [hcells]; rfl) (by omega) (by rw [hcells]; simpa using h1) (by rw [hcells]; exact .cons hy .nil) ?_
    rw [← set_splice _ _ _ hlt]
    exact hv2
  cases v with
  | lf y =>
    cases y with
    | undef => exact hv.elim
    | vp w e l i t off g s => exact hv.elim
    | full e l => exact hv.elim
    | val T y =>
      obtain ⟨hagg, hv⟩ := chk hv
      have hr : RepC B W T y [a.eval x] := (RepV.plain (by simpa using hagg)).1 hx
      exact key _ hx (hr.one _ (by simp)) hv
    | pv t y => exact key _ hx (by obtain ⟨ad, cs, e, _⟩ := hx; rw [e]; rfl) hv
    | al w e l => exact key _ hx (by rcases hx with ⟨e, _⟩ | ⟨b, cap, e, _⟩ <;> rw [e] <;> rfl) hv
    | ptr k off => exact key _ hx (by obtain ⟨b, hb, e⟩ := hx; rw [e]; rfl) hv
    | sc v =>
      have e := rep_sc hx
      cases v <;> first | exact hv.elim | exact key _ hx (by rw [e]; rfl) hv
  | _ => exact hv.elim

theorem AtW.ext {b : Nat} {ob : Obj} {w : Ow} (hw : AtW W W' b ob) (hb : B b = .row w) : ExtS B W B W' := (atW_ext hw hb).s

/-- an element of a row is written -/
theorem Rep0.upd (hl : LabOK B W) {b : Nat} {w : Ow} {e : Ty} {l : List e.den} {cap i off : Nat} {u : Ty} {g : e.den → u.den} {s : e.den → u.den → e.den} (hrow : RowBlk B W w e l cap b) (hlt : i < l.length) (hlens : Lens e u off g s)
    {y : u.den} {ys : List Value} (hy : RepC B W u y ys) {arr arr' : Array Value} {ty : TypeId} {fz : Nat × Nat} (hw : W.heap[b]? = some (.cells arr ty fz)) (hat : AtW W W' b (.cells arr' ty fz))
    (harr : arr'.toList = arr.toList.take (i * e.sz + off) ++ ys ++ arr.toList.drop (i * e.sz + off + u.sz)) {q : A0} {v : Value} (hq : Rep0 B W q v) : Rep0 B W' (q.upd w e i fun z => s z y) v := by
  have hb := hrow.1
  have hx := atW_ext hat hb
  have keep : ¬ q.has w → Rep0 B W' q v := fun hnh => Rep0.ext hx (fun x hx hd => hnh (hd ▸ hx)) (fun _ _ h => h) hq
  cases q with
  | al w' e' l' =>
    by_cases hww : w' = w
    · subst hww
      simp only [A0.upd, if_true]
      split
      · rename_i l2 hc
        obtain ⟨he, rfl⟩ := cast_some hc
        cases he
        rcases hq with ⟨rfl, rfl⟩ | ⟨b', cap', rfl, hb', arr1, ty1, fz1, q1, q2, q3, q4, q5⟩
        · exact .inl ⟨rfl, by simp⟩
        · obtain rfl := hl.rows b' b _ hb' hb
          rw [hw] at q1
          cases q1
          have hsz : arr'.size = arr.size := by
            have hys := hy.len
            obtain ⟨_, arr2, ty2, fz2, p1, p2, p3, p4, p5⟩ := hrow
            rw [hw] at p1; cases p1
            obtain ⟨es, f1, f2⟩ := p5 i hlt
            obtain ⟨c1, c2, c3, rfl, g1, g2, g3⟩ := hlens B W _ _ f1
            have hle := f1.len
            simp only [List.length_append] at hle
            have := g2.len
            have hb1 : (i + 1) * e.sz ≤ cap * e.sz := Nat.mul_le_mul_right _ (by omega)
            rw [Nat.add_mul] at hb1
            have := congrArg List.length harr
            simp at this
            omega
          refine .inr ⟨b', cap', by simp, hb, arr', ty, fz, hat.here, by rw [hsz]; exact q2, by simpa using q3, by rw [hsz]; exact q4, ?_⟩
          intro j hj
          have hj' : j < l'.length := by simpa using hj
          obtain ⟨es, f1, f2⟩ := q5 j hj'
          have cellat : ∀ (n : Nat), W.cell? ⟨b', n, none⟩ = arr.toList[n]? := fun n => by rw [cell_arr hw, Array.getElem?_toList]
          have cellat' : ∀ (n : Nat), W'.cell? ⟨b', n, none⟩ = arr'.toList[n]? := fun n => by rw [cell_arr hat.here, Array.getElem?_toList]
          have hflen := f1.len
          have hylen := hy.len
          have htake : ∀ n, n ≤ arr.size → (arr.toList.take n).length = n := fun n h => by simp; omega
          have hjb : (j + 1) * e.sz ≤ arr.size := Nat.le_trans (Nat.mul_le_mul_right _ (by omega)) q4
          rw [Nat.add_mul] at hjb
          by_cases hij : i = j
          · subst hij
            obtain ⟨c1, c2, c3, rfl, g1, g2, g3⟩ := hlens B W _ _ f1
            have h2len := g2.len
            refine ⟨c1 ++ ys ++ c3, ?_, fun n v hn => ?_⟩
            · rw [List.getElem_modify_eq]
              exact RepC.ext hx.s (g3 y ys hy)
            · rw [Addr.add_lit, Nat.zero_add, cellat', harr]
              simp only [List.length_append] at hflen
              have hold : ∀ n v, (c1 ++ c2 ++ c3)[n]? = some v → arr.toList[i * e.sz + n]? = some v := fun n v hn => by
                have := f2 n v hn
                rwa [Addr.add_lit, Nat.zero_add, cellat] at this
              have htl := htake (i * e.sz + off) (by omega)
              by_cases n1 : n < off
              · rw [List.append_assoc, List.getElem?_append_left (by omega), List.getElem?_take, if_pos (by omega)]
                rw [List.append_assoc, List.getElem?_append_left (by omega)] at hn
                exact hold n v (by rw [List.append_assoc, List.getElem?_append_left (by omega)]; exact hn)
              · by_cases n2 : n < off + u.sz
                · rw [List.append_assoc, List.getElem?_append_right (by omega), htl, List.getElem?_append_left (by omega)]
                  rw [List.append_assoc, List.getElem?_append_right (by omega), List.getElem?_append_left (by omega), g1] at hn
                  rw [← hn]; congr 1; omega
                · rw [List.getElem?_append_right (by rw [List.length_append, htl]; omega), List.length_append, htl, List.getElem?_drop]
                  rw [List.getElem?_append_right (by rw [List.length_append]; omega), List.length_append, g1, hylen] at hn
                  have := hold n v (by rw [List.getElem?_append_right (by rw [List.length_append]; omega), List.length_append, g1, h2len]; exact hn)
                  rw [← this]; congr 1; omega
          · refine ⟨es, ?_, fun n v hn => ?_⟩
            · rw [List.getElem_modify_ne _ _ hij]
              exact RepC.ext hx.s f1
            · rw [Addr.add_lit, Nat.zero_add, cellat', harr]
              have hnl := (List.getElem?_eq_some_iff.1 hn).1
              have := f2 n v hn
              rw [Addr.add_lit, Nat.zero_add, cellat] at this
              obtain ⟨_, arr2, ty2, fz2, p1, p2, p3, p4, p5⟩ := hrow
              rw [hw] at p1; cases p1
              obtain ⟨es', f1', f2'⟩ := p5 i hlt
              obtain ⟨c1, c2, c3, rfl, g1, g2, g3⟩ := hlens B W _ _ f1'
              have h2len := g2.len
              have hle' := f1'.len
              simp only [List.length_append] at hle'
              have hb1 : (i + 1) * e.sz ≤ cap * e.sz := Nat.mul_le_mul_right _ (by omega)
              rw [Nat.add_mul] at hb1
              have htl := htake (i * e.sz + off) (by omega)
              rcases Nat.lt_or_gt_of_ne hij with hlt' | hgt
              · have hm1 : (i + 1) * e.sz ≤ j * e.sz := Nat.mul_le_mul_right _ hlt'
                rw [Nat.add_mul] at hm1
                rw [List.getElem?_append_right (by rw [List.length_append, htl]; omega), List.length_append, htl, List.getElem?_drop, ← this]
                congr 1; omega
              · have hm1 : (j + 1) * e.sz ≤ i * e.sz := Nat.mul_le_mul_right _ hgt
                rw [Nat.add_mul] at hm1
                rw [List.append_assoc, List.getElem?_append_left (by omega), List.getElem?_take, if_pos (by omega)]
                exact this
      · trivial
    · simpa only [A0.upd, hww, if_false] using keep hww
  | vp w' e' l' i' t' off' g' s' =>
    by_cases hww : w' = w
    · simp only [A0.upd, hww, if_true]; trivial
    · simpa only [A0.upd, hww, if_false] using keep hww
  | undef => exact keep (fun h => h)
  | val t x => exact keep (fun h => h)
  | pv t x => exact keep (fun h => h)
  | full e l => exact keep (fun h => h)
  | sc v => exact keep (fun h => h)
  | ptr k off => exact keep (fun h => h)

theorem okCell_one {q : A0} {v : Value} (hq : okCell q = true) (h : Rep0 B W q v) : v.oneCell' = true := by
  cases q with
  | undef => cases hq
  | vp w e l i t off g s => cases hq
  | full e l => cases hq
  | val T y =>
    have hagg : T.agg = false := by simpa [okCell] using hq
    have hr : RepC B W T y [v] := (RepV.plain hagg).1 h
    exact hr.one _ (by simp)
  | pv t y => obtain ⟨ad, cs, e, _⟩ := h; rw [e]; rfl
  | al w e l => rcases h with ⟨e, _⟩ | ⟨b, cap, e, _⟩ <;> rw [e] <;> rfl
  | ptr k off => obtain ⟨b, hb, e⟩ := h; rw [e]; rfl
  | sc u =>
    have e : v = u := h
    rw [e]
    cases u <;> first | rfl | cases hq
theorem okCells_one : ∀ {xs : List A0} {vs : List Value}, okCells xs = true → All2 (Rep0 B W) xs vs → ∀ v ∈ vs, v.oneCell' = true
  | _, _, _, .nil, v, hv => by cases hv
  | _, _, hx, .cons h t, v, hv => by
    simp only [okCells, Bool.and_eq_true] at hx
    rcases List.mem_cons.1 hv with rfl | hv
    · exact okCell_one hx.1 h
    · exact okCells_one hx.2 t v hv
theorem nilsAt_rep {k off : Nat} {t : TypeId} {c : List A0} {vs : List Value} (h : All2 (Rep0 B W) c vs) : All2 (Rep0 B W) (nilsAt P k off t c) vs := by
  unfold nilsAt
  split
  · exact nilsL_rep h
  · exact h

theorem intoN_s (hn : Next? B0 W0 N WL K next) (hd : a.defers = []) (h : Inv B0 W0 N WL B W r m a.tmps.toList) {t : TypeId} {x z : Operand}
    (hv : intoN P t z x K r m) : ∃ W', (Instr.storeAt t (a.eval z) (a.eval x)).run P W = .ok () W' ∧ next a W' := by
  have hx := vval_rep h.regs x
  have hp := vval_rep h.regs z
  unfold intoN at hv
  generalize vval r x = v at hv hx
  generalize vval r z = p at hv hp
  split at hv
  · rename_i k off T y
    obtain ⟨hc, hv1⟩ := chk hv
    obtain ⟨c, hc', hv2⟩ := optK_some hv1
    obtain ⟨hle, hv3⟩ := chk hv2
    simp only [fl0_eq, fm_eq] at hv3
    rw [Bool.and_eq_true] at hc
    have hcells := RepV.cells hx
    exact storeObj hn hd h hp hc' hc.1 hcells.len (Nat.le_of_ble_eq_true hle) hcells.one (cellsT_rep hcells) hv3
  · rename_i k off xs
    obtain ⟨hc, hv1⟩ := chk hv
    obtain ⟨c, hc', hv2⟩ := optK_some hv1
    obtain ⟨hle, hv3⟩ := chk hv2
    simp only [fl0_eq, fm_eq] at hv3
    rw [Bool.and_eq_true] at hc
    obtain ⟨vs, e, hvs⟩ := hx
    rw [e]
    exact storeObj (n := xs.length) hn hd h hp hc' hc.1 hvs.len.symm (Nat.le_of_ble_eq_true hle) (okCells_one hc.2 hvs) (nilsAt_rep hvs) hv3
  · exact hv.elim

theorem intoNil_s (hn : Next? B0 W0 N WL K next) (hd : a.defers = []) (h : Inv B0 W0 N WL B W r m a.tmps.toList) {t : TypeId} {x z : Operand} {k off : Nat} (hz : szIs P t 1 = true) (e : vval r x = .lf (.sc (.slice none 0 0)))
    (hv : intoNil P t z k off K r m) : ∃ W', (Instr.storeAt t (a.eval z) (a.eval x)).run P W = .ok () W' ∧ next a W' := by
  have hx := vval_rep h.regs x
  rw [e] at hx
  have hx := sc_nil hx
  unfold intoNil at hv
  split at hv
  · obtain ⟨T, hT, hv1⟩ := optK_some hv
    simp only [mapS_eq] at hv1
    have hk := h.kill (.ce k off)
    have hp := vval_rep hk.regs z
    generalize vval (r.map (AV.map (A0.kill (.ce k off)))) z = p at hv1 hp
    split at hv1
    · rename_i k2 off2
      obtain ⟨hb, hv2⟩ := chk hv1
      obtain ⟨c, hc, hv3⟩ := optK_some hv2
      obtain ⟨hlt, hv4⟩ := chk hv3
      simp only [fl0_eq, fm_eq] at hv4
      rw [Bool.and_eq_true] at hb
      obtain rfl := Nat.eq_of_beq_eq_true hb.1
      obtain rfl := Nat.eq_of_beq_eq_true hb.2
      have hlt : off2 < c.length := by simpa using hlt
      rw [hx]
      refine storeObj (c2 := [.al (.ce k2 off2) T []]) hn hd hk hp hc hz rfl (by omega) (by simp [Value.cells, Value.oneCell']) (.cons (.inl ⟨rfl, rfl⟩) .nil) ?_
      rw [← set_splice _ _ _ hlt]
      exact hv4
    · exact hv1.elim
  · exact hv.elim

theorem intoE_s (hn : Next? B0 W0 N WL K next) (hd : a.defers = []) (h : Inv B0 W0 N WL B W r m a.tmps.toList) {t : TypeId} {x z : Operand}
    (hv : intoE P t z x K r m) : ∃ W', (Instr.storeAt t (a.eval z) (a.eval x)).run P W = .ok () W' ∧ next a W' := by
  have hx := vval_rep h.regs x
  have hp := vval_rep h.regs z
  unfold intoE at hv
  generalize vval r x = v at hv hx
  generalize vval r z = p at hv hp
  split at hv
  · rename_i w e l i u off g s T y
    obtain ⟨hc, hv1⟩ := chk hv
    obtain ⟨y', hy, hv2⟩ := optK_some hv1
    obtain ⟨hT, rfl⟩ := cast_some hy
    subst hT
    simp only [mapS_eq] at hv2
    rw [Bool.and_eq_true] at hc
    have hcells := RepV.cells hx
    obtain ⟨b, cap, e1, hlt, hrow, hlens⟩ := hp
    have hrow' := hrow
    obtain ⟨hb, arr, ty, fz, g1, g2, g3, g4, g5⟩ := hrow
    obtain ⟨es, f1, f2⟩ := g5 i hlt
    obtain ⟨c1, c2, c3, rfl, q1, q2, q3⟩ := hlens B W _ _ f1
    have hle := f1.len
    simp only [List.length_append] at hle
    have := q2.len
    have hb1 : (i + 1) * e.sz ≤ cap * e.sz := Nat.mul_le_mul_right _ (by omega)
    rw [Nat.add_mul] at hb1
    obtain ⟨W', arr', hr, hat, harr⟩ := run_storeVar (P := P) (n := T.sz) (off := i * e.sz + off) hc.1 hcells.len g1 g2.un (by omega) hcells.one
    rw [e1]
    refine ⟨W', hr, hn _ _ _ _ _ hd (h.turn (atW_ok h.lab hat) (atW_move hat (by rw [hb]; exact fun h => by cases h) (by rw [hb]; exact fun h => by cases h)) _ (fun q v hq => Rep0.upd h.lab hrow' hlt hlens hcells g1 hat harr hq) ?_) hv2⟩
    intro b' k hb' _
    exact ⟨hb', hat.other b' (fun e => by subst e; rw [hb] at hb'; cases hb')⟩
  · exact hv.elim

theorem store_s (hn : Next? B0 W0 N WL K next) (hd : a.defers = []) (h : Inv B0 W0 N WL B W r m a.tmps.toList) {t : TypeId} {x y : Operand} (ho : o.op = .store t x y)
    (hv : vop P Snd all o r m K E) : o.upon P a next Q ((execOp a.eval o).run P W) := by
  simp only [vop, ho] at hv
  have hrun : ∀ {W'}, (Instr.storeAt t (a.eval x) (a.eval y)).run P W = .ok () W' → (execOp a.eval o).run P W = .ok .skip W' := fun {W'} e => by
    simp only [execOp, ho, Sem.run_bind, e, Result.andThen_ok, Sem.run_pure]
  cases hdst : o.dst with
  | some d => rw [hdst] at hv; exact hv.elim
  | none =>
    rw [hdst] at hv
    simp only at hv
    suffices hs : ∃ W', (Instr.storeAt t (a.eval x) (a.eval y)).run P W = .ok () W' ∧ next a W' by
      obtain ⟨W', e, hk⟩ := hs
      exact upon_skip (hrun e) (by rw [hdst]; exact hk)
    unfold vstore at hv
    split at hv
    · rename_i k off hvx
      split at hv
      · exact vfreeze_s hv h fun B' r' m' h' hv => intoN_s hn hd h' hv
      · obtain ⟨hz, hv⟩ := chk hv
        split at hv
        · rename_i e; exact intoNil_s hn hd h hz e hv
        · split at hv
          · exact vname_s hv h fun B' r' m' h' hv => into1_s hn hd h' hz hv
          · exact vfreeze_s hv h fun B' r' m' h' hv => into1_s hn hd h' hz hv
        · exact into1_s hn hd h hz hv
    · exact vfreeze_s hv h fun B' r' m' h' hv => intoE_s hn hd h' hv
    · exact hv.elim

theorem load_s (hn : Next? B0 W0 N WL K next) (hd : a.defers = []) (h : Inv B0 W0 N WL B W r m a.tmps.toList) {t : TypeId} {x : Operand} (ho : o.op = .load t x)
    (hv : vop P Snd all o r m K E) : o.upon P a next Q ((execOp a.eval o).run P W) := by
  simp only [vop, ho] at hv
  split at hv
  · obtain ⟨c, hc, hv⟩ := optK_some hv
    exact vfreezeC_s hv h fun B' r' m' h' hv => vpure_up hn hd h' hv
  · exact vpure_up hn hd h hv

theorem sliceOp_s (hn : Next? B0 W0 N WL K next) (hd : a.defers = []) (h : Inv B0 W0 N WL B W r m a.tmps.toList) {t : TypeId} {x lo hi mx} (ho : o.op = .slice t x lo hi mx)
    (hv : vop P Snd all o r m K E) : o.upon P a next Q ((execOp a.eval o).run P W) := by
  simp only [vop, ho] at hv
  split at hv
  · exact vpure_up hn hd h hv
  · exact vfreeze_s hv h fun B' r' m' h' hv => vpure_up hn hd h' hv

theorem grownCap_ge' (w : World) (n : Nat) (e : TypeId) : n ≤ grownCap w n 0 e := grownCap_ge w n 0 e

theorem markStringish_s {b n : Nat} {arr : Array Value} {ty : TypeId} {fz : Nat × Nat} (hw : W.heap[b]? = some (.cells arr ty fz)) :
    ∃ W' fz', (markStringish ⟨b, n, none⟩).run P W = .ok () W' ∧ AtW W W' b (.cells arr ty fz') ∧ (UnF arr.size fz → UnF arr.size fz') := by
  refine ⟨W.freeze ⟨b, arr.size, none⟩ 1, if (fz.1 == fz.2) = true then (arr.size, arr.size + 1) else (min fz.1 arr.size, max fz.2 (arr.size + 1)), ?_, ?_, ?_⟩
  · unfold markStringish
    have hs : W.shape? b = some (ty, arr.size) := by simp [World.shape?, hw]
    simp only [Sem.run_bind, run_shape, hs, Result.andThen_ok, run_freeze]
  · refine ⟨by simp [World.freeze], fun k hk => ?_, ?_, rfl, rfl, rfl⟩
    · simp only [World.freeze, Nat.one_ne_zero, if_false, Array.getElem?_modify]
      rw [if_neg (fun e => hk e.symm)]
    · simp only [World.freeze, Nat.one_ne_zero, if_false, Array.getElem?_modify, if_true, hw, Option.map_some]
  · intro h
    by_cases e : fz.1 = fz.2
    · rw [if_pos (by simpa using e)]
      exact .inr (Nat.le_refl _)
    · rw [if_neg (by simpa using e)]
      rcases h with h | h
      · exact absurd h e
      · exact .inr (by simp only; omega)

theorem bytesNew_s (hn : Next? B0 W0 N WL K next) (hd : a.defers = []) (h : Inv B0 W0 N WL B W r m a.tmps.toList) {d : Nat} {e : TypeId} (s : ByteArray) (hv : vnew r m d (.int .u8) (numsOfStr s) K) :
    next (a.put (some d) (.slice (some ⟨W.heap.size, 0, none⟩) s.size (grownCap W s.size 0 e))) (W.drew.alloc (.cells (bytesRow s (grownCap W s.size 0 e)) e ((bytesRow s (grownCap W s.size 0 e)).size, (bytesRow s (grownCap W s.size 0 e)).size + 1))) := by
  have hl : (numsOfStr s).length = s.size := by simp [numsOfStr]
  have f1 := flat_ints (B := B) (W := W) .u8 (numsOfStr s)
  have hge := grownCap_ge' W s.size e
  have hsz : s.data.size = s.size := rfl
  have := vnew_row hn hd h hv (NewW.drew W (.cells (bytesRow s (grownCap W s.size 0 e)) e ((bytesRow s (grownCap W s.size 0 e)).size, (bytesRow s (grownCap W s.size 0 e)).size + 1))) f1 (cap := grownCap W s.size 0 e) (fun j v hj => by
    have hj' := (List.getElem?_eq_some_iff.1 hj).1
    simp only [List.length_map] at hj'
    unfold bytesRow
    rw [Array.getElem?_append_left (by rw [Array.size_map, hsz, ← hl]; exact hj'), ← Array.getElem?_toList]
    simpa [numsOfStr] using hj) (le_of_eq_of_le hl hge) (by
    show _ * 1 ≤ _
    unfold bytesRow
    rw [Array.size_append, Array.size_map, Array.size_replicate, hsz]
    omega) (.inr (Nat.le_refl _))
  rwa [show @List.length (Ty.int .u8).den (numsOfStr s) = s.size from hl] at this

theorem convert_s (hn : Next? B0 W0 N WL K next) (hd : a.defers = []) (h : Inv B0 W0 N WL B W r m a.tmps.toList) {src dst : TypeId} {x : Operand} (ho : o.op = .convert src dst x)
    (hv : vop P Snd all o r m K E) : o.upon P a next Q ((execOp a.eval o).run P W) := by
  simp only [vop, ho] at hv
  have hrun : ∀ {u : Value} {W'}, (convert src dst (a.eval x)).run P W = .ok u W' → (execOp a.eval o).run P W = .ok (.value u) W' := fun e => by
    simp only [execOp, ho, Sem.run_bind, e, Result.andThen_ok, Sem.run_pure]
  have hx := vval_rep h.regs x
  generalize hvx : vval r x = v at hv hx
  split at hv
  · rename_i s
    have hs := rep_str hx
    split at hv
    · rename_i e h1 h2
      split at hv
      · rename_i d h3 hdst
        obtain ⟨hz, hv⟩ := chk hv
        refine upon_val (hrun (by rw [hs]; exact run_bytes_of_string W src dst e s h1 h2 h3)) ?_
        rw [hdst]
        exact bytesNew_s hn hd h s hv
      · exact hv.elim
    · exact vpure_up hn hd h (by rw [← hvx] at *; exact hv)
  · rename_i w l
    split at hv
    · rename_i e0 e h1 h2
      split at hv
      · rename_i h3
        obtain ⟨hsd, hlt, hv9⟩ := chk hv
        obtain rfl := Nat.eq_of_beq_eq_true hsd
        rcases hx with ⟨e1, e2⟩ | ⟨b, cap, e1, hb, arr, ty, fz, g1, g2, g3, g4, g5⟩
        · subst e2; simp at hlt
        · obtain ⟨W', fz', hm, hat, hun⟩ := markStringish_s (P := P) (n := 0) g1
          have hr := hrun (u := a.eval x) (W' := W') (by
            rw [e1]
            simp only [convert, Sem.run_bind, run_underlying h2, run_underlying h3, Result.andThen_ok, beq_self_eq_true, hm, Sem.run_pure])
          refine upon_val hr ?_
          have hrow : ∀ {q : A0} {u : Value}, Rep0 B W q u → Rep0 B W' q u := by
            intro q u hq
            have hxx := atW_ext hat hb
            cases q with
            | al w' e' l' =>
              by_cases hw : w' = w
              · subst hw
                rcases hq with ⟨q1, q2⟩ | ⟨b', cap', q1, hb', arr', ty', fz2, p1, p2, p3, p4, p5⟩
                · exact .inl ⟨q1, q2⟩
                · obtain rfl := h.lab.rows b' b _ hb' hb
                  rw [g1] at p1; cases p1
                  refine .inr ⟨b', cap', q1, hb, arr, ty, fz', hat.here, hun p2, p3, p4, ?_⟩
                  intro i hi
                  obtain ⟨es, f1, f2⟩ := p5 i hi
                  refine ⟨es, RepC.ext hxx.s f1, fun j v hj => ?_⟩
                  have := f2 j v hj
                  rw [Addr.add_lit, cell_arr g1] at this
                  rw [Addr.add_lit, cell_arr hat.here]; exact this
              · exact Rep0.ext hxx (fun u hu hd => hw (hu.trans hd)) (fun _ _ h => h) hq
            | vp w' e' l' i' t' off' g' s' =>
              by_cases hw : w' = w
              · subst hw
                obtain ⟨b', cap', q1, hi', ⟨hb', arr', ty', fz2, p1, p2, p3, p4, p5⟩, hl⟩ := hq
                obtain rfl := h.lab.rows b' b _ hb' hb
                rw [g1] at p1; cases p1
                refine ⟨b', cap', q1, hi', ⟨hb, arr, ty, fz', hat.here, hun p2, p3, p4, ?_⟩, hl⟩
                intro i hi
                obtain ⟨es, f1, f2⟩ := p5 i hi
                refine ⟨es, RepC.ext hxx.s f1, fun j v hj => ?_⟩
                have := f2 j v hj
                rw [Addr.add_lit, cell_arr g1] at this
                rw [Addr.add_lit, cell_arr hat.here]; exact this
              · exact Rep0.ext hxx (fun u hu hd => hw (hu.trans hd)) (fun _ _ h => h) hq
            | undef => trivial
            | val t x => exact RepV.ext hxx.s hq
            | pv t x => exact Rep0.ext hxx (fun _ h => h.elim) (fun _ _ h => h) hq
            | full e l => exact Rep0.ext hxx (fun _ h => h.elim) (fun _ _ h => h) hq
            | sc v => exact hq
            | ptr k off => exact Rep0.ext hxx (fun _ h => h.elim) (fun _ _ h => h) hq
          have hi := h.turn (atW_ok h.lab hat) (atW_move hat (by rw [hb]; exact fun h => by cases h) (by rw [hb]; exact fun h => by cases h)) id (fun q v hq => hrow hq) (fun b' k hb' _ =>
            ⟨hb', hat.other b' (fun e => by subst e; rw [hb] at hb'; cases hb')⟩)
          rw [mmap_id, rmap_id] at hi
          refine vput_s hn hd hi hv9 (hrow (q := .al w (.int .u8) l) (.inr ⟨b, cap, e1, hb, arr, ty, fz, g1, g2, g3, g4, g5⟩))
      · exact hv.elim
    · exact vpure_up hn hd h (by rw [← hvx] at *; exact hv)
  · exact vpure_up hn hd h (by rw [← hvx] at *; exact hv)

theorem panicOp_s (he : Exc? B0 W0 N WL E Q) (hd : a.defers = []) (h : Inv B0 W0 N WL B W r m a.tmps.toList) {x : Operand} (ho : o.op = .panic x)
    (hv : vop P Snd all o r m K E) : o.upon P a next Q ((execOp a.eval o).run P W) := by
  simp only [vop, ho] at hv
  have hx := vval_rep h.regs x
  generalize vval r x = v at hv hx
  split at hv
  · have hx' := hx
    obtain ⟨u, e, hu⟩ := hx'
    have hrun : (execOp a.eval o).run P W = .halt (.panic (a.eval x)) W := by
      simp only [execOp, ho, Sem.run_bind, run_panic e, e]; rfl
    rw [hrun]
    exact he _ _ _ _ _ _ hd h.lab h.low h.move hx h.mem hv
  · exact hv.elim

end

end Go.V
