/- V: a function as a whole. Conditions: as each states. -/
import Derived.Test.YtimhjbihhchieaaVW
namespace Go.V
set_option linter.unusedVariables false
set_option linter.unusedSimpArgs false

section
variable {B0 : Lab} {W0 : World} {N : Nat} {WL : World} {B : Lab} {W W' : World} {r : Regs} {m : Mem} {P : Program} {tm : Array Value}

theorem vresults_s {G : Prop} {own : List Nat} {K : Regs → Mem → Prop} : ∀ {l : List ResultVar} {j : Nat} {B : Lab} {r : Regs} {m : Mem}, vresults P own l j r m K → Inv B0 W0 N WL B W r m tm.toList →
    (∀ B r m, Inv B0 W0 N WL B W r m tm.toList → K r m → G) → G
  | [], _, _, _, _, hv, h, k => k _ _ _ h hv
  | .tmp t :: l, j, B, r, m, hv, h, k => by
    simp only [vresults] at hv
    split at hv
    · split at hv
      · exact vname_s hv h fun B r m h hv => vresults_s hv h k
      · simp only [mapS_eq] at hv
        exact vresults_s hv (h.frz _) k
    · exact vresults_s hv h k
  | .cell a t :: l, j, B, r, m, hv, h, k => by
    simp only [vresults] at hv
    split at hv
    · obtain ⟨c, hc, hv⟩ := optK_some hv
      split at hv
      · exact vfreezeC_s hv h fun B r m h hv => vresults_s hv h k
      · obtain ⟨y, hy, hv⟩ := optK_some hv
        split at hv
        · split at hv
          · exact vname_s hv h fun B r m h hv => vresults_s hv h k
          · simp only [mapS_eq] at hv
            exact vresults_s hv (h.frz _) k
        · exact vresults_s hv h k
    · exact hv.elim

def reL (B : Lab) (k : Nat) : Lab := fun b => match B b with
  | .obj j => if j = 2000 then .no else if j = k then .obj 2000 else .obj j
  | .row (.ce j o) => if j = 2000 then .no else if j = k then .row (.ce 2000 o) else .row (.ce j o)
  | x => x

theorem reL_obj {k b j : Nat} (h : reL B k b = .obj j) : (B b = .obj j ∧ j ≠ 2000) ∨ (B b = .obj k ∧ j = 2000) := by
  unfold reL at h
  split at h
  · rename_i i hi
    split at h
    · cases h
    · split at h
      · rename_i e; cases h; subst e; exact .inr ⟨hi, rfl⟩
      · cases h; exact .inl ⟨hi, by assumption⟩
  · split at h
    · cases h
    · split at h <;> cases h
  · rename_i n1 n2; exact absurd h (n1 j)
theorem reL_row {k b : Nat} {w : Ow} (h : reL B k b = .row w) : (B b = .row w ∧ ∀ o, w ≠ .ce 2000 o) ∨ ∃ o, B b = .row (.ce k o) ∧ w = .ce 2000 o := by
  unfold reL at h
  split at h
  · split at h
    · cases h
    · split at h <;> cases h
  · rename_i i o hi
    split at h
    · cases h
    · rename_i hne
      split at h
      · rename_i e; cases h; subst e; exact .inr ⟨o, hi, rfl⟩
      · cases h; exact .inl ⟨hi, fun o' e => by cases e; exact hne rfl⟩
  · rename_i n1 n2
    refine .inl ⟨h, fun o e => ?_⟩
    subst e
    exact n2 _ _ h
theorem reL_ok (h : LabOK B W) {k : Nat} : LabOK (reL B k) W where
  dom := fun b hb => h.dom b fun e => hb (by simp [reL, e])
  rows := fun b b' w h1 h2 => by
    rcases reL_row h1 with ⟨e1, n1⟩ | ⟨o, e1, q1⟩ <;> rcases reL_row h2 with ⟨e2, n2⟩ | ⟨o', e2, q2⟩
    · exact h.rows b b' w e1 e2
    · exact absurd q2 (n1 o')
    · exact absurd q1 (n2 o)
    · rw [q1] at q2; cases q2; exact h.rows b b' _ e1 e2
  objs := fun b b' j h1 h2 => by
    rcases reL_obj h1 with ⟨e1, n1⟩ | ⟨e1, q1⟩ <;> rcases reL_obj h2 with ⟨e2, n2⟩ | ⟨e2, q2⟩
    · exact h.objs b b' j e1 e2
    · exact absurd q2 n1
    · exact absurd q1 n2
    · exact h.objs b b' _ e1 e2
theorem reL_st {k b : Nat} (h : B b = .st) : reL B k b = .st := by simp [reL, h]
theorem reL_move {k : Nat} (hk : k < 1000) : Move B W (reL B k) W :=
  ⟨Nat.le_refl _, rfl, rfl, rfl, fun b h => ⟨reL_st h, rfl⟩, fun b _ h => ⟨by simp [reL, h], rfl⟩, fun b j h1 h2 h => by
    have e1 : j ≠ 2000 := by omega
    have e2 : j ≠ k := by omega
    simp [reL, h, e1, e2]⟩
theorem reL_s {k : Nat} : ExtS B W (reL B k) W := ⟨fun b h => ⟨reL_st h, rfl⟩⟩

theorem RowBlk.re {w w' : Ow} {k : Nat} (hw : ∀ b, B b = .row w → reL B k b = .row w') {e : Ty} {l : List e.den} {cap b : Nat} (h : RowBlk B W w e l cap b) : RowBlk (reL B k) W w' e l cap b := by
  obtain ⟨hb, arr, ty, fz, h1, h2, h3, h4, h5⟩ := h
  exact ⟨hw b hb, arr, ty, fz, h1, h2, h3, h4, h5.mono (fun x es _ h => RepC.ext reL_s h) rfl⟩
theorem OwnRow.re {w w' : Ow} {k : Nat} (hw : ∀ b, B b = .row w → reL B k b = .row w') {e : Ty} {l : List e.den} {v : Value} (h : OwnRow B W w e l v) : OwnRow (reL B k) W w' e l v := by
  rcases h with h | ⟨b, cap, rfl, h⟩
  · exact .inl h
  · exact .inr ⟨b, cap, rfl, h.re hw⟩

theorem Rep0.re {k : Nat} {q : A0} {v : Value} (h : Rep0 B W q v) : Rep0 (reL B k) W (q.reKey k) v := by
  have keepS : ∀ {q : A0}, (∀ w, ¬ q.has w) → (∀ k, ¬ q.at k) → Rep0 B W q v → Rep0 (reL B k) W q v := fun h1 h2 h =>
    Rep0.ext (dr := fun _ => True) (dk := fun _ => True) ⟨fun b hb => ⟨reL_st hb, rfl⟩, fun b w hb hn => (hn trivial).elim, fun b k hb hn => (hn trivial).elim⟩ (fun w hw => (h1 w hw).elim) (fun k hk => (h2 k hk).elim) h
  cases q with
  | undef => trivial
  | val t x => exact keepS (fun _ h => h) (fun _ h => h) h
  | pv t x => exact keepS (fun _ h => h) (fun _ h => h) h
  | full e l => exact keepS (fun _ h => h) (fun _ h => h) h
  | sc v => exact h
  | ptr j off =>
    simp only [A0.reKey]
    obtain ⟨b, hb, rfl⟩ := h
    cases e1 : Nat.beq j 2000 with
    | true => trivial
    | false =>
      have n1 : j ≠ 2000 := fun e => by rw [e, Nat.beq_refl] at e1; cases e1
      cases e2 : Nat.beq j k with
      | true => exact ⟨b, by have e3 := Nat.eq_of_beq_eq_true e2; subst e3; simp [reL, hb, n1], rfl⟩
      | false =>
        have n2 : j ≠ k := fun e => by rw [e, Nat.beq_refl] at e2; cases e2
        exact ⟨b, by simp [reL, hb, n1, n2], rfl⟩
  | al w e l =>
    cases w with
    | ce j o =>
      simp only [A0.reKey]
      cases e1 : Nat.beq j 2000 with
      | true => trivial
      | false =>
        have n1 : j ≠ 2000 := fun e => by rw [e, Nat.beq_refl] at e1; cases e1
        cases e2 : Nat.beq j k with
        | true => exact OwnRow.re (fun b hb => by have e3 := Nat.eq_of_beq_eq_true e2; subst e3; simp [reL, hb, n1]) h
        | false =>
          have n2 : j ≠ k := fun e => by rw [e, Nat.beq_refl] at e2; cases e2
          exact OwnRow.re (fun b hb => by simp [reL, hb, n1, n2]) h
    | _ => exact OwnRow.re (fun b hb => by simp [reL, hb]) h
  | vp w e l i t off g s =>
    cases w with
    | ce j o =>
      simp only [A0.reKey]
      cases e1 : Nat.beq j 2000 with
      | true => trivial
      | false =>
        have n1 : j ≠ 2000 := fun e => by rw [e, Nat.beq_refl] at e1; cases e1
        cases e2 : Nat.beq j k with
        | true => trivial
        | false =>
          have n2 : j ≠ k := fun e => by rw [e, Nat.beq_refl] at e2; cases e2
          obtain ⟨b, cap, rfl, hi, hb, hl⟩ := h
          exact ⟨b, cap, rfl, hi, hb.re (fun b hb => by simp [reL, hb, n1, n2]), hl⟩
    | _ =>
      obtain ⟨b, cap, rfl, hi, hb, hl⟩ := h
      exact ⟨b, cap, rfl, hi, hb.re (fun b hb => by simp [reL, hb]), hl⟩

theorem reMem_s {k : Nat} {p : Nat × List A0} : ∀ {m : Mem}, p ∈ reMem k m → ∃ q ∈ m, p.2 = q.2.map (A0.reKey k) ∧ ((p.1 = q.1 ∧ q.1 ≠ 2000 ∧ q.1 ≠ k) ∨ (p.1 = 2000 ∧ q.1 = k ∧ q.1 ≠ 2000))
  | [], h => by simp [reMem] at h
  | (j, c) :: l, h => by
    simp only [reMem] at h
    cases e1 : Nat.beq j 2000 with
    | true =>
      rw [e1] at h
      obtain ⟨q, hq, r⟩ := reMem_s h
      exact ⟨q, List.mem_cons_of_mem _ hq, r⟩
    | false =>
      have n1 : j ≠ 2000 := fun e => by rw [e, Nat.beq_refl] at e1; cases e1
      rw [e1] at h
      simp only [cond_false] at h
      cases e2 : Nat.beq j k with
      | true =>
        rw [e2] at h
        rcases List.mem_cons.1 h with rfl | h
        · exact ⟨_, List.mem_cons_self, rfl, .inr ⟨rfl, Nat.eq_of_beq_eq_true e2, n1⟩⟩
        · obtain ⟨q, hq, r⟩ := reMem_s h
          exact ⟨q, List.mem_cons_of_mem _ hq, r⟩
      | false =>
        have n2 : j ≠ k := fun e => by rw [e, Nat.beq_refl] at e2; cases e2
        rw [e2] at h
        rcases List.mem_cons.1 h with rfl | h
        · exact ⟨_, List.mem_cons_self, rfl, .inl ⟨rfl, n1, n2⟩⟩
        · obtain ⟨q, hq, r⟩ := reMem_s h
          exact ⟨q, List.mem_cons_of_mem _ hq, r⟩

theorem reMem_nodup {k : Nat} : ∀ {m : Mem}, (m.map (·.1)).Nodup → ((reMem k m).map (·.1)).Nodup
  | [], _ => by simp [reMem]
  | (j, c) :: l, h => by
    rw [List.map_cons, List.nodup_cons] at h
    have ih := reMem_nodup (k := k) h.2
    simp only [reMem]
    cases e1 : Nat.beq j 2000 with
    | true => exact ih
    | false =>
      have n1 : j ≠ 2000 := fun e => by rw [e, Nat.beq_refl] at e1; cases e1
      simp only [cond_false]
      cases e2 : Nat.beq j k with
      | true =>
        simp only [cond_true, List.map_cons, List.nodup_cons]
        refine ⟨fun hm => ?_, ih⟩
        obtain ⟨p, hp, e⟩ := List.mem_map.1 hm
        obtain ⟨q, hq, _, (⟨g1, g2, g3⟩ | ⟨g1, g2, g3⟩)⟩ := reMem_s hp
        · exact g2 (g1.symm.trans e)
        · exact h.1 (List.mem_map.2 ⟨q, hq, g2.trans (Nat.eq_of_beq_eq_true e2).symm⟩)
      | false =>
        simp only [cond_false, List.map_cons, List.nodup_cons]
        refine ⟨fun hm => ?_, ih⟩
        obtain ⟨p, hp, e⟩ := List.mem_map.1 hm
        obtain ⟨q, hq, _, (⟨g1, g2, g3⟩ | ⟨g1, g2, g3⟩)⟩ := reMem_s hp
        · exact h.1 (List.mem_map.2 ⟨q, hq, g1.symm.trans e⟩)
        · exact n1 (e.symm.trans g1)

theorem vesc_s {G : Prop} {own : List Nat} {K : Regs → Mem → Prop} (hv : vesc own r m K) (h : Inv B0 W0 N WL B W r m tm.toList) (k : ∀ B r m, Inv B0 W0 N WL B W r m tm.toList → K r m → G) : G := by
  unfold vesc at hv
  split at hv
  · exact k _ _ _ h hv
  · rename_i j _
    obtain ⟨hlt, hv⟩ := chk hv
    simp only [fr_eq, fm_eq] at hv
    have hlt : j < 1000 := by simpa [Nat.blt_eq] using hlt
    refine k (reL B j) _ _ ⟨reL_ok h.lab, h.low.move (reL_move hlt), h.move.trans (reL_move hlt), forall2_map h.regs fun _ _ ha => RepA.map (fun _ _ hb => Rep0.re hb) ha, reMem_nodup h.mem.1, fun p hp => ?_⟩ hv
    obtain ⟨q, hq, hc, hk⟩ := reMem_s hp
    obtain ⟨b, arr, ty, hb, hw, hcs⟩ := h.mem.2 q hq
    refine ⟨b, arr, ty, ?_, hw, by rw [hc]; exact forall2_map hcs fun _ _ ha => Rep0.re ha⟩
    rcases hk with ⟨g1, g2, g3⟩ | ⟨g1, g2, g3⟩
    · rw [g1]; simp [reL, hb, g2, g3]
    · rw [g1]
      unfold reL
      rw [hb]
      simp only
      rw [if_neg g3, if_pos g2]

theorem getD_rep {r : Regs} {tm : Array Value} (h : All2 (RepA B W) r tm.toList) {t : Nat} : RepA B W (r.getD t (.lf .undef)) (tm.getD t undef) := by
  have := vval_rep (a := { tmps := tm, defers := [] }) h (.tmp t)
  exact this

def resF (tm : Array Value) : ResultVar → Sem Value
  | .tmp t => pure (tm.getD t undef)
  | .cell a t => do loadVar t (← asAddr (tm.getD a undef))

theorem resF_cell {x t : Nat} {ad : Addr} (e : tm.getD x undef = .pointer (some ad)) : (resF tm (.cell x t)).run P W = (loadVar t ad).run P W := by
  simp only [resF, Sem.run_bind, e, asAddr, Sem.run_pure, Result.andThen_ok]

theorem collect_s (hl : LabOK B W) (hm : MemOK B W m) (h : All2 (RepA B W) r tm.toList) : ∀ {l : List ResultVar} {xs : List A0}, collect P r m l = some xs →
    ∃ vs : List Value, (l.mapM (resF tm)).run P W = .ok vs W ∧ All2 (Rep0 B W) xs vs
  | [], xs, hc => by
    simp only [collect, Option.some.injEq] at hc
    subst hc
    exact ⟨[], by simp, .nil⟩
  | .tmp t :: l, xs, hc => by
    simp only [collect] at hc
    split at hc
    · rename_i a xs' ha hc'
      cases hc
      obtain ⟨vs, hr, hvs⟩ := collect_s hl hm h hc'
      have hu := getD_rep h (t := t)
      rw [ha] at hu
      refine ⟨tm.getD t undef :: vs, ?_, .cons hu hvs⟩
      rw [List.mapM_cons]
      simp only [Sem.run_bind, Sem.run_pure, Result.andThen_ok, hr, resF]
    · cases hc
  | .cell x t :: l, xs, hc => by
    simp only [collect] at hc
    split at hc
    · rename_i k off d xs' ha hund hc'
      obtain ⟨vs, hr, hvs⟩ := collect_s hl hm h hc'
      have hu := getD_rep h (t := x)
      rw [ha] at hu
      obtain ⟨b, hb, e⟩ := hu
      have hund' : (P.underlying t).isSome = true := by rw [hund]; rfl
      split at hc
      · rename_i c hmk hag
        obtain ⟨arr, ty, hw, hcs⟩ := obj_cells hl hm hmk hb
        split at hc
        · rename_i y hy
          cases hc
          obtain ⟨u, hu, hur⟩ := hcs.get _ _ hy
          rw [Array.getElem?_toList] at hu
          refine ⟨u :: vs, ?_, .cons hur hvs⟩
          rw [List.mapM_cons]
          have h0 : (resF tm (.cell x t)).run P W = .ok u W := by
            rw [resF_cell e]
            simp only [loadVar, Sem.run_bind, Result.andThen_ok, run_isAgg hund', hag, Bool.false_eq_true, if_false, run_load, cell_arr hw, hu]
          simp only [Sem.run_bind, Sem.run_pure, Result.andThen_ok, hr, h0]
        · cases hc
      · rename_i c hmk hag
        obtain ⟨arr, ty, hw, hcs⟩ := obj_cells hl hm hmk hb
        split at hc
        · rename_i T hT
          split at hc
          · rename_i y rest hz hy
            cases hc
            rw [Bool.and_eq_true] at hz
            obtain ⟨cs, vs', hvs', hcr, _⟩ := packT_s hy (hcs.drop _)
            obtain ⟨u, hu, hur⟩ := run_loadVar (P := P) hund' hz.1 (by rw [hag, hz.2]) hcr (ad := ⟨b, _, none⟩) (fun j q hj => by
              rw [Addr.add_lit, cell_arr hw, ← Array.getElem?_toList, ← List.getElem?_drop, hvs', List.getElem?_append_left (List.getElem?_eq_some_iff.1 hj).1]
              exact hj)
            refine ⟨u :: vs, ?_, .cons hur hvs⟩
            rw [List.mapM_cons]
            have h0 : (resF tm (.cell x t)).run P W = .ok u W := by rw [resF_cell e, hu]
            simp only [Sem.run_bind, Sem.run_pure, Result.andThen_ok, hr, h0]
          · cases hc
        · cases hc
      · cases hc
    · cases hc

theorem exitN_rep {q : A0} {v : Value} (h : Rep0 B W q v) : Rep0 B W q.exitN v := by
  cases q with
  | ptr k off =>
    simp only [A0.exitN]
    cases Nat.ble 1000 k
    · trivial
    · exact h
  | al w e l =>
    cases w with
    | rt j => exact h
    | ce k o =>
      simp only [A0.exitN]
      cases Nat.ble 1000 k
      · trivial
      · exact h
    | _ => trivial
  | vp w e l i t off g s => trivial
  | _ => exact h

theorem exitM_ok (h : MemOK B W m) : MemOK B W (exitM m) := by
  refine ⟨?_, ?_⟩
  · have : (exitM m).map (·.1) = (m.filter fun p => Nat.ble 1000 p.1).map (·.1) := by simp [exitM]
    rw [this]
    exact h.1.sublist (List.Sublist.map _ List.filter_sublist)
  · intro p hp
    obtain ⟨q, hq, rfl⟩ := List.mem_map.1 hp
    obtain ⟨b, arr, ty, h1, h2, h3⟩ := h.2 q (List.mem_filter.1 hq).1
    exact ⟨b, arr, ty, h1, h2, forall2_map h3 fun _ _ h => exitN_rep h⟩

theorem results_s {fn : Func} {xs : List A0} {vs : List Value} (hr : (fn.results.toList.mapM (resF tm)).run P W = .ok vs W)
    (h : All2 (Rep0 B W) xs vs) : ∃ v, (results fn tm).run P W = .ok v W ∧ RepA B W (ofResults xs) v := by
  refine ⟨if h : vs.toArray.size = 1 then vs.toArray[0] else .tuple vs.toArray, ?_, ?_⟩
  · have e : results fn tm = (do let vs ← fn.results.mapM (resF tm); pure (if h : vs.size = 1 then vs[0] else .tuple vs)) := by
      unfold results
      congr 1
    rw [e, Sem.run_bind, Array.mapM_eq_mapM_toList, Sem.run_map, hr]
    simp only [Result.andThen_ok, Sem.run_pure]
  · cases h with
    | nil => exact ⟨#[], rfl, .nil⟩
    | cons hx ht =>
      cases ht with
      | nil => exact hx
      | cons hy hz => exact ⟨_, by simp, .cons hx (.cons hy hz)⟩

theorem All2.undefs (l : List Value) : All2 (RepA B W) (V.undefs l.length) l := by
  induction l with
  | nil => exact .nil
  | cons x l ih => exact .cons trivial ih

/-- What a function's code shows is what its calls do. -/
theorem Sound.of (hmix : P.follows .mixedOrders = true) {f : FuncId} {fn : Func} {c : Code} {xs : List AV} {Q : Out → Prop} (own : List Nat) (hf : P.funcs[f]? = some fn) (hname : (fn.name == "runtime.NumGoroutine") = false) (hb : fn.body = some c)
    (h : fr (xs ++ undefs (fn.ntmps - xs.length)) fun r => fm m fun m => vexec P (Sound P N WL) c r m (vend P fn own Q)) : Sound P N WL f xs m Q := by
  refine ⟨⟨fn, hf, hname, by rw [hb]; rfl⟩, ?_⟩
  intro B W vs h1 h2 h3 h4
  simp only [fr_eq, fm_eq] at h
  refine calls_of_wp hf hb ?_
  have hreg : All2 (RepA B W) (xs ++ undefs (fn.ntmps - xs.length)) (vs.toArray ++ Array.replicate (fn.ntmps - vs.toArray.size) undef).toList := by
    rw [Array.toList_append]
    refine h3.append ?_
    have hlen : vs.toArray.size = xs.length := by rw [List.size_toArray, h3.len]
    rw [hlen]
    have := All2.undefs (B := B) (W := W) (Array.replicate (fn.ntmps - xs.length) undef).toList
    simpa using this
  refine vexec_s hmix (B0 := B) (W0 := W) (B := B) (W := W) (r := xs ++ undefs (fn.ntmps - xs.length)) (m := m) (a := { tmps := vs.toArray ++ Array.replicate (fn.ntmps - vs.toArray.size) undef, defers := [] }) c ?_ rfl ⟨h1, h2, Move.refl _ _, hreg, h4⟩ h
  have fin : ∀ {B' : Lab} {W' : World} {r : Regs} {m : Mem} {a : Act}, Inv B W N WL B' W' r m a.tmps.toList →
      (vesc own r m fun r m => vresults P own fn.results.toList 0 r m fun r m => optK (collect P r m fn.results.toList) fun xs => fl0 (xs.map A0.exitN) fun xs => fm (exitM m) fun m => Q (.ret (ofResults xs) m)) →
      ∃ v, (results fn a.tmps).run P W' = .ok v W' ∧ ∃ o B'', Q o ∧ LabOK B'' W' ∧ Low N WL B'' W' ∧ Move B W B'' W' ∧ EndRep B'' W' (.returned v) o := by
    intro B' W' r m a hi hv
    refine vesc_s hv hi fun B' r m hi hv => ?_
    refine vresults_s hv hi fun B' r m hi hv => ?_
    obtain ⟨xs, hxs, hv⟩ := optK_some hv
    simp only [fl0_eq, fm_eq] at hv
    obtain ⟨vs, hr, hvs⟩ := collect_s hi.lab hi.mem hi.regs hxs
    obtain ⟨v, hr', hrep⟩ := results_s hr (forall2_map hvs fun _ _ h => exitN_rep h)
    exact ⟨v, hr', _, B', hv, hi.lab, hi.low, hi.move, hrep, exitM_ok hi.mem⟩
  refine ⟨?_, ?_⟩
  · intro x hx B' W' r m a hd hi hk
    cases x with
    | normal => exact ⟨hd, fin hi hk⟩
    | ret => exact ⟨hd, fin hi hk⟩
    | exit i => exact hk.elim
    | panic v => exact (hx v rfl).elim
  · intro r B' W' v u m a hd h1 h2 h3 h4 h5 hk
    simp only [vend, fv_eq, fm_eq] at hk
    exact ⟨hd, _, B', hk, h1, h2, h3, u, rfl, RepA.map (fun _ _ h => exitN_rep h) h4, exitM_ok h5⟩

end

end Go.V
