/- V: calls, and code. Conditions: as each states. -/
import Derived.Test.YtimhjbihhchieaaVO
import Derived.Scope
import Derived.LoopN
namespace Go.V
set_option linter.unusedVariables false
set_option linter.unusedSimpArgs false

section
variable {B0 : Lab} {W0 : World} {N : Nat} {WL : World} {B : Lab} {W W' : World} {r : Regs} {m : Mem} {P : Program} {a : Act} {Snd : SND}

theorem run_enter {f : FuncId} (h : Callable P f) (args : Array Value) : (callFunc f args).run P W = .ok (.enter f args) W := by
  obtain ⟨fn, hf, h1, h2⟩ := h
  have h1 : fn.name ≠ "runtime.NumGoroutine" := by simpa using h1
  have h2 : ¬ fn.body = none := fun e => by rw [e] at h2; cases h2
  simp [callFunc, hf, h1, h2]

theorem coerce_rep {t : TypeId} {v : AV} {u : Value} (h : RepA B W v u) : RepA B W (coerce P t v) u := by
  unfold coerce
  split
  · split
    · split
      · obtain rfl : u = _ := h
        exact ⟨none, 0, rfl, Nat.le_refl _, .inl rfl⟩
      · exact h
    · exact h
  · exact h

theorem argsOf_rep (h : All2 (RepA B W) r a.tmps.toList) : ∀ (l : List Operand) (ts : List TypeId), All2 (RepA B W) (argsOf P r l ts) (l.map a.eval)
  | [], _ => .nil
  | x :: l, [] => .cons (vval_rep h x) (argsOf_rep h l [])
  | x :: l, t :: ts => .cons (coerce_rep (vval_rep h x)) (argsOf_rep h l ts)

theorem vcall_s {K : Regs → Mem → Prop} {next : Act → World → Prop} {Q : Exit → Act → World → Prop} {o : Oper} {E : AV → Mem → Prop} (hSnd : ∀ f xs m Q, Snd f xs m Q → Sound P N WL f xs m Q) (hn : Next? B0 W0 N WL K next) (he : Exc? B0 W0 N WL E Q) (hd : a.defers = []) (h : Inv B0 W0 N WL B W r m a.tmps.toList)
    {f : FuncId} {xs : List AV} {vs : Array Value} (hxs : All2 (RepA B W) xs vs.toList)
    (hv : vcall Snd f xs (o.dst.getD 9999) r m (fun v r m => vput r m o.dst v K) E) : o.upon P a next Q ((callFunc f vs).run P W) := by
  obtain ⟨ks, mv, Q', hv⟩ := hv
  obtain ⟨hok, hv⟩ := chk hv
  simp only [fl_eq, fm_eq, fr_eq] at hv
  simp only [callOK, Bool.and_eq_true, Bool.not_eq_true', Option.isSome_eq_false_iff, Option.isNone_iff_eq_none, List.all_eq_true] at hok
  obtain ⟨⟨⟨⟨h1, h2⟩, h3⟩, h4⟩, h5⟩ := hok
  obtain ⟨hS, hK⟩ := hv
  replace hS := hSnd _ _ _ _ hS
  have hnd := nodup_of h1
  have hfr : 3000 + o.dst.getD 9999 ∉ ks := idxOf_none h4
  have hix : ∀ n k, ks[n]? = some k → idxOf k ks 0 = some n := fun n k hk => by
    obtain ⟨i, hi⟩ := idxOf_isSome (j := 0) (List.mem_of_getElem? hk)
    obtain ⟨n', e, hn'⟩ := idxOf_get hi
    rw [hi, e, get_inj hnd hk hn', Nat.zero_add]
  obtain ⟨s1, s2, s3⟩ := subM_ok (mv := mv) h.mem hix (l := ks) (j := 0) (fun n k hk => by simpa using hk) (fun k hk => h3 k hk)
  rw [run_enter hS.1, Oper.upon_enter]
  have := hS.2 (inLab ks mv B) W vs.toList (inLab_ok h.lab h2) (inLab_low h.low) (forall2_map hxs fun _ _ ha => RepA.map (fun _ _ hb => Rep0.into hb) ha) ⟨s1, s3⟩
  rw [Array.toArray_toList] at this
  refine this.mono ?_
  rintro e W' ⟨o', B', q, l1, l2, l3, l4⟩
  have hb : Back B W B' W' ks mv (o.dst.getD 9999) := ⟨h.lab, l1, l3, hnd, hfr, Nat.le_of_ble_eq_true h5⟩
  have hk := hK o' q
  have hregs : All2 (RepA (outLab ks mv (o.dst.getD 9999) W.heap.size B B') W') (r.map (AV.map (A0.outn ks mv (o.dst.getD 9999)))) a.tmps.toList :=
    forall2_map h.regs fun _ _ ha => RepA.map (fun _ _ hb' => Rep0.outn hb hb') ha
  cases e with
  | returned u =>
    cases o' with
    | panic _ _ => exact l4.elim
    | ret v m' =>
      obtain ⟨hv, hm'⟩ := l4
      simp only [fv_eq, fm_eq] at hk
      exact vput_s hn hd ⟨hb.ok, h.low.move hb.out, h.move.trans hb.out, hregs, hb.mem h.mem hm'⟩ hk (RepA.map (fun _ _ hq => Rep0.back hb hq) hv)
  | panicked ch =>
    cases o' with
    | ret _ _ => exact l4.elim
    | panic v m' =>
      obtain ⟨u, rfl, hv, hm'⟩ := l4
      simp only [fv_eq, fm_eq] at hk
      exact he _ _ _ _ _ _ hd hb.ok (h.low.move hb.out) (h.move.trans hb.out) (RepA.map (fun _ _ hq => Rep0.back hb hq) hv) (hb.mem h.mem hm') hk
  | outgrown => exact l4.elim

theorem forall2_lf {R : AV → Value → Prop} {S : A0 → Value → Prop} (hr : ∀ a v, S a v → R (.lf a) v) : ∀ {l : List A0} {l' : List Value}, All2 S l l' → All2 R (l.map .lf) l'
  | _, _, .nil => .nil
  | _, _, .cons h t => .cons (hr _ _ h) (forall2_lf hr t)

theorem vop_s {K : Regs → Mem → Prop} {next : Act → World → Prop} {Q : Exit → Act → World → Prop} {o : Oper} {E : AV → Mem → Prop} {all : List Oper} (hSnd : ∀ f xs m Q, Snd f xs m Q → Sound P N WL f xs m Q) (hn : Next? B0 W0 N WL K next) (he : Exc? B0 W0 N WL E Q) (hd : a.defers = []) (h : Inv B0 W0 N WL B W r m a.tmps.toList)
    (hv : vop P Snd all o r m K E) : o.wp P a W next Q := by
  unfold Oper.wp
  cases hc : isCall o.op with
  | false => exact vop_s0 hn he hd h hc hv
  | true =>
    cases ho : o.op
    case call c =>
      obtain ⟨callee, args, ats⟩ := c
      cases callee with
      | value f =>
        simp only [vop, ho] at hv
        have hf := vval_rep h.regs f
        split at hv
        · rename_i g x y hg
          rw [hg] at hf
          obtain ⟨va, vb, e, h1, h2⟩ := hf
          have hrun : (execOp a.eval o).run P W = (callFunc g ((va ++ args.map a.eval) ++ vb)).run P W := by
            simp only [execOp, ho, resolve, e, Deferred.ofValue, Sem.run_bind, Sem.run_pure, Result.andThen_ok, invoke]
          rw [hrun]
          refine vcall_s hSnd hn he hd h ?_ hv
          rw [Array.toList_append, Array.toList_append, Array.toList_map]
          exact ((forall2_lf (fun _ _ h => h) h1).append (argsOf_rep h.regs _ _)).append (forall2_lf (fun _ _ h => h) h2)
        · exact hv.elim
      | invoke x n => rw [ho] at hc; cases hc
      | builtin b => rw [ho] at hc; cases hc
    all_goals (rw [ho] at hc; cases hc)

theorem vguard_s {all : List Oper} {ops : Array Oper} (hops : ops.toList = all) {o : Oper} {X Y G : Prop} (h : All2 (RepA B W) r a.tmps.toList) (hv : vguard all r o X Y)
    (h1 : Region.wanted o (yielded ops a.tmps) = true → X → G) (h2 : Region.wanted o (yielded ops a.tmps) = false → Y → G) : G := by
  subst hops
  unfold vguard at hv
  split at hv
  · rename_i hg; exact h1 (by simp [Region.wanted, hg]) hv
  · rename_i j want hg
    split at hv
    · rename_i d hd
      have hd' : (ops[j]?).bind (·.dst) = some d := by rw [← hd]; simp
      cases hr : r[d]? with
      | none => rw [List.getD, hr] at hv; exact hv.elim
      | some v =>
        obtain ⟨u, hu, hrep⟩ := h.get d v hr
        rw [Array.getElem?_toList] at hu
        rw [List.getD, hr] at hv
        have hy : yielded ops a.tmps j = match (some u : Option Value) with | some (.bool b) => some b | _ => none := by
          unfold yielded; rw [hd']; simp only [Option.bind_some, hu]; rfl
        have hw : Region.wanted o (yielded ops a.tmps) = (yielded ops a.tmps j == some want) := by simp [Region.wanted, hg]
        simp only [Option.getD_some] at hv
        split at hv
        · rename_i t
          rw [rep_bool hrep] at hy
          rw [hy] at hw
          cases t <;> cases want
          · exact h1 (by rw [hw]; rfl) hv
          · exact h2 (by rw [hw]; rfl) hv
          · exact h2 (by rw [hw]; rfl) hv
          · exact h1 (by rw [hw]; rfl) hv
        · obtain rfl : u = _ := hrep
          exact h2 (by rw [hw, hy]; rfl) hv
        · exact hv.elim
    · exact hv.elim

theorem vopG_s {K : Regs → Mem → Prop} {next : Act → World → Prop} {Q : Exit → Act → World → Prop} {i : Nat} {o : Oper} {E : AV → Mem → Prop} {all : List Oper} {ops : Array Oper} (hSnd : ∀ f xs m Q, Snd f xs m Q → Sound P N WL f xs m Q) (hops : ops.toList = all) (ho : ops[i]? = some o)
    (hn : Next? B0 W0 N WL K next) (he : Exc? B0 W0 N WL E Q) (hd : a.defers = []) (h : Inv B0 W0 N WL B W r m a.tmps.toList)
    (hv : vopG P Snd all o r m K E) : if Region.wanted o (yielded ops a.tmps) then o.wp P a W next Q ∨ (o.asks P a W ∧ LetsOut Q) else next (a.put o.dst undef) W := by
  unfold vopG at hv
  refine vguard_s hops h.regs hv (fun hw hx => ?_) (fun hw hy => ?_)
  · rw [if_pos hw]
    exact .inl (vop_s hSnd hn he hd h hx)
  · rw [if_neg (by rw [hw]; simp)]
    exact vput_s hn hd h hy (v := skipped) rfl

theorem vops_s {K : Regs → Mem → Prop} {Q : Exit → Act → World → Prop} {E : AV → Mem → Prop} {ops : Array Oper} (hn : Next? B0 W0 N WL K (Q .normal)) (he : Exc? B0 W0 N WL E Q) :
    ∀ (l pre : List Oper), ops.toList = pre ++ l → ∀ {B : Lab} {W : World} {r : Regs} {m : Mem} {a : Act}, a.defers = [] → Inv B0 W0 N WL B W r m a.tmps.toList →
      vops P (Sound P N WL) ops.toList l r m K E → wpOps P ops Q (List.range' pre.length l.length) a W
  | [], pre, _, B, W, r, m, a, hd, h, hv => hn _ _ _ _ _ hd h hv
  | o :: l, pre, hops, B, W, r, m, a, hd, h, hv => by
    have ho : ops[pre.length]? = some o := by rw [← Array.getElem?_toList, hops]; simp
    simp only [List.length_cons, List.range'_succ, wpOps, ho]
    simp only [vops] at hv
    refine vopG_s (fun _ _ _ _ h => h) rfl ho (K := fun r m => vops P (Sound P N WL) ops.toList l r m K E) ?_ he hd h hv
    intro B W r m a hd h hv
    have := vops_s hn he l (pre ++ [o]) (by rw [hops]; simp) hd h hv
    simpa using this

end

end Go.V
