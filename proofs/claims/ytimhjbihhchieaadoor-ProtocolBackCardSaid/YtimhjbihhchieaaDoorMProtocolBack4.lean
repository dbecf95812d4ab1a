/- Texts of this claim, one after the other: the calculus V and the functions' contracts. Conditions: as each states. -/
import Derived.Test.YtimhjbihhchieaaDoorMProtocolBack3
import Derived.Scope
import Derived.LoopN
namespace Go.V
set_option linter.unusedVariables false
set_option linter.unusedSimpArgs false

section
variable {B0 : Lab} {W0 : World} {N : Nat} {WL : World} {B : Lab} {W W' : World} {r : Regs} {m : Mem} {P : Program} {a : Act} {Snd : SND}

theorem run_enter {f : FuncId} (h : Callable P f) (args : Array Value) : (callFunc f args).run P W = .ok (.enter f args) W := by
  obtain ⟨fn, hf, h1, h2⟩ := h
  have h1 : fn.name ≠ "runtime.NumGoroutine" := by simpa using h1
  have h2 : ¬ fn.body = none := fun e => by rw [e] at h2; cases h2
  simp [callFunc, hf, h1, h2]

theorem coerce_rep {t : TypeId} {v : AV} {u : Value} (h : RepA B W v u) : RepA B W (coerce P t v) u := by
  unfold coerce
  split
  · split
    · split
      · obtain rfl : u = _ := h
        exact ⟨none, 0, rfl, Nat.le_refl _, .inl rfl⟩
      · exact h
    · exact h
  · exact h

theorem argsOf_rep (h : All2 (RepA B W) r a.tmps.toList) : ∀ (l : List Operand) (ts : List TypeId), All2 (RepA B W) (argsOf P r l ts) (l.map a.eval)
  | [], _ => .nil
  | x :: l, [] => .cons (vval_rep h x) (argsOf_rep h l [])
  | x :: l, t :: ts => .cons (coerce_rep (vval_rep h x)) (argsOf_rep h l ts)

theorem vcall_s {K : Regs → Mem → Prop} {next : Act → World → Prop} {Q : Exit → Act → World → Prop} {o : Oper} {E : AV → Mem → Prop} (hSnd : ∀ f xs m Q, Snd f xs m Q → Sound P N WL f xs m Q) (hn : Next? B0 W0 N WL K next) (he : Exc? B0 W0 N WL E Q) (hd : a.defers = []) (h : Inv B0 W0 N WL B W r m a.tmps.toList)
    {f : FuncId} {xs : List AV} {vs : Array Value} (hxs : All2 (RepA B W) xs vs.toList)
    (hv : vcall Snd f xs (o.dst.getD 9999) r m (fun v r m => vput r m o.dst v K) E) : o.upon P a next Q ((callFunc f vs).run P W) := by
  obtain ⟨ks, mv, Q', hv⟩ := hv
  obtain ⟨hok, hv⟩ := chk hv
  simp only [fl_eq, fm_eq, fr_eq] at hv
  simp only [callOK, Bool.and_eq_true, Bool.not_eq_true', Option.isSome_eq_false_iff, Option.isNone_iff_eq_none, List.all_eq_true] at hok
  obtain ⟨⟨⟨⟨h1, h2⟩, h3⟩, h4⟩, h5⟩ := hok
  obtain ⟨hS, hK⟩ := hv
  replace hS := hSnd _ _ _ _ hS
  have hnd := nodup_of h1
  have hfr : 3000 + o.dst.getD 9999 ∉ ks := idxOf_none h4
  have hix : ∀ n k, ks[n]? = some k → idxOf k ks 0 = some n := fun n k hk => by
    obtain ⟨i, hi⟩ := idxOf_isSome (j := 0) (List.mem_of_getElem? hk)
    obtain ⟨n', e, hn'⟩ := idxOf_get hi
    rw [hi, e, get_inj hnd hk hn', Nat.zero_add]
  obtain ⟨s1, s2, s3⟩ := subM_ok (mv := mv) h.mem hix (l := ks) (j := 0) (fun n k hk => by simpa using hk) (fun k hk => h3 k hk)
  rw [run_enter hS.1, Oper.upon_enter]
  have := hS.2 (inLab ks mv B) W vs.toList (inLab_ok h.lab h2) (inLab_low h.low) (forall2_map hxs fun _ _ ha => RepA.map (fun _ _ hb => Rep0.into hb) ha) ⟨s1, s3⟩
  rw [Array.toArray_toList] at this
  refine this.mono ?_
  rintro e W' ⟨o', B', q, l1, l2, l3, l4⟩
  have hb : Back B W B' W' ks mv (o.dst.getD 9999) := ⟨h.lab, l1, l3, hnd, hfr, Nat.le_of_ble_eq_true h5⟩
  have hk := hK o' q
  have hregs : All2 (RepA (outLab ks mv (o.dst.getD 9999) W.heap.size B B') W') (r.map (AV.map (A0.outn ks mv (o.dst.getD 9999)))) a.tmps.toList :=
    forall2_map h.regs fun _ _ ha => RepA.map (fun _ _ hb' => Rep0.outn hb hb') ha
  cases e with
  | returned u =>
    cases o' with
    | panic _ _ => exact l4.elim
    | ret v m' =>
      obtain ⟨hv, hm'⟩ := l4
      simp only [fv_eq, fm_eq] at hk
      exact vput_s hn hd ⟨hb.ok, h.low.move hb.out, h.move.trans hb.out, hregs, hb.mem h.mem hm'⟩ hk (RepA.map (fun _ _ hq => Rep0.back hb hq) hv)
  | panicked ch =>
    cases o' with
    | ret _ _ => exact l4.elim
    | panic v m' =>
      obtain ⟨u, rfl, hv, hm'⟩ := l4
      simp only [fv_eq, fm_eq] at hk
      exact he _ _ _ _ _ _ hd hb.ok (h.low.move hb.out) (h.move.trans hb.out) (RepA.map (fun _ _ hq => Rep0.back hb hq) hv) (hb.mem h.mem hm') hk
  | outgrown => exact l4.elim

theorem forall2_lf {R : AV → Value → Prop} {S : A0 → Value → Prop} (hr : ∀ a v, S a v → R (.lf a) v) : ∀ {l : List A0} {l' : List Value}, All2 S l l' → All2 R (l.map .lf) l'
  | _, _, .nil => .nil
  | _, _, .cons h t => .cons (hr _ _ h) (forall2_lf hr t)

theorem vop_s {K : Regs → Mem → Prop} {next : Act → World → Prop} {Q : Exit → Act → World → Prop} {o : Oper} {E : AV → Mem → Prop} {all : List Oper} (hSnd : ∀ f xs m Q, Snd f xs m Q → Sound P N WL f xs m Q) (hn : Next? B0 W0 N WL K next) (he : Exc? B0 W0 N WL E Q) (hd : a.defers = []) (h : Inv B0 W0 N WL B W r m a.tmps.toList)
    (hv : vop P Snd all o r m K E) : o.wp P a W next Q := by
  unfold Oper.wp
  cases hc : isCall o.op with
  | false => exact vop_s0 hn he hd h hc hv
  | true =>
    cases ho : o.op
    case call c =>
      obtain ⟨callee, args, ats⟩ := c
      cases callee with
      | value f =>
        simp only [vop, ho] at hv
        have hf := vval_rep h.regs f
        split at hv
        · rename_i g x y hg
          rw [hg] at hf
          obtain ⟨va, vb, e, h1, h2⟩ := hf
          have hrun : (execOp a.eval o).run P W = (callFunc g ((va ++ args.map a.eval) ++ vb)).run P W := by
            simp only [execOp, ho, resolve, e, Deferred.ofValue, Sem.run_bind, Sem.run_pure, Result.andThen_ok, invoke]
          rw [hrun]
          refine vcall_s hSnd hn he hd h ?_ hv
          rw [Array.toList_append, Array.toList_append, Array.toList_map]
          exact ((forall2_lf (fun _ _ h => h) h1).append (argsOf_rep h.regs _ _)).append (forall2_lf (fun _ _ h => h) h2)
        · exact hv.elim
      | invoke x n => rw [ho] at hc; cases hc
      | builtin b => rw [ho] at hc; cases hc
    all_goals (rw [ho] at hc; cases hc)

theorem vguard_s {all : List Oper} {ops : Array Oper} (hops : ops.toList = all) {o : Oper} {X Y G : Prop} (h : All2 (RepA B W) r a.tmps.toList) (hv : vguard all r o X Y)
    (h1 : Region.wanted o (yielded ops a.tmps) = true → X → G) (h2 : Region.wanted o (yielded ops a.tmps) = false → Y → G) : G := by
  subst hops
  unfold vguard at hv
  split at hv
  · rename_i hg; exact h1 (by simp [Region.wanted, hg]) hv
  · rename_i j want hg
    split at hv
    · rename_i d hd
      have hd' : (ops[j]?).bind (·.dst) = some d := by rw [← hd]; simp
      cases hr : r[d]? with
      | none => rw [List.getD, hr] at hv; exact hv.elim
      | some v =>
        obtain ⟨u, hu, hrep⟩ := h.get d v hr
        rw [Array.getElem?_toList] at hu
        rw [List.getD, hr] at hv
        have hy : yielded ops a.tmps j = match (some u : Option Value) with | some (.bool b) => some b | _ => none := by
          unfold yielded; rw [hd']; simp only [Option.bind_some, hu]; rfl
        have hw : Region.wanted o (yielded ops a.tmps) = (yielded ops a.tmps j == some want) := by simp [Region.wanted, hg]
        simp only [Option.getD_some] at hv
        split at hv
        · rename_i t
          rw [rep_bool hrep] at hy
          rw [hy] at hw
          cases t <;> cases want
          · exact h1 (by rw [hw]; rfl) hv
          · exact h2 (by rw [hw]; rfl) hv
          · exact h2 (by rw [hw]; rfl) hv
          · exact h1 (by rw [hw]; rfl) hv
        · obtain rfl : u = _ := hrep
          exact h2 (by rw [hw, hy]; rfl) hv
        · exact hv.elim
    · exact hv.elim

theorem vopG_s {K : Regs → Mem → Prop} {next : Act → World → Prop} {Q : Exit → Act → World → Prop} {i : Nat} {o : Oper} {E : AV → Mem → Prop} {all : List Oper} {ops : Array Oper} (hSnd : ∀ f xs m Q, Snd f xs m Q → Sound P N WL f xs m Q) (hops : ops.toList = all) (ho : ops[i]? = some o)
    (hn : Next? B0 W0 N WL K next) (he : Exc? B0 W0 N WL E Q) (hd : a.defers = []) (h : Inv B0 W0 N WL B W r m a.tmps.toList)
    (hv : vopG P Snd all o r m K E) : if Region.wanted o (yielded ops a.tmps) then o.wp P a W next Q ∨ (o.asks P a W ∧ LetsOut Q) else next (a.put o.dst undef) W := by
  unfold vopG at hv
  refine vguard_s hops h.regs hv (fun hw hx => ?_) (fun hw hy => ?_)
  · rw [if_pos hw]
    exact .inl (vop_s hSnd hn he hd h hx)
  · rw [if_neg (by rw [hw]; simp)]
    exact vput_s hn hd h hy (v := skipped) rfl

theorem vops_s {K : Regs → Mem → Prop} {Q : Exit → Act → World → Prop} {E : AV → Mem → Prop} {ops : Array Oper} (hn : Next? B0 W0 N WL K (Q .normal)) (he : Exc? B0 W0 N WL E Q) :
    ∀ (l pre : List Oper), ops.toList = pre ++ l → ∀ {B : Lab} {W : World} {r : Regs} {m : Mem} {a : Act}, a.defers = [] → Inv B0 W0 N WL B W r m a.tmps.toList →
      vops P (Sound P N WL) ops.toList l r m K E → wpOps P ops Q (List.range' pre.length l.length) a W
  | [], pre, _, B, W, r, m, a, hd, h, hv => hn _ _ _ _ _ hd h hv
  | o :: l, pre, hops, B, W, r, m, a, hd, h, hv => by
    have ho : ops[pre.length]? = some o := by rw [← Array.getElem?_toList, hops]; simp
    simp only [List.length_cons, List.range'_succ, wpOps, ho]
    simp only [vops] at hv
    refine vopG_s (fun _ _ _ _ h => h) rfl ho (K := fun r m => vops P (Sound P N WL) ops.toList l r m K E) ?_ he hd h hv
    intro B W r m a hd h hv
    have := vops_s hn he l (pre ++ [o]) (by rw [hops]; simp) hd h hv
    simpa using this

end

end Go.V

namespace Go.V
set_option linter.unusedVariables false
set_option linter.unusedSimpArgs false

/-- there is one value at most that follows -/
def DetP {α : Type} (F : (α → Prop) → Prop) : Prop := ∀ K, F K → ∃ v, K v ∧ ∀ K' : α → Prop, K' v → F K'

section
variable {α β : Type}
theorem DetP.ret (v : α) : DetP (fun K : α → Prop => K v) := fun K h => ⟨v, h, fun _ h => h⟩
theorem DetP.no : DetP (fun _ : α → Prop => False) := fun K h => h.elim
theorem DetP.vand {p : Prop} {F : (α → Prop) → Prop} (h : DetP F) : DetP (fun K => V.vand p (F K)) := fun K ⟨hp, hk⟩ => let ⟨v, a, b⟩ := h K hk; ⟨v, a, fun K' hk' => ⟨hp, b K' hk'⟩⟩
theorem DetP.vchk {p : Bool} {F : (α → Prop) → Prop} (h : DetP F) : DetP (fun K => V.vchk p (F K)) := by
  intro K hk
  cases p with
  | true => exact h K hk
  | false => exact hk.elim
theorem DetP.optK {x : Option β} {F : β → (α → Prop) → Prop} (h : ∀ b, DetP (F b)) : DetP (fun K => V.optK x fun b => F b K) := by
  intro K hk
  cases x with
  | some b => exact h b K hk
  | none => exact hk.elim
theorem DetP.isNat {x : AV} {F : Int → (α → Prop) → Prop} (h : ∀ n, DetP (F n)) : DetP (fun K => V.isNat x fun n => F n K) := by
  unfold V.isNat
  split
  · exact h _
  · exact .no
theorem DetP.map {F : (α → Prop) → Prop} (h : DetP F) (g : α → β) : DetP (fun K : β → Prop => F fun a => K (g a)) := fun K hk =>
  let ⟨v, a, b⟩ := h _ hk; ⟨g v, a, fun K' hk' => b _ hk'⟩
theorem DetP.optI {r : Regs} {x : Option Operand} {d : Int} {F : Int → (α → Prop) → Prop} (h : ∀ n, DetP (F n)) : DetP (fun K => V.optI r x d fun n => F n K) := by
  unfold V.optI
  split
  · exact h _
  · exact .isNat h
end

section
variable {P : Program} {r r' : Regs} {m m' : Mem} {o : Oper}

theorem binI_det {op : BinOp} {k : IntKind} {a b : Int} : DetP (binI op k a b) := by
  cases op <;> first | exact DetP.ret _ | exact DetP.vand (DetP.ret _) | exact DetP.no
theorem shI_det {op : BinOp} {k : IntKind} {a b : Int} : DetP (shI op k a b) := by
  cases op <;> first | exact DetP.ret _ | exact DetP.vand (DetP.ret _) | exact DetP.no
theorem binS_det {op : BinOp} {a b : ByteArray} : DetP (binS op a b) := by
  cases op <;> first | exact DetP.ret _ | exact DetP.vand (DetP.ret _) | exact DetP.no
theorem binB_det {t : TypeId} {op : BinOp} {a b : Bool} : DetP (binB P t op a b) := by
  show DetP fun K => binB P t op a b K
  unfold binB
  split
  · cases op <;> first | exact DetP.ret _ | exact DetP.no
  · exact DetP.no
theorem vbin_det {op : BinOp} {t : TypeId} {x y : AV} : DetP (vbin P op t x y) := by
  show DetP fun K => vbin P op t x y K
  unfold vbin
  split
  · split
    · exact shI_det
    · exact DetP.vchk binI_det
  · exact binS_det
  · exact binB_det
  · exact DetP.no
theorem vslice_det {t : TypeId} {x : AV} {lo hi mx : Option Operand} : DetP (vslice P r t x lo hi mx) := by
  show DetP fun K => vslice P r t x lo hi mx K
  unfold vslice
  split
  · split
    · exact DetP.optI fun _ => DetP.optI fun _ => DetP.vand (DetP.ret _)
    · exact DetP.no
  · split
    · refine DetP.vchk (DetP.optI fun _ => ?_)
      split
      · exact DetP.optI fun _ => DetP.vand (DetP.ret _)
      · split
        · exact DetP.isNat fun _ => DetP.isNat fun _ => DetP.vand (DetP.ret _)
        · exact DetP.no
    · exact DetP.no
  · split
    · exact DetP.vchk (DetP.optI fun _ => DetP.vand (DetP.ret _))
    · exact DetP.no
  · exact DetP.no

theorem vpure_det : DetP (vpure P r m o) := by
  show DetP fun K => vpure P r m o K
  unfold vpure
  split
  case h_1 => exact DetP.ret _
  case h_2 => exact vbin_det.map _
  case h_3 =>
    split
    · exact DetP.ret _
    · exact DetP.ret (AV.lf _)
    · exact DetP.no
  case h_4 => split <;> first | exact DetP.ret _ | exact DetP.no
  case h_5 =>
    split
    · exact DetP.isNat fun _ => DetP.vand (DetP.ret _)
    · exact DetP.no
  case h_6 =>
    split
    · split
      · exact DetP.vchk (DetP.isNat fun _ => DetP.vand (DetP.ret _))
      · exact DetP.vchk (DetP.isNat fun _ => DetP.vand (DetP.ret _))
      · exact DetP.no
    · exact DetP.no
  case h_7 =>
    split
    · split
      · simp only [fN_eq]
        exact DetP.optK fun _ => DetP.vchk (DetP.ret _)
      · exact DetP.optK fun _ => DetP.optK fun _ => DetP.vchk (DetP.ret _)
      · exact DetP.optK fun _ => DetP.optK fun _ => DetP.vchk (DetP.ret _)
      · exact DetP.no
    · exact DetP.no
  case h_8 =>
    split
    · exact DetP.optK fun _ => DetP.optK fun _ => DetP.vchk (DetP.ret _)
    · exact DetP.no
  case h_9 =>
    split
    · exact DetP.optK fun _ => DetP.ret _
    · exact DetP.no
  case h_10 =>
    refine DetP.vchk ?_
    split
    · refine DetP.optK fun _ => ?_
      split
      · exact DetP.optK fun _ => DetP.ret _
      · exact DetP.optK fun _ => DetP.vchk (DetP.optK fun _ => DetP.ret _)
    · exact DetP.vchk (DetP.ret _)
    · exact DetP.vchk (DetP.ret _)
    · exact DetP.no
  case h_11 =>
    split <;> first | exact DetP.no | (split <;> first | exact DetP.ret _ | exact DetP.no | (split <;> first | exact DetP.ret _ | exact DetP.no))
  case h_12 => exact vslice_det.map _
  case h_13 => split <;> first | exact DetP.ret _ | exact DetP.no
  case h_14 => exact DetP.ret _
  case h_15 =>
    split
    · split
      · exact DetP.ret _
      · exact DetP.optK fun _ => DetP.ret _
      · exact DetP.no
    · exact DetP.no
  case h_16 =>
    split
    · split
      · exact DetP.ret _
      · exact DetP.no
    · exact DetP.no
  case h_17 =>
    split
    · split
      · exact DetP.ret _
      · exact DetP.no
    · exact DetP.no
  case h_18 => exact DetP.no

/-- the same is seen -/
def Agree (o : Oper) (r : Regs) (m : Mem) (r' : Regs) (m' : Mem) : Prop :=
  (∀ x ∈ opnds o.op, vval r' x = vval r x) ∧ ∀ t x k off, o.op = .load t x → vval r x = .lf (.ptr k off) → mget m' k = mget m k

theorem optI_agree {x : Option Operand} {d : Int} {K : Int → Prop} (h : ∀ y ∈ x.toList, vval r' y = vval r y) : optI r' x d K = optI r x d K := by
  unfold optI
  cases x with
  | none => rfl
  | some y => simp only; rw [h y (by simp)]

theorem vslice_agree {t : TypeId} {x : AV} {lo hi mx : Option Operand} {K : A0 → Prop} (h1 : ∀ y ∈ lo.toList, vval r' y = vval r y) (h2 : ∀ y ∈ hi.toList, vval r' y = vval r y) (h3 : ∀ y ∈ mx.toList, vval r' y = vval r y) :
    vslice P r' t x lo hi mx K = vslice P r t x lo hi mx K := by
  have e1 : ∀ (d : Int) (K : Int → Prop), optI r' lo d K = optI r lo d K := fun d K => optI_agree h1
  have e2 : ∀ (d : Int) (K : Int → Prop), optI r' hi d K = optI r hi d K := fun d K => optI_agree h2
  unfold vslice
  split
  · simp only [e1, e2]
  · split
    · congr 1
      rw [e1]
      congr 1
      funext a
      split
      · rw [e2]
      · split
        · rename_i z _ y
          rw [h2 y (by simp), h3 z (by simp)]
        · rfl
    · rfl
  · split
    · rw [e2]
    · rfl
  · rfl

theorem vpure_agree (h : Agree o r m r' m') (K : AV → Prop) : vpure P r' m' o K = vpure P r m o K := by
  obtain ⟨hx, hm⟩ := h
  unfold vpure
  cases ho : o.op
  case load t a =>
    simp only [ho, opnds] at hx ⊢
    rw [hx a (by simp)]
    have hm := hm t a
    cases hv : vval r a with
    | lf q =>
      cases q with
      | ptr k off => simp only [hm k off ho hv]
      | _ => rfl
    | _ => rfl
  case slice t x lo hi mx =>
    simp only [ho, opnds, List.mem_cons, List.mem_append, forall_eq_or_imp] at hx ⊢
    rw [hx.1, vslice_agree (fun y hy => hx.2 y (.inl hy)) (fun y hy => hx.2 y (.inr (.inl hy))) (fun y hy => hx.2 y (.inr (.inr hy)))]
  case makeFunc f a b =>
    simp only [ho, opnds, List.mem_append] at hx ⊢
    rw [List.map_congr_left (fun y hy => by rw [hx y (.inl hy)]), List.map_congr_left (l := b.toList) (fun y hy => by rw [hx y (.inr hy)])]
  case call c =>
    obtain ⟨callee, args, ats⟩ := c
    cases callee with
    | value f => rfl
    | invoke x n => rfl
    | builtin b =>
      simp only [ho, opnds] at hx ⊢
      cases b <;> try rfl
      all_goals
        simp only
        split <;> try rfl
        first
        | (rename_i e1 e2; rw [e1] at hx; simp only [List.mem_cons, List.not_mem_nil, or_false, forall_eq_or_imp, forall_eq] at hx; simp only [hx])
        | (rename_i e1; rw [e1] at hx; simp only [List.mem_cons, List.not_mem_nil, or_false, forall_eq_or_imp, forall_eq] at hx; simp only [hx])
  all_goals (first | rfl | (simp only [ho, opnds, List.mem_cons, List.not_mem_nil, or_false, forall_eq_or_imp, forall_eq] at hx ⊢; simp only [hx]))

end

end Go.V

namespace Go.V
set_option linter.unusedVariables false
set_option linter.unusedSimpArgs false

def vcalm (P : Program) (all : List Oper) (o : Oper) (r : Regs) (m : Mem) (K : AV → Prop) : Prop :=
  match o.op with
  | .pick c a b => match vval r c with
    | .lf (.val .bool t) => vif t (K (vval r a)) (K (vval r b))
    | _ => False
  | .build t ps => match P.underlying t with
    | some (.struct fs) => optK (tyOf P 9 t) fun T => optK (zeroCells? P t) fun z => optK (placesOf P fs.toList) fun pl => optK (partsA r ps.toList) fun qs => optK (fillA (pl[·]?) (valCells z) qs) fun c => match boxedIn all o.dst with | true => K (.st c) | false => vchk T.agg (optK (packT T c) fun p => vchk p.2.isEmpty (K (.lf (.val T p.1))))
    | _ => False
  | .buildSlice t n ps => match o.dst, P.underlying t with
    | some d, some (.slice el) => optK (tyOf P 9 el) fun E => optK (zeroCells? P el) fun z => vchk (szIs P el E.sz && Nat.beq z.length E.sz && Nat.ble (n * E.sz) 16777216) (optK (partsA r ps.toList) fun qs =>
        optK (fillA (fun i => some (i * E.sz, E.sz)) (repA n (valCells z)) qs) fun c => optK (packN E n c) fun l => K (.lf (.val (.slice E) l)))
    | _, _ => False
  | _ => vpure P r m o K

section
variable {P : Program} {r r' : Regs} {m m' : Mem} {o : Oper} {all : List Oper} {Snd : SND} {K : Regs → Mem → Prop} {E : AV → Mem → Prop}

theorem vfreeze_calm : ∀ {xs : List Operand} {K : Regs → Mem → Prop}, (xs.all fun x => notAl (vval r x)) = true → vfreeze r m xs K = K r m
  | [], K, _ => rfl
  | x :: xs, K, h => by
    rw [List.all_cons, Bool.and_eq_true] at h
    unfold vfreeze
    split
    · rename_i e; rw [e] at h; cases h.1
    · exact vfreeze_calm h.2

theorem vfreezeC_calm : ∀ {xs : List A0} {K : Regs → Mem → Prop}, noAl xs = true → vfreezeC r m xs K = K r m
  | [], K, _ => rfl
  | x :: xs, K, h => by
    cases x <;> simp only [noAl] at h <;> first | cases h | (simp only [vfreezeC]; exact vfreezeC_calm h)

theorem vop_calm (h : calm P all o r m = true) : vop P Snd all o r m K E = vcalm P all o r m fun v => vput r m o.dst v K := by
  unfold calm at h
  cases ho : o.op
  case load t a =>
    simp only [ho] at h
    simp only [vop, vcalm, ho]
    split
    · rename_i k off e1 e2
      simp only [e1, e2] at h
      split at h
      · rename_i c hc
        rw [hc]
        simp only [optK]
        rw [vfreezeC_calm h]
      · cases h
    · rfl
  case slice t x lo hi mx =>
    simp only [ho] at h
    simp only [vop, vcalm, ho]
    split
    · rfl
    · rename_i hne
      split at h
      · exact (hne rfl rfl).elim
      · rw [vfreeze_calm (by simpa using h)]
  case convert src dst x =>
    simp only [ho] at h
    simp only [vop, vcalm, ho]
    split
    · rename_i e
      simp only [e] at h
      split at h
      · rename_i e2
        split
        · rename_i e3; rw [e2] at e3; cases e3
        · rfl
      · cases h
    · rename_i e
      simp only [e] at h
      split at h
      · rename_i e2
        split
        · rename_i e3; rw [e2] at e3; cases e3
        · rfl
      · cases h
    · rfl
  case build t ps =>
    simp only [ho] at h
    simp only [vop, vcalm, ho]
    rw [vfreeze_calm (by simpa using h)]
    cases P.underlying t with
    | none => rfl
    | some u => cases u <;> first | rfl | (cases boxedIn all o.dst <;> rfl)
  case buildSlice t n ps =>
    simp only [ho, Bool.and_eq_true] at h
    simp only [vop, vcalm, ho]
    obtain ⟨h1, h2⟩ := h
    cases hd : o.dst with
    | none => simp [hd] at h2
    | some d =>
      rw [hd] at h2
      simp only [Bool.not_eq_true'] at h2
      cases P.underlying t with
      | none => rfl
      | some u =>
        cases u with
        | slice e =>
          simp only
          rw [vfreeze_calm (by simpa using h1)]
          rw [h2]
        | _ => rfl
  case call c =>
    obtain ⟨callee, args, ats⟩ := c
    simp only [ho] at h
    cases callee with
    | value f => cases h
    | invoke x n => cases h
    | builtin b => cases b <;> first | (cases h; done) | (simp only [vop, vcalm, ho])
  case pick c x y =>
    simp only [vop, vcalm, ho]
    cases vval r c with
    | lf q =>
      cases q with
      | val T x => cases T <;> rfl
      | _ => rfl
    | _ => rfl
  all_goals (simp only [ho] at h; first | (cases h; done) | (simp only [vop, vcalm, ho]))

theorem vcalm_det : DetP (vcalm P all o r m) := by
  show DetP fun K => vcalm P all o r m K
  unfold vcalm
  split
  · split
    · rename_i t _
      cases t
      · exact DetP.ret _
      · exact DetP.ret _
    · exact DetP.no
  · split
    · refine DetP.optK fun _ => DetP.optK fun _ => DetP.optK fun _ => DetP.optK fun _ => DetP.optK fun _ => ?_
      split
      · exact DetP.ret _
      · exact DetP.vchk (DetP.optK fun _ => DetP.vchk (DetP.ret _))
    · exact DetP.no
  · split
    · exact DetP.optK fun _ => DetP.optK fun _ => DetP.vchk (DetP.optK fun _ => DetP.optK fun _ => DetP.optK fun _ => DetP.ret _)
    · exact DetP.no
  · exact vpure_det

theorem partsA_agree : ∀ {l : List (Nat × Operand)}, (∀ x ∈ l.map (·.2), vval r' x = vval r x) → partsA r' l = partsA r l
  | [], _ => rfl
  | (i, x) :: l, h => by
    simp only [partsA]
    rw [h x (by simp), partsA_agree (l := l) fun y hy => h y (by simp at hy ⊢; exact .inr hy)]

theorem vcalm_agree (h : Agree o r m r' m') (K : AV → Prop) : vcalm P all o r' m' K = vcalm P all o r m K := by
  unfold vcalm
  cases ho : o.op
  case pick c x y =>
    have h1 := h.1
    simp only [ho, opnds, List.mem_cons, List.not_mem_nil, or_false, forall_eq_or_imp, forall_eq] at h1 ⊢
    simp only [h1]
  case build t ps =>
    have h1 := h.1
    simp only [ho, opnds] at h1 ⊢
    simp only [partsA_agree h1]
  case buildSlice t n ps =>
    have h1 := h.1
    simp only [ho, opnds] at h1 ⊢
    simp only [partsA_agree h1]
  all_goals exact vpure_agree h K

theorem all_agree : ∀ {l : List (Nat × Operand)}, (∀ x ∈ l.map (·.2), vval r' x = vval r x) → (l.all fun p => notAl (vval r' p.2)) = l.all fun p => notAl (vval r p.2)
  | [], _ => rfl
  | p :: l, h => by
    rw [List.all_cons, List.all_cons, h p.2 (by simp), all_agree (l := l) fun y hy => h y (by simp at hy ⊢; exact .inr hy)]

theorem calm_agree (h : Agree o r m r' m') : calm P all o r' m' = calm P all o r m := by
  obtain ⟨hx, hm⟩ := h
  unfold calm
  cases ho : o.op
  case load t a =>
    simp only [ho, opnds] at hx ⊢
    rw [hx a (by simp)]
    have hm := hm t a
    cases hv : vval r a with
    | lf q =>
      cases q with
      | ptr k off =>
        have e := hm k off ho hv
        cases isAggB P t
        · rfl
        · simp only
          rw [e]
      | _ => rfl
    | _ => rfl
  case slice t x lo hi mx =>
    simp only [ho, opnds, List.mem_cons, forall_eq_or_imp] at hx ⊢
    rw [hx.1]
  case convert s d x =>
    simp only [ho, opnds, List.mem_cons, List.not_mem_nil, or_false, forall_eq] at hx ⊢
    rw [hx]
  case build t ps =>
    simp only [ho, opnds] at hx ⊢
    exact all_agree hx
  case buildSlice t n ps =>
    simp only [ho, opnds] at hx ⊢
    rw [all_agree hx]
  case call c =>
    obtain ⟨callee, args, ats⟩ := c
    cases callee with
    | value f => rfl
    | invoke x n => rfl
    | builtin b => cases b <;> rfl
  all_goals rfl

end

end Go.V

namespace Go.V
set_option linter.unusedVariables false
set_option linter.unusedSimpArgs false

def Fixes (f : A0 → A0) : Prop := ∀ a, in0 a = true → f a = a

theorem fix_kill (w : Ow) : Fixes (A0.kill w) := fun a h => by cases a <;> first | rfl | cases h
theorem fix_ren (w u : Ow) : Fixes (A0.ren w u) := fun a h => by cases a <;> first | rfl | cases h
theorem fix_frz (w : Ow) : Fixes (A0.frz w) := fun a h => by cases a <;> first | rfl | cases h
theorem fix_upd (w : Ow) (e : Ty) (i : Nat) (g : e.den → e.den) : Fixes (A0.upd w e i g) := fun a h => by cases a <;> first | rfl | cases h
theorem fix_outn (ks : List Nat) (mv : List (Ow × Nat)) (d : Nat) : Fixes (A0.outn ks mv d) := fun a h => by
  cases a with
  | ptr k off =>
    have h : k < 3000 := by simpa [in0, Nat.blt_eq] using h
    simp only [A0.outn]
    rw [beqF (by omega)]
    rfl
  | al w e l => cases h
  | vp w e l i t off g s => cases h
  | _ => rfl

theorem inL_fix {f : A0 → A0} (hf : Fixes f) : ∀ {l : List A0}, inL l = true → l.map f = l
  | [], _ => rfl
  | a :: l, h => by
    simp only [inL, Bool.and_eq_true] at h
    rw [List.map_cons, hf a h.1, inL_fix hf h.2]
theorem inA_fix {f : A0 → A0} (hf : Fixes f) {v : AV} (h : inA v = true) : v.map f = v := by
  cases v with
  | lf a => simp only [AV.map]; rw [hf a h]
  | tup xs => simp only [AV.map]; rw [inL_fix hf h]
  | fn g a b =>
    simp only [inA, Bool.and_eq_true] at h
    simp only [AV.map]; rw [inL_fix hf h.1, inL_fix hf h.2]
  | iface t a => simp only [AV.map]; rw [hf a h]
  | st xs => simp only [AV.map]; rw [inL_fix hf h]

def Keeps (pr : List Nat) (m m' : Mem) : Prop := ∀ k c, k ∈ pr → k < 3000 → mget m k = some c → inL c = true → mget m' k = some c
theorem Keeps.refl (pr : List Nat) (m : Mem) : Keeps pr m m := fun _ _ _ _ h _ => h
theorem Keeps.trans {pr : List Nat} {m m' m'' : Mem} (h : Keeps pr m m') (g : Keeps pr m' m'') : Keeps pr m m'' := fun k c hp hk hc hi => g k c hp hk (h k c hp hk hc hi) hi

theorem mget_mmap (f : A0 → A0) (k : Nat) : ∀ (m : Mem), mget (mmap f m) k = (mget m k).map (List.map f)
  | [] => rfl
  | p :: m => by
    have ih := mget_mmap f k m
    unfold mget mmap at ih ⊢
    simp only [List.map_cons, List.find?_cons]
    cases Nat.beq p.1 k with
    | true => rfl
    | false => exact ih
theorem Keeps.mmap {pr : List Nat} {f : A0 → A0} (hf : Fixes f) (m : Mem) : Keeps pr m (mmap f m) := fun k c _ _ hc hi => by rw [mget_mmap, hc, Option.map_some, inL_fix hf hi]

theorem mget_mset {k j : Nat} {c : List A0} (h : k ≠ j) : ∀ {m : Mem}, mget (mset m j c) k = mget m k
  | [] => rfl
  | p :: m => by
    have ih := mget_mset (c := c) h (m := m)
    unfold mget mset at ih ⊢
    simp only [List.map_cons, List.find?_cons]
    cases e : Nat.beq p.1 j with
    | true =>
      have e1 : p.1 ≠ k := fun e' => h (by rw [← e', Nat.eq_of_beq_eq_true e])
      simp only [cond_true, beqF e1]
      exact ih
    | false =>
      simp only [cond_false]
      cases Nat.beq p.1 k with
      | true => rfl
      | false => exact ih

theorem mget_append {k : Nat} {c : List A0} {m' : Mem} : ∀ {m : Mem}, mget m k = some c → mget (m ++ m') k = some c
  | p :: m, h => by
    unfold mget at h ⊢
    simp only [List.cons_append, List.find?_cons] at h ⊢
    cases e : Nat.beq p.1 k with
    | true => rw [e] at h; exact h
    | false => rw [e] at h; exact mget_append (m := m) h

theorem mget_leftM {k d : Nat} {c : List A0} (hk : k < 3000) : ∀ {m : Mem}, mget m k = some c → mget (leftM m [] d) k = some c
  | p :: m, h => by
    unfold mget at h ⊢
    unfold leftM
    simp only [List.filter_cons, List.find?_cons] at h ⊢
    cases e : Nat.beq p.1 k with
    | true =>
      rw [e] at h
      have := Nat.eq_of_beq_eq_true e
      have e2 : Nat.beq p.1 (3000 + d) = false := beqF (by omega)
      simp only [idxOf, e2]
      simpa [e] using h
    | false =>
      rw [e] at h
      have ih := mget_leftM (m := m) (d := d) hk h
      split
      · simp only [List.find?_cons, e]; exact ih
      · exact ih

section
variable {P : Program} {r : Regs} {m : Mem} {o : Oper} {all : List Oper} {Snd : SND} {E : AV → Mem → Prop} {d : Nat} {v : AV}

theorem vval_set {x : Operand} (h : x ≠ .tmp d) : vval (r.set d v) x = vval r x := by
  cases x with
  | tmp t =>
    have hne : d ≠ t := fun e => h (by rw [e])
    show (r.set d v).getD t _ = r.getD t _
    simp only [List.getD, List.getElem?_set_ne hne]
  | _ => rfl

theorem set_map {f : A0 → A0} (hf : Fixes f) (hv : inA v = true) : (r.set d v).map (AV.map f) = (r.map (AV.map f)).set d v := by
  rw [List.map_set, inA_fix hf hv]

theorem vnew_eq (r : Regs) (m : Mem) (d : Nat) (e : Ty) (l : List e.den) (K : Regs → Mem → Prop) : vnew r m d e l K = K ((r.map (AV.map (A0.kill (.sl d)))).set d (.lf (.al (.sl d) e l))) (mmap (A0.kill (.sl d)) m) := by
  simp only [vnew, mapS_eq, fs_eq]

/-- K' follows from K, with d set, where R holds -/
def Fr (d : Nat) (v : AV) (R : Regs → Mem → Prop) (K K' : Regs → Mem → Prop) : Prop := ∀ r m, R r m → K (r.set d v) m → K' r m

/-- R is kept by what operations do -/
structure RR (Snd : SND) (R : Regs → Mem → Prop) (dst : Option Nat) (st : Bool) (tg : Nat → Prop) : Prop where
  map : ∀ f r m, Fixes f → R r m → R (r.map (AV.map f)) (mmap f m)
  set : ∀ d' r m u, dst = some d' → R r m → R (r.set d' u) m
  mem : st = true → ∀ r m k c, tg k → R r m → R r (mset m k c)
  call : st = false → ∀ r m m' ks mv d' f xs Q, Snd f xs (subM m ks mv ks 0) Q → R r m → R (r.map (AV.map (A0.outn ks mv d'))) (mmap (A0.outn ks mv d') (leftM m ks d') ++ backM ks d' m')

variable {R : Regs → Mem → Prop} {K K' : Regs → Mem → Prop} {st : Bool} {dst : Option Nat} {tg : Nat → Prop}

theorem fr_map {f : A0 → A0} (hR : RR Snd R dst st tg) (hf : Fixes f) (hv : inA v = true) (hm : R r m) (hk : Fr d v R K K') (h : mapS f (r.set d v) m K) : mapS f r m K' := by
  rw [mapS_eq] at h ⊢
  rw [set_map hf hv] at h
  exact hk _ _ (hR.map _ _ _ hf hm) h
theorem fr_vput {u : AV} (hR : RR Snd R dst st tg) (hd : dst ≠ some d) (hm : R r m) (hk : Fr d v R K K') (h : vput (r.set d v) m dst u K) : vput r m dst u K' := by
  cases dst with
  | none => exact hk _ _ hm h
  | some d' =>
    rw [vput_some] at h ⊢
    rw [List.set_comm _ _ (fun e => hd (by rw [e]))] at h
    exact hk _ _ (hR.set _ _ _ _ rfl hm) h
theorem fr_vnew {d' : Nat} {e : Ty} {l : List e.den} (hR : RR Snd R (some d') st tg) (hd : d' ≠ d) (hv : inA v = true) (hm : R r m) (hk : Fr d v R K K') (h : vnew (r.set d v) m d' e l K) : vnew r m d' e l K' := by
  rw [vnew_eq] at h ⊢
  rw [set_map (fix_kill _) hv, List.set_comm _ _ (Ne.symm hd)] at h
  exact hk _ _ (hR.set _ _ _ _ rfl (hR.map _ _ _ (fix_kill _) hm)) h
theorem fr_vname {u w : Ow} (hR : RR Snd R dst st tg) (hv : inA v = true) (hm : R r m) (hk : Fr d v R K K') (h : vname (r.set d v) m u w K) : vname r m u w K' := by
  unfold vname at h ⊢
  split
  · rename_i e; rw [e] at h; exact hk _ _ hm h
  · rename_i e
    rw [e] at h
    exact fr_map hR (fix_kill _) hv hm (fun r m hm h => fr_map hR (fix_ren _ _) hv hm hk h) h
theorem fr_vfreeze (hR : RR Snd R dst st tg) (hv : inA v = true) : ∀ {xs : List Operand} {r : Regs} {m : Mem}, (∀ x ∈ xs, x ≠ .tmp d) → R r m → Fr d v R K K' → vfreeze (r.set d v) m xs K → vfreeze r m xs K'
  | [], r, m, _, hm, hk, h => hk _ _ hm h
  | x :: xs, r, m, hx, hm, hk, h => by
    unfold vfreeze at h ⊢
    rw [vval_set (hx x (by simp))] at h
    split
    · rename_i e
      rw [e] at h
      exact fr_map hR (fix_frz _) hv hm (fun r m hm h => fr_vfreeze hR hv (fun y hy => hx y (by simp [hy])) hm hk h) h
    · rename_i hne
      split at h
      · rename_i e; exact (hne _ _ _ e).elim
      · exact fr_vfreeze hR hv (fun y hy => hx y (by simp [hy])) hm hk h

theorem mono_optK {α : Type} {x : Option α} {F G : α → Prop} (h : ∀ a, F a → G a) (hx : optK x F) : optK x G := by
  cases x with
  | some a => exact h a hx
  | none => exact hx
theorem mono_vchk {b : Bool} {F G : Prop} (h : F → G) (hx : vchk b F) : vchk b G := by
  cases b with
  | true => exact h hx
  | false => exact hx
theorem mono_vand {p F G : Prop} (h : F → G) (hx : vand p F) : vand p G := ⟨hx.1, h hx.2⟩

theorem fr_assign {x : Operand} (hR : RR Snd R o.dst st tg) (ho : o.op = .assign x) (hx : ∀ x ∈ opnds o.op, x ≠ .tmp d) (hd : o.dst ≠ some d) (hv : inA v = true) (hm : R r m) (hk : Fr d v R K K') (h : vop P Snd all o (r.set d v) m K E) : vop P Snd all o r m K' E := by
  have hx0 : x ≠ .tmp d := hx x (by rw [ho]; simp [opnds])
  simp only [vop, ho] at h ⊢
  rw [vval_set hx0] at h
  cases hdst : o.dst with
  | none => rw [hdst] at h; exact h.elim
  | some d' =>
    rw [hdst] at h hd hR
    have hne : d' ≠ d := fun e => hd (by rw [e])
    simp only at h ⊢
    generalize vval r x = y at h ⊢
    split
    · simp only at h
      split
      · rename_i e2
        rw [e2] at h
        exact mono_optK (fun _ h => fr_vnew hR hne hv hm hk h) h
      · rename_i hn2
        split at h
        · rename_i e2; exact (hn2 _ e2).elim
        · exact fr_vput hR hd hm hk h
    · simp only at h
      split
      · rename_i e2
        rw [e2] at h
        exact fr_vname hR hv hm (fun r m hm h => by
          have h : vput (r.set d v) m (some d') (vval (r.set d v) x) K := h
          show vput r m (some d') (vval r x) K'
          rw [vval_set hx0] at h
          exact fr_vput hR hd hm hk h) h
      · rename_i e2
        rw [e2] at h
        exact fr_vput hR hd hm hk h
    · rename_i n1 n2
      split at h
      · exact (n1 rfl).elim
      · exact (n2 _ _ _ rfl).elim
      · exact fr_vput hR hd hm hk h

theorem fr_append {args : Array Operand} {ats : Array TypeId} (hR : RR Snd R o.dst st tg) (ho : o.op = .call { callee := .builtin .append, args, argTypes := ats }) (hx : ∀ x ∈ opnds o.op, x ≠ .tmp d) (hd : o.dst ≠ some d) (hv : inA v = true) (hm : R r m) (hk : Fr d v R K K') (h : vop P Snd all o (r.set d v) m K E) : vop P Snd all o r m K' E := by
  rw [ho] at hx
  simp only [vop, ho] at h ⊢
  split
  · rename_i d' s x t u hdst ha hat
    rw [hdst] at hd hR
    have hne : d' ≠ d := fun e => hd (by rw [e])
    simp only [hdst, ha, hat] at h
    have h1 : s ≠ .tmp d := hx s (by simp [opnds, ha])
    have h2 : x ≠ .tmp d := hx x (by simp [opnds, ha])
    rw [vval_set h1, vval_set h2] at h
    refine mono_vchk ?_ h
    intro h
    unfold vappend at h ⊢
    split
    · rename_i el hu
      simp only [hu] at h
      split
      · rename_i e
        simp only [e] at h
        refine mono_vchk (mono_optK fun _ => mono_vand ?_) h
        intro h
        refine fr_map hR (fix_kill _) hv hm (fun r m hm h => ?_) h
        simp only [fs_eq] at h ⊢
        rw [List.set_comm _ _ (Ne.symm hne)] at h
        exact hk _ _ (hR.set _ _ _ _ rfl hm) h
      · rename_i e
        simp only [e] at h
        exact mono_vchk (mono_optK fun _ => mono_vand fun h => fr_vnew hR hne hv hm hk h) h
      · rename_i e
        simp only [e] at h
        exact mono_optK (fun _ => mono_vchk (mono_optK fun _ => mono_vand fun h => fr_vnew hR hne hv hm hk h)) h
      · rename_i n1 n2 n3
        split at h
        · rename_i e; exact (n1 _ _ _ e).elim
        · rename_i e; exact (n2 _ _ e).elim
        · rename_i e; exact (n3 e).elim
        · exact h
    · rename_i hn
      split at h
      · rename_i e; exact (hn _ e).elim
      · exact h
  · rename_i hn
    split at h
    · rename_i e1 e2 e3; exact (hn _ _ _ _ _ e1 e2 e3).elim
    · exact h

theorem fr_into1 {x z : Operand} (htg : ∀ r m, R r m → ∀ k off, vval r z = .lf (.ptr k off) → tg k) (hR : RR Snd R dst true tg) (hm : R r m) (hx : x ≠ .tmp d) (hz : z ≠ .tmp d) (hk : Fr d v R K K') (h : into1 z x K (r.set d v) m) : into1 z x K' r m := by
  unfold into1 at h ⊢
  rw [vval_set hx, vval_set hz] at h
  have hk' : ∀ k off c, vval r z = .lf (.ptr k off) → K (r.set d v) (mset m k c) → K' r (mset m k c) := fun k off c e h => hk r _ (hR.mem rfl _ _ _ _ (htg _ _ hm k off e) hm) h
  simp only [fl0_eq, fm_eq] at h ⊢
  generalize hp : vval r z = p at h ⊢
  generalize vval r x = q at h ⊢
  cases p with
  | lf p =>
    cases p with
    | ptr k off =>
      cases q with
      | lf y =>
        cases y with
        | undef => exact h.elim
        | vp _ _ _ _ _ _ _ _ => exact h.elim
        | full _ _ => exact h.elim
        | val T y => exact mono_vchk (mono_optK fun _ => mono_vchk (hk' _ _ _ hp)) h
        | sc u => cases u <;> first | exact h.elim | exact mono_optK (fun _ => mono_vchk (hk' _ _ _ hp)) h
        | _ => exact mono_optK (fun _ => mono_vchk (hk' _ _ _ hp)) h
      | _ => exact h.elim
    | _ => exact h.elim
  | _ => exact h.elim

theorem fr_intoN {t : TypeId} {x z : Operand} (htg : ∀ r m, R r m → ∀ k off, vval r z = .lf (.ptr k off) → tg k) (hR : RR Snd R dst true tg) (hm : R r m) (hx : x ≠ .tmp d) (hz : z ≠ .tmp d) (hk : Fr d v R K K') (h : intoN P t z x K (r.set d v) m) : intoN P t z x K' r m := by
  unfold intoN at h ⊢
  rw [vval_set hx, vval_set hz] at h
  have hk' : ∀ k off c, vval r z = .lf (.ptr k off) → K (r.set d v) (mset m k c) → K' r (mset m k c) := fun k off c e h => hk r _ (hR.mem rfl _ _ _ _ (htg _ _ hm k off e) hm) h
  simp only [fl0_eq, fm_eq] at h ⊢
  split at h
  · rename_i hp _
    exact mono_vchk (mono_optK fun _ => mono_vchk (hk' _ _ _ hp)) h
  · rename_i hp _
    exact mono_vchk (mono_optK fun _ => mono_vchk (hk' _ _ _ hp)) h
  · exact h.elim

theorem fr_intoE {t : TypeId} {x z : Operand} (htg : ∀ r m, R r m → ∀ k off, vval r z = .lf (.ptr k off) → tg k) (hR : RR Snd R dst true tg) (hm : R r m) (hx : x ≠ .tmp d) (hz : z ≠ .tmp d) (hv : inA v = true) (hk : Fr d v R K K') (h : intoE P t z x K (r.set d v) m) : intoE P t z x K' r m := by
  unfold intoE at h ⊢
  rw [vval_set hx, vval_set hz] at h
  split at h
  · exact mono_vchk (mono_optK fun _ => fr_map hR (fix_upd _ _ _ _) hv hm hk) h
  · exact h.elim

theorem fr_intoNil {t : TypeId} {z : Operand} {k off : Nat} (htg : ∀ r m, R r m → ∀ k off, vval r z = .lf (.ptr k off) → tg k) (hR : RR Snd R dst true tg) (hm : R r m) (hz : z ≠ .tmp d) (hv : inA v = true) (hk : Fr d v R K K') (h : intoNil P t z k off K (r.set d v) m) : intoNil P t z k off K' r m := by
  unfold intoNil at h ⊢
  split at h
  · refine mono_optK (fun _ => fr_map hR (fix_kill _) hv hm fun r m hm h => ?_) h
    rw [vval_set hz] at h
    simp only [fl0_eq, fm_eq] at h ⊢
    generalize hp : vval r z = p at h ⊢
    split at h
    · rename_i k' off'
      refine mono_vchk ?_ h
      intro h2
      by_cases hkk : Nat.beq k' k = true
      · have e := Nat.eq_of_beq_eq_true hkk
        subst e
        exact mono_optK (fun _ => mono_vchk (hk _ _ (hR.mem rfl _ _ _ _ (htg _ _ hm _ _ hp) hm))) h2
      · rw [Bool.not_eq_true] at hkk
        rw [hkk] at h
        exact h.elim
    · exact h.elim
  · exact h.elim

theorem fr_store {t : TypeId} {z x : Operand} (htg : ∀ r m, R r m → ∀ k off, vval r z = .lf (.ptr k off) → tg k) (hR : RR Snd R o.dst true tg) (hm : R r m) (ho : o.op = .store t z x) (hx : ∀ x ∈ opnds o.op, x ≠ .tmp d) (hv : inA v = true) (hk : Fr d v R K K') (h : vop P Snd all o (r.set d v) m K E) : vop P Snd all o r m K' E := by
  rw [ho] at hx
  have hz : z ≠ .tmp d := hx z (by simp [opnds])
  have hxx : x ≠ .tmp d := hx x (by simp [opnds])
  have hfr : ∀ y ∈ [x], y ≠ .tmp d := fun y hy => by simp at hy; rw [hy]; exact hxx
  simp only [vop, ho] at h ⊢
  cases hdst : o.dst with
  | some d' => rw [hdst] at h; exact h.elim
  | none =>
    rw [hdst] at h
    simp only at h ⊢
    unfold vstore at h ⊢
    rw [vval_set hz, vval_set hxx] at h
    generalize hp : vval r z = p at h ⊢
    cases p with
    | lf p =>
      cases p with
      | ptr k off =>
        simp only at h ⊢
        cases hag : isAggB P t with
        | true => rw [hag] at h; exact fr_vfreeze hR hv hfr hm (fun r m hm h => fr_intoN htg hR hm hxx hz hk h) h
        | false =>
          rw [hag] at h
          simp only at h ⊢
          refine mono_vchk ?_ h
          intro h
          generalize vval r x = q at h ⊢
          split
          · exact fr_intoNil htg hR hm hz hv hk h
          · simp only at h
            split
            · rename_i e2
              rw [e2] at h
              exact fr_vname hR hv hm (fun r m hm h => fr_into1 htg hR hm hxx hz hk h) h
            · rename_i e2
              rw [e2] at h
              exact fr_vfreeze hR hv hfr hm (fun r m hm h => fr_into1 htg hR hm hxx hz hk h) h
          · rename_i n1 n2
            split at h
            · exact (n1 rfl).elim
            · exact (n2 _ _ _ rfl).elim
            · exact fr_into1 htg hR hm hxx hz hk h
      | vp _ _ _ _ _ _ _ _ => exact fr_vfreeze hR hv hfr hm (fun r m hm h => fr_intoE htg hR hm hxx hz hv hk h) h
      | _ => exact h.elim
    | _ => exact h.elim

theorem argsOf_set : ∀ {l : List Operand} {ts : List TypeId}, (∀ x ∈ l, x ≠ .tmp d) → argsOf P (r.set d v) l ts = argsOf P r l ts
  | [], _, _ => rfl
  | x :: l, [], h => by simp only [argsOf]; rw [vval_set (h x (by simp)), argsOf_set fun y hy => h y (by simp [hy])]
  | x :: l, t :: ts, h => by simp only [argsOf]; rw [vval_set (h x (by simp)), argsOf_set fun y hy => h y (by simp [hy])]

theorem subM_nil {m : Mem} {mv : List (Ow × Nat)} {ks : List Nat} (h : subM m ks mv ks 0 = []) : ks = [] := by
  cases ks with
  | nil => rfl
  | cons k l => simp [subM] at h

theorem fr_call {f : Operand} {args : Array Operand} {ats : Array TypeId} (hR : RR Snd R o.dst false tg) (ho : o.op = .call { callee := .value f, args, argTypes := ats }) (hx : ∀ x ∈ opnds o.op, x ≠ .tmp d) (hd : o.dst ≠ some d) (hv : inA v = true) (hm : R r m) (hk : Fr d v R K K') (h : vop P Snd all o (r.set d v) m K E) : vop P Snd all o r m K' E := by
  rw [ho] at hx
  have hf : f ≠ .tmp d := hx f (by simp [opnds])
  simp only [vop, ho] at h ⊢
  rw [vval_set hf, argsOf_set fun x hx' => hx x (by simp only [opnds]; exact List.mem_cons_of_mem _ hx')] at h
  split
  · rename_i e
    rw [e] at h
    simp only at h
    obtain ⟨ks, mv, Q, h⟩ := h
    refine ⟨ks, mv, Q, ?_⟩
    refine mono_vchk ?_ h
    simp only [fl_eq, fm_eq, fr_eq]
    rintro ⟨h1, h2⟩
    refine ⟨h1, fun o' hq => ?_⟩
    have h3 := h2 o' hq
    cases o' with
    | panic u m' => exact h3
    | ret u m' =>
      simp only [fv_eq, fm_eq] at h3 ⊢
      rw [set_map (fix_outn _ _ _) hv] at h3
      exact fr_vput hR hd (hR.call rfl _ _ _ _ _ _ _ _ _ h1 hm) hk h3
  · rename_i hn
    split at h
    · rename_i e; exact (hn _ _ _ e).elim
    · exact h

/-- An operation that does not look at slot d runs alike without it. -/
theorem vop_frame (hw : wKind o.op = true) (htg : ∀ t z x, o.op = .store t z x → ∀ r m, R r m → ∀ k off, vval r z = .lf (.ptr k off) → tg k) (hR : RR Snd R o.dst (isStore o.op) tg) (hx : ∀ x ∈ opnds o.op, x ≠ .tmp d) (hd : o.dst ≠ some d) (hv : inA v = true) (hm : R r m) (hk : Fr d v R K K') (h : vop P Snd all o (r.set d v) m K E) : vop P Snd all o r m K' E := by
  cases ho : o.op
  case assign x => exact fr_assign hR ho hx hd hv hm hk h
  case store t z x =>
    rw [ho] at hR
    exact fr_store (htg t z x ho) hR hm ho hx hv hk h
  case call c =>
    obtain ⟨callee, args, ats⟩ := c
    cases callee with
    | value f =>
      rw [ho] at hR
      exact fr_call hR ho hx hd hv hm hk h
    | invoke x n => rw [ho] at hw; cases hw
    | builtin b =>
      cases b
      case append => exact fr_append hR ho hx hd hv hm hk h
      all_goals (rw [ho] at hw; cases hw)
  all_goals (rw [ho] at hw; cases hw)

/-- what is without names stays -/
def KeepsR (dst : Option Nat) (r0 r : Regs) : Prop := ∀ t x, dst ≠ some t → r0[t]? = some x → inA x = true → r[t]? = some x
def Stay (kp : Prop) (pr : List Nat) (dst : Option Nat) (r0 : Regs) (m0 : Mem) (r : Regs) (m : Mem) : Prop := KeepsR dst r0 r ∧ (kp → Keeps pr m0 m)

theorem Stay.refl {kp : Prop} {pr : List Nat} (r : Regs) (m : Mem) : Stay kp pr dst r m r m := ⟨fun _ _ _ h _ => h, fun _ => .refl pr m⟩

theorem keepsR_map {r0 : Regs} {f : A0 → A0} (hf : Fixes f) (h : KeepsR dst r0 r) : KeepsR dst r0 (r.map (AV.map f)) := fun t x hd hx hi => by
  rw [List.getElem?_map, h t x hd hx hi, Option.map_some, inA_fix hf hi]

theorem Stay.rr {kp : Prop} {pr : List Nat} {r0 : Regs} {m0 : Mem} (hs : st = true → kp → ∀ k, tg k → k ∉ pr) (hS : kp → ∀ f xs sm Q, Snd f xs sm Q → sm = []) : RR Snd (Stay kp pr dst r0 m0) dst st tg where
  map := fun f r m hf h => ⟨keepsR_map hf h.1, fun hp => (h.2 hp).trans (.mmap hf m)⟩
  set := fun d' r m u hd h => ⟨fun t x ht hx hi => by
    rw [List.getElem?_set_ne (fun e => ht (by rw [hd, e]))]
    exact h.1 t x ht hx hi, h.2⟩
  mem := fun e r m k c htk h => ⟨h.1, fun hp => (h.2 hp).trans fun k' c' hpr hlt hc hi => by
    rw [mget_mset (fun e' => hs e hp k htk (by rw [← e']; exact hpr))]
    exact hc⟩
  call := fun _ r m m' ks mv d' f xs Q h1 h => by
    refine ⟨keepsR_map (fix_outn _ _ _) h.1, fun hp => (h.2 hp).trans fun k c hpr hlt hc hi => ?_⟩
    have hks := subM_nil (hS hp _ _ _ _ h1)
    subst hks
    refine mget_append ?_
    rw [mget_mmap, mget_leftM hlt hc, Option.map_some, inL_fix (fix_outn _ _ _) hi]

end

end Go.V
