/- V: append and make as operations; all operations but calls of functions. Conditions: as each states. -/
import Derived.Test.YtimhjbihhchieaaVL
namespace Go.V
set_option linter.unusedVariables false
set_option linter.unusedSimpArgs false

section
variable {B0 : Lab} {W0 : World} {N : Nat} {WL : World} {B : Lab} {W W' : World} {r : Regs} {m : Mem} {P : Program} {a : Act}
variable {K : Regs → Mem → Prop} {next : Act → World → Prop} {Q : Exit → Act → World → Prop} {o : Oper} {Snd : SND} {all : List Oper} {E : AV → Mem → Prop}

theorem nvOf_s {e : Ty} {v : AV} {u : Value} {l2 : List e.den} (h : nvOf e v = some l2) (hu : RepA B W v u) : ∃ cs, Flat (fun x es => RepC B W e x es) l2 cs ∧ Src P W e.sz u l2.length cs := by
  unfold nvOf at h
  split at h
  · rename_i y
    split at h
    · rename_i e' l hrow
      obtain ⟨he, rfl⟩ := cast_some h
      cases he
      exact src_row (rep_row hrow hu)
    · cases y with
      | val ty s =>
        cases ty with
        | str =>
          rw [rep_str hu]
          obtain ⟨he, rfl⟩ := cast_some h
          cases he
          exact ⟨_, src_str s⟩
        | _ => cases h
      | _ => cases h
  · cases h

theorem append_s (hn : Next? B0 W0 N WL K next) (hd : a.defers = []) (h : Inv B0 W0 N WL B W r m a.tmps.toList) {args : Array Operand} {ats : Array TypeId} (ho : o.op = .call { callee := .builtin .append, args, argTypes := ats })
    (hv : vop P Snd all o r m K E) : o.upon P a next Q ((execOp a.eval o).run P W) := by
  simp only [vop, ho] at hv
  split at hv
  · rename_i d s x t u hdst hargs hats
    obtain ⟨hu, hv⟩ := chk hv
    have hexec := call2 (a := a) ho hargs (f := Builtin.append_) (fun _ _ _ _ => rfl)
    have he : ats = #[t, u] := by rw [← Array.toArray_toList (xs := ats), hats]
    have hx := vval_rep h.regs x
    have hs := vval_rep h.regs s
    suffices hsuf : ∃ W' u', (Builtin.append_ #[t, u] o.type #[a.eval s, a.eval x]).run P W = .ok u' W' ∧ next (a.put (some d) u') W' by
      obtain ⟨W', u', h1, h2⟩ := hsuf
      have hrun : (execOp a.eval o).run P W = .ok (.value u') W' := by
        rw [hexec, he]
        simp only [Sem.run_bind, h1, Result.andThen_ok, Sem.run_pure]
      exact upon_val hrun (by rw [hdst]; exact h2)
    unfold vappend at hv
    split at hv
    · rename_i el ht
      generalize hvs : vval r s = vs at hv hs
      split at hv
      · rename_i w e l
        obtain ⟨hz, hv⟩ := chk hv
        obtain ⟨l2, hl2, hfit, hv⟩ := optK_some hv
        rw [Bool.and_eq_true] at hz
        simp only [mapS_eq, fs_eq] at hv
        obtain ⟨cs, hf, hsrc⟩ := nvOf_s (P := P) hl2 hx
        obtain ⟨W', u', B', h1, h2, h3⟩ := append_own (P := P) (ty := o.type) h ht hu hz.1 hz.2 hs hsrc hf hfit
        exact ⟨W', u', h1, hn _ _ _ _ _ hd (h2.set (v := .lf (.al w e (l ++ l2))) h3 d) hv⟩
      · rename_i e l
        obtain ⟨hz, hv⟩ := chk hv
        obtain ⟨l2, hl2, ⟨hfit, hpos⟩, hv⟩ := optK_some hv
        rw [Bool.and_eq_true] at hz
        obtain ⟨cs, hf, hsrc⟩ := nvOf_s (P := P) hl2 hx
        have hk := h.kill (.sl d)
        have hxx := (killL_ext B W (.sl d)).s
        have hrow := rep_row (a := .full e l) rfl (Rep0.kill (killL_ext B W (.sl d)) hs : Rep0 _ _ (A0.kill (.sl d) (.full e l)) _)
        obtain ⟨W', u', h1, h2, h3⟩ := append_new (P := P) (ty := o.type) hk (killL_no _) ht hu hz.1 hz.2 hrow (fun p n c e => by
          obtain ⟨q, e', _⟩ := hs
          rw [e'] at e; cases e; omega) hsrc (hf.imp fun x c hr => RepC.ext hxx hr) hfit
        exact ⟨W', u', h1, hn _ _ _ _ _ hd (h2.set (v := .lf (.al (.sl d) e (l ++ l2))) h3 d) (vnew_mk hv)⟩
      · obtain ⟨e, he', hv⟩ := optK_some hv
        obtain ⟨hz, hv⟩ := chk hv
        obtain ⟨l2, hl2, hfit, hv⟩ := optK_some hv
        rw [Bool.and_eq_true] at hz
        obtain ⟨cs, hf, hsrc⟩ := nvOf_s (P := P) hl2 hx
        have hk := h.kill (.sl d)
        have hxx := (killL_ext B W (.sl d)).s
        rw [sc_nil hs]
        obtain ⟨W', u', B', h1, h2, h3⟩ := append_own (P := P) (ty := o.type) (w := .sl d) (l := []) h ht hu hz.1 hz.2 (.inl ⟨rfl, rfl⟩) hsrc hf (by simpa using hfit)
        exact ⟨W', u', h1, hn _ _ _ _ _ hd (h2.set (v := .lf (.al (.sl d) e l2)) h3 d) (vnew_mk hv)⟩
      · exact hv.elim
    · exact hv.elim
  · exact hv.elim

theorem flat_replicate {α : Type} {R : α → List Value → Prop} {x : α} {c : List Value} (h : R x c) : ∀ n, Flat R (List.replicate n x) ((List.replicate n c).flatten)
  | 0 => rfl
  | n + 1 => by rw [List.replicate_succ, List.replicate_succ, List.flatten_cons]; exact ⟨c, _, rfl, h, flat_replicate h n⟩

theorem makeSlice_s (hn : Next? B0 W0 N WL K next) (hd : a.defers = []) (h : Inv B0 W0 N WL B W r m a.tmps.toList) {t : TypeId} {x y : Operand} (ho : o.op = .makeSlice t x y)
    (hv : vop P Snd all o r m K E) : o.upon P a next Q ((execOp a.eval o).run P W) := by
  simp only [vop, ho] at hv
  split at hv
  · rename_i d el hdst hu
    obtain ⟨T, hT, hv1⟩ := optK_some hv
    obtain ⟨z, hz, hv2⟩ := optK_some hv1
    obtain ⟨hchk, hv3⟩ := chk hv2
    obtain ⟨k1, n, hn1, hv4⟩ := isNat_s hv3 (vval_rep h.regs x)
    obtain ⟨k2, c, hn2, hv5⟩ := isNat_s hv4 (vval_rep h.regs y)
    obtain ⟨⟨v0, rest⟩, hp, hv6⟩ := optK_some hv5
    obtain ⟨he, ⟨h0, hnc, hfit⟩, hv7⟩ := chk hv6
    subst hnc
    rw [Bool.and_eq_true] at hchk
    obtain ⟨i, hi, hs⟩ := szIs_eq hchk.1
    obtain ⟨zv, hzv, hzc⟩ := zeroCells_s hz
    have hzl := Nat.eq_of_beq_eq_true hchk.2
    have hzs : zv.cells.size = T.sz := by rw [← hzl, ← hzc]; simp
    obtain ⟨cs, vs', hvs, hcr, hrest⟩ := packT_s (B := B) (W := W) hp (valCells_rep z)
    have : vs' = [] := by
      simp only [List.isEmpty_iff] at he
      subst he
      cases hrest; rfl
    subst this
    rw [List.append_nil] at hvs
    subst hvs
    have hby : P.bytesOf el = i.bytes := by simp [Program.bytesOf, hi]
    have hb := hfit.2
    rw [hby] at hb
    have hn63 := hfit.1
    have hni : (n.toNat : Int) = n := Int.toNat_of_nonneg h0
    have hnb : (i.bytes : Int) * n ≤ 281474976710656 := by
      rw [← hni, Int.mul_comm, ← Int.natCast_mul]; omega
    have hw64 : IntKind.i64.wrap n = n := by
      simp only [IntKind.wrap, IntKind.bits, IntKind.signed]
      simp
      omega
    have hcells : ((Array.range (n.toNat * T.sz)).map fun i => zv.cells[i % zv.cells.size]!).toList = (List.replicate n.toNat z).flatten := by
      rw [← hzs, range_mod, hzc]
    have hrun : (execOp a.eval o).run P W = .ok (.value (.slice (some ⟨W.heap.size, 0, none⟩) n.toNat n.toNat)) (W.alloc (.cells ((Array.range (n.toNat * T.sz)).map fun i => zv.cells[i % zv.cells.size]!) el)) := by
      have t1 : ¬ (n < 0) := by omega
      have t2 : ¬ (281474976710656 < (i.bytes : Int) * n) := by omega
      simp only [execOp, ho, Instr.makeSlice, Sem.run_bind, run_underlying hu, Result.andThen_ok, hn1, hn2, asInt, asIntOf, Sem.run_pure, typeInfo, run_program, hi, hw64]
      simp [t1, t2, h0, hzv, hi, run_size hi, hs]
      by_cases hz0 : n.toNat * T.sz = 0
      · rw [if_pos hz0]
        have he : ∀ f : Nat → Value, (Array.range (n.toNat * T.sz)).map f = #[] := by
          intro f; rw [hz0]; simp
        simp only [newRow, Sem.run_bind, run_newObj, Result.andThen_ok, Sem.run_pure]
        rw [he, he]
        rfl
      · rw [if_neg hz0]
        simp only [newRow, Sem.run_bind, run_newObj, Result.andThen_ok, Sem.run_pure]
        rfl
    refine upon_val hrun ?_
    rw [hdst]
    have hflat := flat_replicate (R := fun x es => RepC B W T x es) hcr n.toNat
    have hl : (List.replicate n.toNat v0).length = n.toNat := by simp
    have := vnew_row hn hd h hv7 (NewW.alloc W (.cells _ el)) hflat (cap := n.toNat) (fun j v hj => by rw [← Array.getElem?_toList, hcells]; exact hj) (by rw [hl]; exact Nat.le_refl _) (by simp) (.inl rfl)
    rwa [hl] at this
  · exact hv.elim

theorem panicCall_s (he : Exc? B0 W0 N WL E Q) (hd : a.defers = []) (h : Inv B0 W0 N WL B W r m a.tmps.toList) {args : Array Operand} {ats : Array TypeId} (ho : o.op = .call { callee := .builtin .panic, args, argTypes := ats })
    (hv : vop P Snd all o r m K E) : o.upon P a next Q ((execOp a.eval o).run P W) := by
  simp only [vop, ho] at hv
  split at hv
  · rename_i x hargs
    have hx := vval_rep h.regs x
    generalize vval r x = v at hv hx
    split at hv
    · have hx' := hx
      obtain ⟨u, e, hu⟩ := hx'
      obtain rfl : args = #[x] := by rw [← Array.toArray_toList (xs := args), hargs]
      have hrun : (execOp a.eval o).run P W = .halt (.panic (a.eval x)) W := by
        simp [execOp, ho, resolve, invoke, builtin, e]
        rw [run_panic rfl]; rfl
      rw [hrun]
      exact he _ _ _ _ _ _ hd h.lab h.low h.move hx h.mem hv
    · exact hv.elim
  · exact hv.elim

def isCall : Op → Bool
  | .call { callee := .value _, .. } => true
  | _ => false

theorem vop_s0 (hn : Next? B0 W0 N WL K next) (he : Exc? B0 W0 N WL E Q) (hd : a.defers = []) (h : Inv B0 W0 N WL B W r m a.tmps.toList) (hc : isCall o.op = false)
    (hv : vop P Snd all o r m K E) : o.upon P a next Q ((execOp a.eval o).run P W) := by
  cases ho : o.op
  case assign x => exact assign_s hn hd h ho hv
  case pick c x y => exact pick_s hn hd h ho hv
  case alloc t => exact allocOp_s hn hd h ho hv
  case box t x => exact boxOp_s hn hd h ho hv
  case build t ps => exact build_s hn hd h ho hv
  case buildSlice t n ps => exact buildSlice_s hn hd h ho hv
  case makeSlice t x y => exact makeSlice_s hn hd h ho hv
  case store t x y => exact store_s hn hd h ho hv
  case load t x => exact load_s hn hd h ho hv
  case slice t x lo hi mx => exact sliceOp_s hn hd h ho hv
  case convert s d x => exact convert_s hn hd h ho hv
  case panic x => exact panicOp_s he hd h ho hv
  case call c =>
    obtain ⟨callee, args, ats⟩ := c
    cases callee with
    | value f => rw [ho] at hc; cases hc
    | invoke x n => simp only [vop, ho] at hv; exact vpure_up hn hd h hv
    | builtin b =>
      cases b
      case append => exact append_s hn hd h ho hv
      case panic => exact panicCall_s he hd h ho hv
      all_goals (simp only [vop, ho] at hv; exact vpure_up hn hd h hv)
  all_goals (simp only [vop, ho] at hv; exact vpure_up hn hd h hv)

end

end Go.V
