/- V: operations with one value, and what they look at. Conditions: as each states. -/
import Derived.Test.YtimhjbihhchieaaVP
namespace Go.V
set_option linter.unusedVariables false
set_option linter.unusedSimpArgs false

/-- there is one value at most that follows -/
def DetP {α : Type} (F : (α → Prop) → Prop) : Prop := ∀ K, F K → ∃ v, K v ∧ ∀ K' : α → Prop, K' v → F K'

section
variable {α β : Type}
theorem DetP.ret (v : α) : DetP (fun K : α → Prop => K v) := fun K h => ⟨v, h, fun _ h => h⟩
theorem DetP.no : DetP (fun _ : α → Prop => False) := fun K h => h.elim
theorem DetP.vand {p : Prop} {F : (α → Prop) → Prop} (h : DetP F) : DetP (fun K => V.vand p (F K)) := fun K ⟨hp, hk⟩ => let ⟨v, a, b⟩ := h K hk; ⟨v, a, fun K' hk' => ⟨hp, b K' hk'⟩⟩
theorem DetP.vchk {p : Bool} {F : (α → Prop) → Prop} (h : DetP F) : DetP (fun K => V.vchk p (F K)) := by
  intro K hk
  cases p with
  | true => exact h K hk
  | false => exact hk.elim
theorem DetP.optK {x : Option β} {F : β → (α → Prop) → Prop} (h : ∀ b, DetP (F b)) : DetP (fun K => V.optK x fun b => F b K) := by
  intro K hk
  cases x with
  | some b => exact h b K hk
  | none => exact hk.elim
theorem DetP.isNat {x : AV} {F : Int → (α → Prop) → Prop} (h : ∀ n, DetP (F n)) : DetP (fun K => V.isNat x fun n => F n K) := by
  unfold V.isNat
  split
  · exact h _
  · exact .no
theorem DetP.map {F : (α → Prop) → Prop} (h : DetP F) (g : α → β) : DetP (fun K : β → Prop => F fun a => K (g a)) := fun K hk =>
  let ⟨v, a, b⟩ := h _ hk; ⟨g v, a, fun K' hk' => b _ hk'⟩
theorem DetP.optI {r : Regs} {x : Option Operand} {d : Int} {F : Int → (α → Prop) → Prop} (h : ∀ n, DetP (F n)) : DetP (fun K => V.optI r x d fun n => F n K) := by
  unfold V.optI
  split
  · exact h _
  · exact .isNat h
end

section
variable {P : Program} {r r' : Regs} {m m' : Mem} {o : Oper}

theorem binI_det {op : BinOp} {k : IntKind} {a b : Int} : DetP (binI op k a b) := by
  cases op <;> first | exact DetP.ret _ | exact DetP.vand (DetP.ret _) | exact DetP.no
theorem shI_det {op : BinOp} {k : IntKind} {a b : Int} : DetP (shI op k a b) := by
  cases op <;> first | exact DetP.ret _ | exact DetP.vand (DetP.ret _) | exact DetP.no
theorem binS_det {op : BinOp} {a b : ByteArray} : DetP (binS op a b) := by
  cases op <;> first | exact DetP.ret _ | exact DetP.vand (DetP.ret _) | exact DetP.no
theorem binB_det {t : TypeId} {op : BinOp} {a b : Bool} : DetP (binB P t op a b) := by
  show DetP fun K => binB P t op a b K
  unfold binB
  split
  · cases op <;> first | exact DetP.ret _ | exact DetP.no
  · exact DetP.no
theorem vbin_det {op : BinOp} {t : TypeId} {x y : AV} : DetP (vbin P op t x y) := by
  show DetP fun K => vbin P op t x y K
  unfold vbin
  split
  · split
    · exact shI_det
    · exact DetP.vchk binI_det
  · exact binS_det
  · exact binB_det
  · exact DetP.no
theorem vslice_det {t : TypeId} {x : AV} {lo hi mx : Option Operand} : DetP (vslice P r t x lo hi mx) := by
  show DetP fun K => vslice P r t x lo hi mx K
  unfold vslice
  split
  · split
    · exact DetP.optI fun _ => DetP.optI fun _ => DetP.vand (DetP.ret _)
    · exact DetP.no
  · split
    · refine DetP.vchk (DetP.optI fun _ => ?_)
      split
      · exact DetP.optI fun _ => DetP.vand (DetP.ret _)
      · split
        · exact DetP.isNat fun _ => DetP.isNat fun _ => DetP.vand (DetP.ret _)
        · exact DetP.no
    · exact DetP.no
  · split
    · exact DetP.vchk (DetP.optI fun _ => DetP.vand (DetP.ret _))
    · exact DetP.no
  · exact DetP.no

theorem vpure_det : DetP (vpure P r m o) := by
  show DetP fun K => vpure P r m o K
  unfold vpure
  split
  case h_1 => exact DetP.ret _
  case h_2 => exact vbin_det.map _
  case h_3 =>
    split
    · exact DetP.ret _
    · exact DetP.ret (AV.lf _)
    · exact DetP.no
  case h_4 => split <;> first | exact DetP.ret _ | exact DetP.no
  case h_5 =>
    split
    · exact DetP.isNat fun _ => DetP.vand (DetP.ret _)
    · exact DetP.no
  case h_6 =>
    split
    · split
      · exact DetP.vchk (DetP.isNat fun _ => DetP.vand (DetP.ret _))
      · exact DetP.vchk (DetP.isNat fun _ => DetP.vand (DetP.ret _))
      · exact DetP.no
    · exact DetP.no
  case h_7 =>
    split
    · split
      · simp only [fN_eq]
        exact DetP.optK fun _ => DetP.vchk (DetP.ret _)
      · exact DetP.optK fun _ => DetP.optK fun _ => DetP.vchk (DetP.ret _)
      · exact DetP.optK fun _ => DetP.optK fun _ => DetP.vchk (DetP.ret _)
      · exact DetP.no
    · exact DetP.no
  case h_8 =>
    split
    · exact DetP.optK fun _ => DetP.optK fun _ => DetP.vchk (DetP.ret _)
    · exact DetP.no
  case h_9 =>
    split
    · exact DetP.optK fun _ => DetP.ret _
    · exact DetP.no
  case h_10 =>
    refine DetP.vchk ?_
    split
    · refine DetP.optK fun _ => ?_
      split
      · exact DetP.optK fun _ => DetP.ret _
      · exact DetP.optK fun _ => DetP.vchk (DetP.optK fun _ => DetP.ret _)
    · exact DetP.vchk (DetP.ret _)
    · exact DetP.vchk (DetP.ret _)
    · exact DetP.no
  case h_11 =>
    split <;> first | exact DetP.no | (split <;> first | exact DetP.ret _ | exact DetP.no | (split <;> first | exact DetP.ret _ | exact DetP.no))
  case h_12 => exact vslice_det.map _
  case h_13 => split <;> first | exact DetP.ret _ | exact DetP.no
  case h_14 => exact DetP.ret _
  case h_15 =>
    split
    · split
      · exact DetP.ret _
      · exact DetP.optK fun _ => DetP.ret _
      · exact DetP.no
    · exact DetP.no
  case h_16 =>
    split
    · split
      · exact DetP.ret _
      · exact DetP.no
    · exact DetP.no
  case h_17 =>
    split
    · split
      · exact DetP.ret _
      · exact DetP.no
    · exact DetP.no
  case h_18 => exact DetP.no

/-- the same is seen -/
def Agree (o : Oper) (r : Regs) (m : Mem) (r' : Regs) (m' : Mem) : Prop :=
  (∀ x ∈ opnds o.op, vval r' x = vval r x) ∧ ∀ t x k off, o.op = .load t x → vval r x = .lf (.ptr k off) → mget m' k = mget m k

theorem optI_agree {x : Option Operand} {d : Int} {K : Int → Prop} (h : ∀ y ∈ x.toList, vval r' y = vval r y) : optI r' x d K = optI r x d K := by
  unfold optI
  cases x with
  | none => rfl
  | some y => simp only; rw [h y (by simp)]

theorem vslice_agree {t : TypeId} {x : AV} {lo hi mx : Option Operand} {K : A0 → Prop} (h1 : ∀ y ∈ lo.toList, vval r' y = vval r y) (h2 : ∀ y ∈ hi.toList, vval r' y = vval r y) (h3 : ∀ y ∈ mx.toList, vval r' y = vval r y) :
    vslice P r' t x lo hi mx K = vslice P r t x lo hi mx K := by
  have e1 : ∀ (d : Int) (K : Int → Prop), optI r' lo d K = optI r lo d K := fun d K => optI_agree h1
  have e2 : ∀ (d : Int) (K : Int → Prop), optI r' hi d K = optI r hi d K := fun d K => optI_agree h2
  unfold vslice
  split
  · simp only [e1, e2]
  · split
    · congr 1
      rw [e1]
      congr 1
      funext a
      split
      · rw [e2]
      · split
        · rename_i z _ y
          rw [h2 y (by simp), h3 z (by simp)]
        · rfl
    · rfl
  · split
    · rw [e2]
    · rfl
  · rfl

theorem vpure_agree (h : Agree o r m r' m') (K : AV → Prop) : vpure P r' m' o K = vpure P r m o K := by
  obtain ⟨hx, hm⟩ := h
  unfold vpure
  cases ho : o.op
  case load t a =>
    simp only [ho, opnds] at hx ⊢
    rw [hx a (by simp)]
    have hm := hm t a
    cases hv : vval r a with
    | lf q =>
      cases q with
      | ptr k off => simp only [hm k off ho hv]
      | _ => rfl
    | _ => rfl
  case slice t x lo hi mx =>
    simp only [ho, opnds, List.mem_cons, List.mem_append, forall_eq_or_imp] at hx ⊢
    rw [hx.1, vslice_agree (fun y hy => hx.2 y (.inl hy)) (fun y hy => hx.2 y (.inr (.inl hy))) (fun y hy => hx.2 y (.inr (.inr hy)))]
  case makeFunc f a b =>
    simp only [ho, opnds, List.mem_append] at hx ⊢
    rw [List.map_congr_left (fun y hy => by rw [hx y (.inl hy)]), List.map_congr_left (l := b.toList) (fun y hy => by rw [hx y (.inr hy)])]
  case call c =>
    obtain ⟨callee, args, ats⟩ := c
    cases callee with
    | value f => rfl
    | invoke x n => rfl
    | builtin b =>
      simp only [ho, opnds] at hx ⊢
      cases b <;> try rfl
      all_goals
        simp only
        split <;> try rfl
        first
        | (rename_i e1 e2; rw [e1] at hx; simp only [List.mem_cons, List.not_mem_nil, or_false, forall_eq_or_imp, forall_eq] at hx; simp only [hx])
        | (rename_i e1; rw [e1] at hx; simp only [List.mem_cons, List.not_mem_nil, or_false, forall_eq_or_imp, forall_eq] at hx; simp only [hx])
  all_goals (first | rfl | (simp only [ho, opnds, List.mem_cons, List.not_mem_nil, or_false, forall_eq_or_imp, forall_eq] at hx ⊢; simp only [hx]))

end

end Go.V
