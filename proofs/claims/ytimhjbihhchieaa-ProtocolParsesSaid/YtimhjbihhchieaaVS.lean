/- V: operations that only give a value, at whatever place in the order. Conditions: as each states. -/
import Derived.Test.YtimhjbihhchieaaVR
namespace Go.V
set_option linter.unusedVariables false
set_option linter.unusedSimpArgs false

def vcalm (P : Program) (all : List Oper) (o : Oper) (r : Regs) (m : Mem) (K : AV → Prop) : Prop :=
  match o.op with
  | .pick c a b => match vval r c with
    | .lf (.val .bool t) => vif t (K (vval r a)) (K (vval r b))
    | _ => False
  | .build t ps => match P.underlying t with
    | some (.struct fs) => optK (tyOf P 9 t) fun T => optK (zeroCells? P t) fun z => optK (placesOf P fs.toList) fun pl => optK (partsA r ps.toList) fun qs => optK (fillA (pl[·]?) (valCells z) qs) fun c => match boxedIn all o.dst with | true => K (.st c) | false => vchk T.agg (optK (packT T c) fun p => vchk p.2.isEmpty (K (.lf (.val T p.1))))
    | _ => False
  | .buildSlice t n ps => match o.dst, P.underlying t with
    | some d, some (.slice el) => optK (tyOf P 9 el) fun E => optK (zeroCells? P el) fun z => vchk (szIs P el E.sz && Nat.beq z.length E.sz && Nat.ble (n * E.sz) 16777216) (optK (partsA r ps.toList) fun qs =>
        optK (fillA (fun i => some (i * E.sz, E.sz)) (repA n (valCells z)) qs) fun c => optK (packN E n c) fun l => K (.lf (.val (.slice E) l)))
    | _, _ => False
  | _ => vpure P r m o K

section
variable {P : Program} {r r' : Regs} {m m' : Mem} {o : Oper} {all : List Oper} {Snd : SND} {K : Regs → Mem → Prop} {E : AV → Mem → Prop}

theorem vfreeze_calm : ∀ {xs : List Operand} {K : Regs → Mem → Prop}, (xs.all fun x => notAl (vval r x)) = true → vfreeze r m xs K = K r m
  | [], K, _ => rfl
  | x :: xs, K, h => by
    rw [List.all_cons, Bool.and_eq_true] at h
    unfold vfreeze
    split
    · rename_i e; rw [e] at h; cases h.1
    · exact vfreeze_calm h.2

theorem vfreezeC_calm : ∀ {xs : List A0} {K : Regs → Mem → Prop}, noAl xs = true → vfreezeC r m xs K = K r m
  | [], K, _ => rfl
  | x :: xs, K, h => by
    cases x <;> simp only [noAl] at h <;> first | cases h | (simp only [vfreezeC]; exact vfreezeC_calm h)

theorem vop_calm (h : calm P all o r m = true) : vop P Snd all o r m K E = vcalm P all o r m fun v => vput r m o.dst v K := by
  unfold calm at h
  cases ho : o.op
  case load t a =>
    simp only [ho] at h
    simp only [vop, vcalm, ho]
    split
    · rename_i k off e1 e2
      simp only [e1, e2] at h
      split at h
      · rename_i c hc
        rw [hc]
        simp only [optK]
        rw [vfreezeC_calm h]
      · cases h
    · rfl
  case slice t x lo hi mx =>
    simp only [ho] at h
    simp only [vop, vcalm, ho]
    split
    · rfl
    · rename_i hne
      split at h
      · exact (hne rfl rfl).elim
      · rw [vfreeze_calm (by simpa using h)]
  case convert src dst x =>
    simp only [ho] at h
    simp only [vop, vcalm, ho]
    split
    · rename_i e
      simp only [e] at h
      split at h
      · rename_i e2
        split
        · rename_i e3; rw [e2] at e3; cases e3
        · rfl
      · cases h
    · rename_i e
      simp only [e] at h
      split at h
      · rename_i e2
        split
        · rename_i e3; rw [e2] at e3; cases e3
        · rfl
      · cases h
    · rfl
  case build t ps =>
    simp only [ho] at h
    simp only [vop, vcalm, ho]
    rw [vfreeze_calm (by simpa using h)]
    cases P.underlying t with
    | none => rfl
    | some u => cases u <;> first | rfl | (cases boxedIn all o.dst <;> rfl)
  case buildSlice t n ps =>
    simp only [ho, Bool.and_eq_true] at h
    simp only [vop, vcalm, ho]
    obtain ⟨h1, h2⟩ := h
    cases hd : o.dst with
    | none => simp [hd] at h2
    | some d =>
      rw [hd] at h2
      simp only [Bool.not_eq_true'] at h2
      cases P.underlying t with
      | none => rfl
      | some u =>
        cases u with
        | slice e =>
          simp only
          rw [vfreeze_calm (by simpa using h1)]
          rw [h2]
        | _ => rfl
  case call c =>
    obtain ⟨callee, args, ats⟩ := c
    simp only [ho] at h
    cases callee with
    | value f => cases h
    | invoke x n => cases h
    | builtin b => cases b <;> first | (cases h; done) | (simp only [vop, vcalm, ho])
  case pick c x y =>
    simp only [vop, vcalm, ho]
    cases vval r c with
    | lf q =>
      cases q with
      | val T x => cases T <;> rfl
      | _ => rfl
    | _ => rfl
  all_goals (simp only [ho] at h; first | (cases h; done) | (simp only [vop, vcalm, ho]))

theorem vcalm_det : DetP (vcalm P all o r m) := by
  show DetP fun K => vcalm P all o r m K
  unfold vcalm
  split
  · split
    · rename_i t _
      cases t
      · exact DetP.ret _
      · exact DetP.ret _
    · exact DetP.no
  · split
    · refine DetP.optK fun _ => DetP.optK fun _ => DetP.optK fun _ => DetP.optK fun _ => DetP.optK fun _ => ?_
      split
      · exact DetP.ret _
      · exact DetP.vchk (DetP.optK fun _ => DetP.vchk (DetP.ret _))
    · exact DetP.no
  · split
    · exact DetP.optK fun _ => DetP.optK fun _ => DetP.vchk (DetP.optK fun _ => DetP.optK fun _ => DetP.optK fun _ => DetP.ret _)
    · exact DetP.no
  · exact vpure_det

theorem partsA_agree : ∀ {l : List (Nat × Operand)}, (∀ x ∈ l.map (·.2), vval r' x = vval r x) → partsA r' l = partsA r l
  | [], _ => rfl
  | (i, x) :: l, h => by
    simp only [partsA]
    rw [h x (by simp), partsA_agree (l := l) fun y hy => h y (by simp at hy ⊢; exact .inr hy)]

theorem vcalm_agree (h : Agree o r m r' m') (K : AV → Prop) : vcalm P all o r' m' K = vcalm P all o r m K := by
  unfold vcalm
  cases ho : o.op
  case pick c x y =>
    have h1 := h.1
    simp only [ho, opnds, List.mem_cons, List.not_mem_nil, or_false, forall_eq_or_imp, forall_eq] at h1 ⊢
    simp only [h1]
  case build t ps =>
    have h1 := h.1
    simp only [ho, opnds] at h1 ⊢
    simp only [partsA_agree h1]
  case buildSlice t n ps =>
    have h1 := h.1
    simp only [ho, opnds] at h1 ⊢
    simp only [partsA_agree h1]
  all_goals exact vpure_agree h K

theorem all_agree : ∀ {l : List (Nat × Operand)}, (∀ x ∈ l.map (·.2), vval r' x = vval r x) → (l.all fun p => notAl (vval r' p.2)) = l.all fun p => notAl (vval r p.2)
  | [], _ => rfl
  | p :: l, h => by
    rw [List.all_cons, List.all_cons, h p.2 (by simp), all_agree (l := l) fun y hy => h y (by simp at hy ⊢; exact .inr hy)]

theorem calm_agree (h : Agree o r m r' m') : calm P all o r' m' = calm P all o r m := by
  obtain ⟨hx, hm⟩ := h
  unfold calm
  cases ho : o.op
  case load t a =>
    simp only [ho, opnds] at hx ⊢
    rw [hx a (by simp)]
    have hm := hm t a
    cases hv : vval r a with
    | lf q =>
      cases q with
      | ptr k off =>
        have e := hm k off ho hv
        cases isAggB P t
        · rfl
        · simp only
          rw [e]
      | _ => rfl
    | _ => rfl
  case slice t x lo hi mx =>
    simp only [ho, opnds, List.mem_cons, forall_eq_or_imp] at hx ⊢
    rw [hx.1]
  case convert s d x =>
    simp only [ho, opnds, List.mem_cons, List.not_mem_nil, or_false, forall_eq] at hx ⊢
    rw [hx]
  case build t ps =>
    simp only [ho, opnds] at hx ⊢
    exact all_agree hx
  case buildSlice t n ps =>
    simp only [ho, opnds] at hx ⊢
    rw [all_agree hx]
  case call c =>
    obtain ⟨callee, args, ats⟩ := c
    cases callee with
    | value f => rfl
    | invoke x n => rfl
    | builtin b => cases b <;> rfl
  all_goals rfl

end

end Go.V
