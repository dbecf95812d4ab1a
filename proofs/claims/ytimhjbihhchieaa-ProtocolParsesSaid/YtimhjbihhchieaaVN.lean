/- V: what a function does, and calls. Conditions: as each states. -/
import Derived.Test.YtimhjbihhchieaaVM
namespace Go.V
set_option linter.unusedVariables false
set_option linter.unusedSimpArgs false

def Callable (P : Program) (f : FuncId) : Prop := ∃ fn, P.funcs[f]? = some fn ∧ (fn.name == "runtime.NumGoroutine") = false ∧ fn.body.isNone = false

def EndRep (B : Lab) (W : World) : Ending → Out → Prop
  | .returned u, .ret v m => RepA B W v u ∧ MemOK B W m
  | .panicked chain, .panic v m => ∃ u, chain = [{ v := u, recovered := false }] ∧ RepA B W v u ∧ MemOK B W m
  | _, _ => False

/-- Function f, called with xs and the objects m, ends in Q. (N, WL: the law's beginning.) -/
def Sound (P : Program) (N : Nat) (WL : World) (f : FuncId) (xs : List AV) (m : Mem) (Q : Out → Prop) : Prop :=
  Callable P f ∧ ∀ (B : Lab) (W : World) (vs : List Value), LabOK B W → Low N WL B W → All2 (RepA B W) xs vs → MemOK B W m →
    Calls P f vs.toArray W fun e W' => ∃ o B', Q o ∧ LabOK B' W' ∧ Low N WL B' W' ∧ Move B W B' W' ∧ EndRep B' W' e o

theorem Sound.mono {P : Program} {N : Nat} {WL : World} {f : FuncId} {xs : List AV} {m : Mem} {Q Q' : Out → Prop} (h : Sound P N WL f xs m Q) (hq : ∀ o, Q o → Q' o) : Sound P N WL f xs m Q' :=
  ⟨h.1, fun B W vs h1 h2 h3 h4 => (h.2 B W vs h1 h2 h3 h4).mono fun e W' ⟨o, B', q, r⟩ => ⟨o, B', hq o q, r⟩⟩

theorem idxOf_get {k : Nat} : ∀ {l : List Nat} {j i : Nat}, idxOf k l j = some i → ∃ n, i = j + n ∧ l[n]? = some k
  | [], _, _, h => by simp [idxOf] at h
  | x :: l, j, i, h => by
    simp only [idxOf] at h
    cases e : Nat.beq x k with
    | true =>
      rw [e] at h
      simp only [cond_true, Option.some.injEq] at h
      exact ⟨0, by omega, by rw [Nat.eq_of_beq_eq_true e]; rfl⟩
    | false =>
      rw [e] at h
      simp only [cond_false] at h
      obtain ⟨n, rfl, hn⟩ := idxOf_get h
      exact ⟨n + 1, by omega, by simpa using hn⟩

theorem idxOf_none {k : Nat} : ∀ {l : List Nat} {j : Nat}, idxOf k l j = none → k ∉ l
  | [], _, _ => by simp
  | x :: l, j, h => by
    simp only [idxOf] at h
    cases e : Nat.beq x k with
    | true => rw [e] at h; simp at h
    | false =>
      rw [e] at h
      simp only [cond_false] at h
      intro hm
      rcases List.mem_cons.1 hm with rfl | hm
      · rw [Nat.beq_refl] at e; cases e
      · exact idxOf_none h hm

theorem nodup_of : ∀ {l : List Nat}, nodupN l = true → l.Nodup
  | [], _ => by simp
  | x :: l, h => by
    simp only [nodupN, Bool.and_eq_true, Bool.not_eq_true', Option.isSome_eq_false_iff, Option.isNone_iff_eq_none] at h
    exact List.nodup_cons.2 ⟨idxOf_none h.1, nodup_of h.2⟩

theorem get_inj {l : List Nat} (h : l.Nodup) {i j k : Nat} (hi : l[i]? = some k) (hj : l[j]? = some k) : i = j := by
  obtain ⟨h1, e1⟩ := List.getElem?_eq_some_iff.1 hi
  obtain ⟨h2, e2⟩ := List.getElem?_eq_some_iff.1 hj
  exact (List.getElem_inj h).1 (e1.trans e2.symm)

theorem mvOf_mem {w : Ow} {i : Nat} : ∀ {l : List (Ow × Nat)}, mvOf w l = some i → (w, i) ∈ l
  | [], h => by simp [mvOf] at h
  | (u, j) :: l, h => by
    simp only [mvOf] at h
    split at h
    · rename_i e; cases h; subst e; exact List.mem_cons_self
    · exact List.mem_cons_of_mem _ (mvOf_mem h)

theorem mvOK_inj {ks : List Nat} : ∀ {mv : List (Ow × Nat)}, mvOK ks mv = true → ∀ {w u : Ow} {i : Nat}, (w, i) ∈ mv → (u, i) ∈ mv → w = u
  | [], _, _, _, _, h, _ => by simp at h
  | (x, j) :: l, hok, w, u, i, hw, hu => by
    simp only [mvOK, Bool.and_eq_true, Bool.not_eq_true', Option.isSome_eq_false_iff, Option.isNone_iff_eq_none] at hok
    obtain ⟨⟨⟨h1, h2⟩, h3⟩, h4⟩ := hok
    have hn : ∀ {q : Ow}, (q, j) ∈ l → False := fun hq => by
      have : (l.map (·.2)).contains j = true := by
        rw [List.contains_iff_mem]
        exact List.mem_map.2 ⟨_, hq, rfl⟩
      rw [h2] at this; cases this
    rcases List.mem_cons.1 hw with e1 | hw' <;> rcases List.mem_cons.1 hu with e2 | hu'
    · cases e1; cases e2; rfl
    · cases e1; exact (hn hu').elim
    · cases e2; exact (hn hw').elim
    · exact mvOK_inj h4 hw' hu'

theorem inOw_inj {ks : List Nat} {mv : List (Ow × Nat)} (hok : mvOK ks mv = true) {w u x : Ow} (h1 : inOw ks mv w = some x) (h2 : inOw ks mv u = some x) : w = u := by
  unfold inOw at h1 h2
  cases e1 : mvOf w mv with
  | some i =>
    rw [e1] at h1
    cases h1
    cases e2 : mvOf u mv with
    | some j =>
      rw [e2] at h2
      cases h2
      exact mvOK_inj hok (mvOf_mem e1) (mvOf_mem e2)
    | none =>
      rw [e2] at h2
      cases u <;> simp at h2
  | none =>
    rw [e1] at h1
    cases w with
    | ce k o =>
      simp only [Option.map_eq_some_iff] at h1
      obtain ⟨j, hj, rfl⟩ := h1
      cases e2 : mvOf u mv with
      | some i => rw [e2] at h2; cases h2
      | none =>
        rw [e2] at h2
        cases u with
        | ce k' o' =>
          simp only [Option.map_eq_some_iff, Ow.ce.injEq] at h2
          obtain ⟨j', hj', h2, rfl⟩ := h2
          obtain ⟨n, rfl, hn⟩ := idxOf_get hj
          obtain ⟨n', rfl, hn'⟩ := idxOf_get hj'
          have : n = n' := by omega
          subst this
          rw [hn] at hn'
          cases hn'
          rfl
        | _ => simp at h2
    | _ => simp at h1

def inLab (ks : List Nat) (mv : List (Ow × Nat)) (B : Lab) : Lab := fun b => match B b with
  | .st => .st
  | .no => .no
  | .row w => match inOw ks mv w with | some w' => .row w' | none => .no
  | .obj k => match idxOf k ks 0 with | some j => .obj (1000 + j) | none => .no

section
variable {B : Lab} {W W' : World} {ks : List Nat} {mv : List (Ow × Nat)} {N : Nat} {WL : World} {m : Mem}

theorem inLab_row {b : Nat} {x : Ow} (h : inLab ks mv B b = .row x) : ∃ w, B b = .row w ∧ inOw ks mv w = some x := by
  unfold inLab at h
  split at h
  · cases h
  · cases h
  · rename_i w hw
    split at h
    · rename_i w' hw'; cases h; exact ⟨w, hw, hw'⟩
    · cases h
  · split at h <;> cases h
theorem inLab_obj {b j : Nat} (h : inLab ks mv B b = .obj j) : ∃ k i, B b = .obj k ∧ idxOf k ks 0 = some i ∧ j = 1000 + i := by
  unfold inLab at h
  split at h
  · cases h
  · cases h
  · split at h <;> cases h
  · rename_i k hk
    split at h
    · rename_i i hi; cases h; exact ⟨k, i, hk, hi, rfl⟩
    · cases h
theorem inLab_st {b : Nat} (h : inLab ks mv B b = .st) : B b = .st := by
  unfold inLab at h
  split at h
  · assumption
  · cases h
  · split at h <;> cases h
  · split at h <;> cases h

theorem inLab_ok (h : LabOK B W) (hok : mvOK ks mv = true) : LabOK (inLab ks mv B) W where
  dom := fun b hb => h.dom b (fun e => hb (by simp [inLab, e]))
  rows := fun b b' x h1 h2 => by
    obtain ⟨w, e1, f1⟩ := inLab_row h1
    obtain ⟨u, e2, f2⟩ := inLab_row h2
    obtain rfl := inOw_inj hok f1 f2
    exact h.rows b b' _ e1 e2
  objs := fun b b' j h1 h2 => by
    obtain ⟨k, i, e1, f1, rfl⟩ := inLab_obj h1
    obtain ⟨k', i', e2, f2, g2⟩ := inLab_obj h2
    obtain ⟨n, rfl, hn⟩ := idxOf_get f1
    obtain ⟨n', rfl, hn'⟩ := idxOf_get f2
    have : n = n' := by omega
    subst this
    rw [hn] at hn'
    cases hn'
    exact h.objs b b' _ e1 e2

theorem inLab_low (h : Low N WL B W) : Low N WL (inLab ks mv B) W :=
  ⟨h.below, h.size, fun b hb => (h.lab b hb).imp (fun e => by simp [inLab, e]) fun e => by simp [inLab, e]⟩

theorem inLab_s : ExtS B W (inLab ks mv B) W := ⟨fun b h => ⟨by simp [inLab, h], rfl⟩⟩

theorem RowBlk.into {w x : Ow} (hw : inOw ks mv w = some x) {e : Ty} {l : List e.den} {cap b : Nat} (h : RowBlk B W w e l cap b) : RowBlk (inLab ks mv B) W x e l cap b := by
  obtain ⟨hb, arr, ty, fz, h1, h2, h3, h4, h5⟩ := h
  exact ⟨by simp [inLab, hb, hw], arr, ty, fz, h1, h2, h3, h4, h5.mono (fun x es _ h => RepC.ext inLab_s h) rfl⟩

theorem Rep0.into {q : A0} {v : Value} (h : Rep0 B W q v) : Rep0 (inLab ks mv B) W (q.into ks mv) v := by
  have keepS : ∀ {q : A0}, (∀ w, ¬ q.has w) → (∀ k, ¬ q.at k) → Rep0 B W q v → Rep0 (inLab ks mv B) W q v := fun h1 h2 h =>
    Rep0.ext (dr := fun _ => True) (dk := fun _ => True) ⟨fun b hb => ⟨by simp [inLab, hb], rfl⟩, fun b w hb hn => (hn trivial).elim, fun b k hb hn => (hn trivial).elim⟩ (fun w hw => (h1 w hw).elim) (fun k hk => (h2 k hk).elim) h
  cases q with
  | al w e l =>
    simp only [A0.into]
    split
    · rename_i x hx
      rcases h with h | ⟨b, cap, rfl, h⟩
      · exact .inl h
      · exact .inr ⟨b, cap, rfl, h.into hx⟩
    · trivial
  | vp w e l i t off g s => trivial
  | ptr k off =>
    simp only [A0.into]
    split
    · rename_i j hj
      obtain ⟨b, hb, rfl⟩ := h
      exact ⟨b, by simp [inLab, hb, hj], rfl⟩
    · trivial
  | undef => trivial
  | val t x => exact keepS (fun _ h => h) (fun _ h => h) h
  | pv t x => exact keepS (fun _ h => h) (fun _ h => h) h
  | full e l => exact keepS (fun _ h => h) (fun _ h => h) h
  | sc v => exact h

theorem subM_ok (hm : MemOK B W m) (hks : ∀ n k, ks[n]? = some k → idxOf k ks 0 = some n) : ∀ {l : List Nat} {j : Nat}, (∀ n k, l[n]? = some k → ks[j + n]? = some k) → (∀ k ∈ l, (mget m k).isSome = true) →
    ((subM m ks mv l j).map (·.1)).Nodup ∧ (∀ p ∈ subM m ks mv l j, 1000 + j ≤ p.1) ∧ ∀ p ∈ subM m ks mv l j, ∃ b arr ty, inLab ks mv B b = .obj p.1 ∧ W.heap[b]? = some (.cells arr ty (0, 0)) ∧ All2 (Rep0 (inLab ks mv B) W) p.2 arr.toList
  | [], j, _, _ => ⟨by simp [subM], by simp [subM], by simp [subM]⟩
  | k :: l, j, hl, hs => by
    obtain ⟨h1, h2, h3⟩ := subM_ok hm hks (l := l) (j := j + 1) (fun n k hk => by
      have := hl (n + 1) k (by simpa using hk)
      rwa [show j + 1 + n = j + (n + 1) by omega]) (fun k hk => hs k (List.mem_cons_of_mem _ hk))
    simp only [subM]
    refine ⟨?_, ?_, ?_⟩
    · rw [List.map_cons]
      refine List.nodup_cons.2 ⟨fun hm => ?_, h1⟩
      obtain ⟨p, hp, e⟩ := List.mem_map.1 hm
      have := h2 p hp
      simp only at e; omega
    · intro p hp
      rcases List.mem_cons.1 hp with rfl | hp
      · exact Nat.le_refl _
      · have := h2 p hp; omega
    · intro p hp
      rcases List.mem_cons.1 hp with rfl | hp
      · obtain ⟨c, hc⟩ := Option.isSome_iff_exists.1 (hs k List.mem_cons_self)
        obtain ⟨b, arr, ty, hb, hw, hcs⟩ := hm.2 _ (mget_some hc)
        have hj := hks j k (by simpa using hl 0 k rfl)
        refine ⟨b, arr, ty, by simp only at hb ⊢; simp [inLab, hb, hj], hw, ?_⟩
        rw [hc]
        exact forall2_map hcs fun a v ha => Rep0.into ha
      · exact h3 p hp

end

end Go.V
