/- V: what a call gives back. Conditions: as each states. -/
import Derived.Test.YtimhjbihhchieaaVN
namespace Go.V
set_option linter.unusedVariables false
set_option linter.unusedSimpArgs false

def stripL (d : Nat) : Lbl → Lbl
  | .row w => match newOw d w with | true => .no | false => .row w
  | .obj k => match Nat.beq k (3000 + d) with | true => .no | false => .obj k
  | x => x

def backL (ks : List Nat) (d : Nat) : Lbl → Lbl
  | .row w => match backOw ks d w with | some w' => .row w' | none => .no
  | .obj k => match backKey ks d k with | some k' => .obj k' | none => .no
  | x => x

def outLab (ks : List Nat) (mv : List (Ow × Nat)) (d n : Nat) (B B' : Lab) : Lab := fun b =>
  match Nat.blt b n, inLab ks mv B b with
  | true, .no => stripL d (B b)
  | _, _ => backL ks d (B' b)

section
variable {B B' : Lab} {W W' : World} {ks : List Nat} {mv : List (Ow × Nat)} {N : Nat} {WL : World} {m m' : Mem} {d : Nat}

theorem idxOf_isSome {k : Nat} : ∀ {l : List Nat} {j : Nat}, k ∈ l → ∃ i, idxOf k l j = some i
  | x :: l, j, h => by
    simp only [idxOf]
    cases e : Nat.beq x k with
    | true => exact ⟨j, rfl⟩
    | false =>
      simp only [cond_false]
      rcases List.mem_cons.1 h with rfl | h
      · rw [Nat.beq_refl] at e; cases e
      · exact idxOf_isSome h

theorem beqF {a b : Nat} (h : a ≠ b) : Nat.beq a b = false := by
  cases e : Nat.beq a b
  · rfl
  · exact absurd (Nat.eq_of_beq_eq_true e) h

theorem backKey_s {k k' : Nat} (h : backKey ks d k = some k') : (k = 2000 ∧ k' = 3000 + d) ∨ (k ≠ 2000 ∧ 1000 ≤ k ∧ ks[k - 1000]? = some k') := by
  unfold backKey at h
  cases e : Nat.beq k 2000 with
  | true => rw [e] at h; simp only [cond_true, Option.some.injEq] at h; exact .inl ⟨Nat.eq_of_beq_eq_true e, h.symm⟩
  | false =>
    rw [e] at h
    simp only [cond_false] at h
    refine .inr ⟨fun e' => ?_, ?_⟩
    · subst e'; cases e
    · cases e1 : Nat.ble 1000 k with
      | true => rw [e1] at h; exact ⟨Nat.le_of_ble_eq_true e1, h⟩
      | false => rw [e1] at h; cases h

theorem backKey_inj (hk : ks.Nodup) (hd : 3000 + d ∉ ks) {k j x : Nat} (h1 : backKey ks d k = some x) (h2 : backKey ks d j = some x) : k = j := by
  rcases backKey_s h1 with ⟨rfl, rfl⟩ | ⟨n1, l1, e1⟩ <;> rcases backKey_s h2 with ⟨rfl, e⟩ | ⟨n2, l2, e2⟩
  · rfl
  · exact absurd (List.mem_of_getElem? e2) hd
  · subst e; exact absurd (List.mem_of_getElem? e1) hd
  · have := get_inj hk e1 e2; omega

theorem backOw_inj (hk : ks.Nodup) (hd : 3000 + d ∉ ks) {u v w : Ow} (h1 : backOw ks d u = some w) (h2 : backOw ks d v = some w) : u = v := by
  cases u with
  | sl _ => simp [backOw] at h1
  | tp _ _ => simp [backOw] at h1
  | rt j =>
    cases v with
    | sl _ => simp [backOw] at h2
    | tp _ _ => simp [backOw] at h2
    | rt i => cases j <;> cases i <;> simp [backOw] at h1 h2 <;> subst h1 <;> simp_all
    | ce k o =>
      simp only [backOw, Option.map_eq_some_iff] at h2
      obtain ⟨_, _, rfl⟩ := h2
      cases j <;> simp [backOw] at h1
  | ce k o =>
    simp only [backOw, Option.map_eq_some_iff] at h1
    obtain ⟨k', hk', rfl⟩ := h1
    cases v with
    | sl _ => simp [backOw] at h2
    | tp _ _ => simp [backOw] at h2
    | rt i => cases i <;> simp [backOw] at h2
    | ce j p =>
      simp only [backOw, Option.map_eq_some_iff, Ow.ce.injEq] at h2
      obtain ⟨j', hj', rfl, rfl⟩ := h2
      rw [backKey_inj hk hd hk' hj']

/-- what comes back was given, or is new -/
theorem backOw_s {u w : Ow} (h : backOw ks d u = some w) : newOw d w = true ∨ (inOw ks mv w).isSome = true := by
  cases u with
  | sl _ => simp [backOw] at h
  | tp _ _ => simp [backOw] at h
  | rt j => cases j <;> simp [backOw] at h <;> subst h <;> exact .inl (Nat.beq_refl d)
  | ce k o =>
    simp only [backOw, Option.map_eq_some_iff] at h
    obtain ⟨k', hk', rfl⟩ := h
    rcases backKey_s hk' with ⟨rfl, rfl⟩ | ⟨n1, l1, e1⟩
    · exact .inl (Nat.beq_refl _)
    · right
      unfold inOw
      split
      · rfl
      · obtain ⟨i, hi⟩ := idxOf_isSome (j := 0) (List.mem_of_getElem? e1)
        simp [hi]

theorem inLab_no_row {b : Nat} {w : Ow} (hb : B b = .row w) : inLab ks mv B b = .no ↔ (inOw ks mv w).isSome = false := by
  unfold inLab
  rw [hb]
  cases e : inOw ks mv w <;> simp [e]
theorem inLab_no_obj {b k : Nat} (hb : B b = .obj k) : inLab ks mv B b = .no ↔ k ∉ ks := by
  unfold inLab
  rw [hb]
  simp only
  split
  · rename_i j hj
    obtain ⟨n, rfl, hn⟩ := idxOf_get hj
    simp [List.mem_of_getElem? hn]
  · rename_i hj; simp [idxOf_none hj]

theorem outLab_strip {n b : Nat} (h1 : b < n) (h2 : inLab ks mv B b = .no) : outLab ks mv d n B B' b = stripL d (B b) := by
  unfold outLab
  have : Nat.blt b n = true := by simpa [Nat.blt_eq] using h1
  rw [this, h2]
theorem outLab_back {n b : Nat} (h : ¬ (b < n ∧ inLab ks mv B b = .no)) : outLab ks mv d n B B' b = backL ks d (B' b) := by
  unfold outLab
  split
  · rename_i e1 e2
    exact (h ⟨by simpa [Nat.blt_eq] using e1, e2⟩).elim
  · rfl

theorem stripL_row {x : Lbl} {w : Ow} (h : stripL d x = .row w) : x = .row w ∧ newOw d w = false := by
  unfold stripL at h
  split at h
  · split at h
    · cases h
    · rename_i e; cases h; exact ⟨rfl, e⟩
  · split at h <;> cases h
  · rename_i n1 n2; exact absurd h (n1 w)
theorem stripL_obj {x : Lbl} {k : Nat} (h : stripL d x = .obj k) : x = .obj k ∧ k ≠ 3000 + d := by
  unfold stripL at h
  split at h
  · split at h <;> cases h
  · split at h
    · cases h
    · rename_i e; cases h; exact ⟨rfl, fun e' => by subst e'; rw [Nat.beq_refl] at e; cases e⟩
  · rename_i n1 n2; exact absurd h (n2 k)
theorem backL_row {x : Lbl} {w : Ow} (h : backL ks d x = .row w) : ∃ u, x = .row u ∧ backOw ks d u = some w := by
  unfold backL at h
  split at h
  · split at h
    · rename_i e; cases h; exact ⟨_, rfl, e⟩
    · cases h
  · split at h <;> cases h
  · rename_i n1 n2; exact absurd h (n1 w)
theorem backL_obj {x : Lbl} {k : Nat} (h : backL ks d x = .obj k) : ∃ j, x = .obj j ∧ backKey ks d j = some k := by
  unfold backL at h
  split at h
  · split at h <;> cases h
  · split at h
    · rename_i e; cases h; exact ⟨_, rfl, e⟩
    · cases h
  · rename_i n1 n2; exact absurd h (n2 k)

theorem outLab_row {n b : Nat} {w : Ow} (h : outLab ks mv d n B B' b = .row w) :
    (B b = .row w ∧ newOw d w = false ∧ (inOw ks mv w).isSome = false) ∨ ∃ u, B' b = .row u ∧ backOw ks d u = some w := by
  by_cases hc : b < n ∧ inLab ks mv B b = .no
  · rw [outLab_strip hc.1 hc.2] at h
    obtain ⟨e1, e2⟩ := stripL_row h
    exact .inl ⟨e1, e2, (inLab_no_row e1).1 hc.2⟩
  · rw [outLab_back hc] at h
    exact .inr (backL_row h)
theorem outLab_obj {n b k : Nat} (h : outLab ks mv d n B B' b = .obj k) :
    (B b = .obj k ∧ k ≠ 3000 + d ∧ k ∉ ks) ∨ ∃ j, B' b = .obj j ∧ backKey ks d j = some k := by
  by_cases hc : b < n ∧ inLab ks mv B b = .no
  · rw [outLab_strip hc.1 hc.2] at h
    obtain ⟨e1, e2⟩ := stripL_obj h
    exact .inl ⟨e1, e2, (inLab_no_obj e1).1 hc.2⟩
  · rw [outLab_back hc] at h
    exact .inr (backL_obj h)

theorem outLab_ok (h : LabOK B W) (h' : LabOK B' W') (hsz : W.heap.size ≤ W'.heap.size) (hk : ks.Nodup) (hd : 3000 + d ∉ ks) : LabOK (outLab ks mv d W.heap.size B B') W' where
  dom := fun b hb => by
    by_cases hc : b < W.heap.size ∧ inLab ks mv B b = .no
    · exact Nat.lt_of_lt_of_le hc.1 hsz
    · rw [outLab_back hc] at hb
      exact h'.dom b fun e => hb (by rw [e]; rfl)
  rows := fun b b' w h1 h2 => by
    rcases outLab_row h1 with ⟨e1, n1, i1⟩ | ⟨u1, e1, k1⟩ <;> rcases outLab_row h2 with ⟨e2, n2, i2⟩ | ⟨u2, e2, k2⟩
    · exact h.rows b b' w e1 e2
    · rcases backOw_s (mv := mv) k2 with q | q
      · rw [n1] at q; cases q
      · rw [i1] at q; cases q
    · rcases backOw_s (mv := mv) k1 with q | q
      · rw [n2] at q; cases q
      · rw [i2] at q; cases q
    · obtain rfl := backOw_inj hk hd k1 k2
      exact h'.rows b b' _ e1 e2
  objs := fun b b' k h1 h2 => by
    rcases outLab_obj h1 with ⟨e1, n1, i1⟩ | ⟨u1, e1, k1⟩ <;> rcases outLab_obj h2 with ⟨e2, n2, i2⟩ | ⟨u2, e2, k2⟩
    · exact h.objs b b' k e1 e2
    · rcases backKey_s k2 with ⟨_, q⟩ | ⟨_, _, q⟩
      · exact absurd q n1
      · exact absurd (List.mem_of_getElem? q) i1
    · rcases backKey_s k1 with ⟨_, q⟩ | ⟨_, _, q⟩
      · exact absurd q n2
      · exact absurd (List.mem_of_getElem? q) i2
    · obtain rfl := backKey_inj hk hd k1 k2
      exact h'.objs b b' _ e1 e2

/-- what a call leaves -/
structure Back (B : Lab) (W : World) (B' : Lab) (W' : World) (ks : List Nat) (mv : List (Ow × Nat)) (d : Nat) : Prop where
  lab : LabOK B W
  lab' : LabOK B' W'
  move : Move (inLab ks mv B) W B' W'
  nodup : ks.Nodup
  fresh : 3000 + d ∉ ks
  few : ks.length ≤ 1000

theorem Back.give (h : Back B W B' W' ks mv d) {b : Nat} (hb : B' b ≠ .no) : ¬ (b < W.heap.size ∧ inLab ks mv B b = .no) := fun ⟨h1, h2⟩ => hb (h.move.no b h1 h2).1

theorem Back.st' (h : Back B W B' W' ks mv d) {b : Nat} (hb : B' b = .st) : outLab ks mv d W.heap.size B B' b = .st := by
  rw [outLab_back (h.give (by rw [hb]; simp)), hb]; rfl
theorem Back.st (h : Back B W B' W' ks mv d) {b : Nat} (hb : B b = .st) : outLab ks mv d W.heap.size B B' b = .st ∧ W'.heap[b]? = W.heap[b]? := by
  obtain ⟨e1, e2⟩ := h.move.st b (by simp [inLab, hb])
  exact ⟨h.st' e1, e2⟩

theorem Back.obj (h : Back B W B' W' ks mv d) {b k : Nat} (hb : B b = .obj k) (hk : k ≠ 3000 + d) : outLab ks mv d W.heap.size B B' b = .obj k := by
  have hlt := h.lab.dom b (by rw [hb]; simp)
  by_cases hin : k ∈ ks
  · obtain ⟨i, hi⟩ := idxOf_isSome (j := 0) hin
    obtain ⟨n, e, hn⟩ := idxOf_get hi
    rw [Nat.zero_add] at e
    subst e
    have hlt : i < ks.length := (List.getElem?_eq_some_iff.1 hn).1
    have := h.few
    have e' := h.move.obj b (1000 + i) (by omega) (by omega) (by simp [inLab, hb, hi])
    rw [outLab_back (h.give (by rw [e']; simp)), e']
    unfold backL
    simp only
    have : backKey ks d (1000 + i) = some k := by
      unfold backKey
      rw [beqF (by omega)]
      have : Nat.ble 1000 (1000 + i) = true := Nat.ble_eq_true_of_le (by omega)
      rw [this]
      simpa using hn
    rw [this]
  · rw [outLab_strip hlt ((inLab_no_obj hb).2 hin), hb]
    unfold stripL
    simp only
    rw [beqF hk]

theorem Back.row (h : Back B W B' W' ks mv d) {b : Nat} {w : Ow} (hb : B b = .row w) (hn : newOw d w = false) (hi : (inOw ks mv w).isSome = false) : outLab ks mv d W.heap.size B B' b = .row w ∧ W'.heap[b]? = W.heap[b]? := by
  have hlt := h.lab.dom b (by rw [hb]; simp)
  have hno := (inLab_no_row (ks := ks) (mv := mv) hb).2 hi
  refine ⟨?_, (h.move.no b hlt hno).2⟩
  rw [outLab_strip hlt hno, hb]
  unfold stripL
  simp only
  rw [hn]

theorem Back.out (h : Back B W B' W' ks mv d) : Move B W (outLab ks mv d W.heap.size B B') W' where
  size := h.move.size
  os := h.move.os
  tape := h.move.tape
  output := h.move.output
  st := fun b hb => h.st hb
  no := fun b hlt hb => by
    have hno : inLab ks mv B b = .no := by simp [inLab, hb]
    refine ⟨?_, (h.move.no b hlt hno).2⟩
    rw [outLab_strip hlt hno, hb]
    rfl
  obj := fun b k h1 h2 hb => h.obj hb (by omega)

theorem Back.ext (h : Back B W B' W' ks mv d) : Ext B W (outLab ks mv d W.heap.size B B') W' (fun w => newOw d w = true ∨ (inOw ks mv w).isSome = true) (· = 3000 + d) where
  st := fun b hb => h.st hb
  row := fun b w hb hn => by
    refine h.row hb ?_ ?_
    · cases e : newOw d w
      · rfl
      · exact (hn (.inl e)).elim
    · cases e : (inOw ks mv w).isSome
      · rfl
      · exact (hn (.inr e)).elim
  obj := fun b k hb hk => h.obj hb hk

theorem Back.ok (h : Back B W B' W' ks mv d) : LabOK (outLab ks mv d W.heap.size B B') W' := outLab_ok h.lab h.lab' h.move.size h.nodup h.fresh

theorem A0.outn_or (q : A0) : (q.outn ks mv d = .undef) ∨ (q.outn ks mv d = q ∧ (∀ w, q.has w → ¬ (newOw d w = true ∨ (inOw ks mv w).isSome = true)) ∧ ∀ k, q.at k → ¬ k = 3000 + d) := by
  have aux : ∀ w : Ow, ((inOw ks mv w).isSome || newOw d w) = true ∨ (((inOw ks mv w).isSome || newOw d w) = false ∧ ¬ (newOw d w = true ∨ (inOw ks mv w).isSome = true)) := fun w => by
    cases h1 : (inOw ks mv w).isSome <;> cases h2 : newOw d w <;> simp
  cases q with
  | al w e l =>
    rcases aux w with h | ⟨h, h'⟩
    · exact .inl (by simp only [A0.outn, h, cond_true])
    · exact .inr ⟨by simp only [A0.outn, h, cond_false], fun u hu => by cases hu; exact h', fun _ h => h.elim⟩
  | vp w e l i t off g s =>
    rcases aux w with h | ⟨h, h'⟩
    · exact .inl (by simp only [A0.outn, h, cond_true])
    · exact .inr ⟨by simp only [A0.outn, h, cond_false], fun u hu => by cases hu; exact h', fun _ h => h.elim⟩
  | ptr k off =>
    by_cases hk : k = 3000 + d
    · subst hk; exact .inl (by simp only [A0.outn, Nat.beq_refl, cond_true])
    · refine .inr ⟨?_, fun _ h => h.elim, fun j hj => by cases hj; exact hk⟩
      have := beqF hk
      simp only [A0.outn, this, cond_false]
  | _ => exact .inr ⟨rfl, fun _ h => h.elim, fun _ h => h.elim⟩

theorem Rep0.outn (h : Back B W B' W' ks mv d) {q : A0} {v : Value} (hq : Rep0 B W q v) : Rep0 (outLab ks mv d W.heap.size B B') W' (q.outn ks mv d) v := by
  rcases A0.outn_or (ks := ks) (mv := mv) (d := d) q with e | ⟨e, h1, h2⟩
  · rw [e]; trivial
  · rw [e]; exact Rep0.ext h.ext h1 h2 hq

theorem Back.exts (h : Back B W B' W' ks mv d) : ExtS B' W' (outLab ks mv d W.heap.size B B') W' := ⟨fun b hb => ⟨h.st' hb, rfl⟩⟩

theorem Back.obj' (h : Back B W B' W' ks mv d) {b k k' : Nat} (hb : B' b = .obj k) (hk : backKey ks d k = some k') : outLab ks mv d W.heap.size B B' b = .obj k' := by
  rw [outLab_back (h.give (by rw [hb]; simp)), hb]; simp [backL, hk]
theorem Back.row' (h : Back B W B' W' ks mv d) {b : Nat} {u w : Ow} (hb : B' b = .row u) (hk : backOw ks d u = some w) : outLab ks mv d W.heap.size B B' b = .row w := by
  rw [outLab_back (h.give (by rw [hb]; simp)), hb]; simp [backL, hk]

theorem Rep0.back (h : Back B W B' W' ks mv d) {q : A0} {v : Value} (hq : Rep0 B' W' q v) : Rep0 (outLab ks mv d W.heap.size B B') W' (q.back ks d) v := by
  have keepS : ∀ {q : A0}, (∀ w, ¬ q.has w) → (∀ k, ¬ q.at k) → Rep0 B' W' q v → Rep0 (outLab ks mv d W.heap.size B B') W' q v := fun h1 h2 hq =>
    Rep0.ext (dr := fun _ => True) (dk := fun _ => True) ⟨fun b hb => ⟨h.st' hb, rfl⟩, fun b w hb hn => (hn trivial).elim, fun b k hb hn => (hn trivial).elim⟩ (fun w hw => (h1 w hw).elim) (fun k hk => (h2 k hk).elim) hq
  cases q with
  | al w e l =>
    simp only [A0.back]
    split
    · rename_i x hx
      rcases hq with hq | ⟨b, cap, rfl, hb, arr, ty, fz, h1, h2, h3, h4, h5⟩
      · exact .inl hq
      · exact .inr ⟨b, cap, rfl, h.row' hb hx, arr, ty, fz, h1, h2, h3, h4, h5.mono (fun x es _ g => RepC.ext h.exts g) rfl⟩
    · trivial
  | vp w e l i t off g s => trivial
  | ptr k off =>
    simp only [A0.back]
    split
    · rename_i j hj
      obtain ⟨b, hb, rfl⟩ := hq
      exact ⟨b, h.obj' hb hj, rfl⟩
    · trivial
  | undef => trivial
  | val t x => exact keepS (fun _ h => h) (fun _ h => h) hq
  | pv t x => exact keepS (fun _ h => h) (fun _ h => h) hq
  | full e l => exact keepS (fun _ h => h) (fun _ h => h) hq
  | sc v => exact hq

theorem backM_key {p : Nat × List A0} : ∀ {m : Mem}, p ∈ backM ks d m → ∃ q ∈ m, backKey ks d q.1 = some p.1 ∧ p.2 = q.2.map (A0.back ks d)
  | [], h => by simp [backM] at h
  | (k, c) :: l, h => by
    simp only [backM] at h
    split at h
    · rename_i k' hk
      rcases List.mem_cons.1 h with rfl | h
      · exact ⟨_, List.mem_cons_self, hk, rfl⟩
      · obtain ⟨q, hq, r⟩ := backM_key h
        exact ⟨q, List.mem_cons_of_mem _ hq, r⟩
    · obtain ⟨q, hq, r⟩ := backM_key h
      exact ⟨q, List.mem_cons_of_mem _ hq, r⟩

theorem backM_nodup (hk : ks.Nodup) (hd : 3000 + d ∉ ks) : ∀ {m : Mem}, (m.map (·.1)).Nodup → ((backM ks d m).map (·.1)).Nodup
  | [], _ => by simp [backM]
  | (k, c) :: l, h => by
    rw [List.map_cons, List.nodup_cons] at h
    simp only [backM]
    split
    · rename_i k' hk'
      rw [List.map_cons, List.nodup_cons]
      refine ⟨fun hm => ?_, backM_nodup hk hd h.2⟩
      obtain ⟨p, hp, e⟩ := List.mem_map.1 hm
      obtain ⟨q, hq, h1, _⟩ := backM_key hp
      rw [e] at h1
      have := backKey_inj hk hd hk' h1
      exact h.1 (List.mem_map.2 ⟨q, hq, this.symm⟩)
    · exact backM_nodup hk hd h.2

theorem leftM_mem {p : Nat × List A0} (h : p ∈ leftM m ks d) : p ∈ m ∧ p.1 ∉ ks ∧ p.1 ≠ 3000 + d := by
  unfold leftM at h
  obtain ⟨h1, h2⟩ := List.mem_filter.1 h
  rw [Bool.and_eq_true, Bool.not_eq_true', Bool.not_eq_true'] at h2
  refine ⟨h1, fun hm => ?_, fun e => ?_⟩
  · obtain ⟨i, hi⟩ := idxOf_isSome (j := 0) hm
    rw [hi] at h2; cases h2.1
  · rw [e, Nat.beq_refl] at h2; cases h2.2

theorem Back.mem (h : Back B W B' W' ks mv d) (hm : MemOK B W m) (hm' : MemOK B' W' m') : MemOK (outLab ks mv d W.heap.size B B') W' (mmap (A0.outn ks mv d) (leftM m ks d) ++ backM ks d m') := by
  refine ⟨?_, ?_⟩
  · rw [List.map_append, mmap_keys]
    refine List.nodup_append.2 ⟨hm.1.sublist (List.Sublist.map _ List.filter_sublist), backM_nodup h.nodup h.fresh hm'.1, ?_⟩
    rintro x hx y hy rfl
    obtain ⟨p, hp, rfl⟩ := List.mem_map.1 hx
    obtain ⟨q, hq, e⟩ := List.mem_map.1 hy
    obtain ⟨_, n1, n2⟩ := leftM_mem hp
    obtain ⟨q', hq', e', _⟩ := backM_key hq
    rw [e] at e'
    rcases backKey_s e' with ⟨_, g⟩ | ⟨_, _, g⟩
    · exact n2 g
    · exact n1 (List.mem_of_getElem? g)
  · intro p hp
    rcases List.mem_append.1 hp with hp | hp
    · obtain ⟨q, hq, rfl⟩ := List.mem_map.1 hp
      obtain ⟨h1, h2, h3⟩ := leftM_mem hq
      obtain ⟨b, arr, ty, hb, hw, hc⟩ := hm.2 q h1
      have hlt := h.lab.dom b (by rw [hb]; simp)
      have hno := (inLab_no_obj (ks := ks) (mv := mv) hb).2 h2
      exact ⟨b, arr, ty, h.obj hb h3, (h.move.no b hlt hno).2.trans hw, forall2_map hc fun _ _ ha => Rep0.outn h ha⟩
    · obtain ⟨q, hq, h1, h2⟩ := backM_key hp
      obtain ⟨b, arr, ty, hb, hw, hc⟩ := hm'.2 q hq
      refine ⟨b, arr, ty, h.obj' hb h1, hw, ?_⟩
      rw [h2]
      exact forall2_map hc fun _ _ ha => Rep0.back h ha

end

end Go.V
