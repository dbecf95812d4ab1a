/- V: every operation that leaves memory alone. Conditions: as each states. -/
import Derived.Test.YtimhjbihhchieaaVD
namespace Go.V
set_option linter.unusedVariables false
set_option linter.unusedSimpArgs false

section
variable {B0 : Lab} {W0 : World} {N : Nat} {WL : World} {B : Lab} {W : World} {r : Regs} {m : Mem} {P : Program} {a : Act}

theorem optI_s (hr : All2 (RepA B W) r a.tmps.toList) {x : Option Operand} {d : Int} {K : Int → Prop} (h : optI r x d K) :
    ∃ n, K n ∧ ((x = none ∧ n = d) ∨ ∃ y k, x = some y ∧ a.eval y = .int k n) := by
  cases x with
  | none => exact ⟨d, h, .inl ⟨rfl, rfl⟩⟩
  | some y =>
    obtain ⟨k, n, hu, hk⟩ := isNat_s h (vval_rep hr y)
    exact ⟨n, hk, .inr ⟨y, k, rfl, hu⟩⟩

theorem bounds_lh {isS : Bool} {len cap : Nat} {lo hi : Option Operand} {n q : Int} (hlo : (lo = none ∧ n = 0) ∨ ∃ y k, lo = some y ∧ a.eval y = .int k n)
    (hhi : (hi = none ∧ q = len) ∨ ∃ y k, hi = some y ∧ a.eval y = .int k q) (h0 : 0 ≤ n) (h1 : n ≤ q) (h2 : q ≤ cap) :
    (Instr.sliceBounds isS len cap (lo.map a.eval) (hi.map a.eval) none).run P W = .ok (n.toNat, q.toNat, cap) W := by
  have e2 : (q.toNat : Int) = q := Int.toNat_of_nonneg (by omega)
  unfold Instr.sliceBounds
  rcases hlo with ⟨rfl, rfl⟩ | ⟨x, k, rfl, hx⟩ <;> rcases hhi with ⟨rfl, rfl⟩ | ⟨y, k', rfl, hy⟩
  · simp
  · simp only [Option.map_some, Option.map_none, Sem.run_bind, hy, Sem.run_pure, Result.andThen_ok]
    rw [run_sliceBound _ _ _ _ _ (by omega) h2]; simp
  · simp only [Option.map_some, Option.map_none, Sem.run_bind, hx, Sem.run_pure, Result.andThen_ok]
    rw [run_sliceBound _ _ _ _ _ (by omega) (by omega)]; simp
  · simp only [Option.map_some, Option.map_none, Sem.run_bind, hx, hy, Sem.run_pure, Result.andThen_ok]
    rw [run_sliceBound _ _ _ _ _ (by omega) h2]
    simp only [Result.andThen_ok, Sem.run_bind]
    rw [run_sliceBound _ _ _ _ _ (by omega) (by rw [e2]; omega)]; simp

theorem bounds_lhm {len cap : Nat} {lo : Option Operand} {hi mx : Operand} {n q z : Int} {k' k'' : IntKind} (hlo : (lo = none ∧ n = 0) ∨ ∃ y k, lo = some y ∧ a.eval y = .int k n)
    (hhi : a.eval hi = .int k' q) (hmx : a.eval mx = .int k'' z) (h0 : 0 ≤ n) (h1 : n ≤ q) (h2 : q ≤ z) (h3 : z ≤ cap) :
    (Instr.sliceBounds true len cap (lo.map a.eval) ((some hi).map a.eval) ((some mx).map a.eval)).run P W = .ok (n.toNat, q.toNat, z.toNat) W := by
  have e2 : (q.toNat : Int) = q := Int.toNat_of_nonneg (by omega)
  have e3 : (z.toNat : Int) = z := Int.toNat_of_nonneg (by omega)
  unfold Instr.sliceBounds
  simp only [Option.map_some, Sem.run_bind, hhi, hmx]
  rw [run_sliceBound _ _ _ _ _ (by omega) h3]
  simp only [Result.andThen_ok, Sem.run_bind]
  rw [run_sliceBound _ _ _ _ _ (by omega) (by rw [e3]; omega)]
  rcases hlo with ⟨rfl, rfl⟩ | ⟨x, k, rfl, hx⟩
  · simp
  · simp only [Option.map_some, Result.andThen_ok, Sem.run_bind, hx]
    rw [run_sliceBound _ _ _ _ _ (by omega) (by rw [e2]; omega)]; simp

theorem row_slice {e : Ty} {l : List e.den} {ok : Addr → Prop} {ad? : Option Addr} {n q cap z : Nat} (hc : l.length ≤ cap) (h1 : n ≤ q) (h2 : q ≤ l.length) (hz : q ≤ z)
    (hok : ∀ ad k, ok ad → ok (ad.add k)) (hr : l = [] ∨ ∃ ad, ad? = some ad ∧ ok ad ∧ Elems (fun x es => RepC B W e x es) e.sz W l ad) :
    ((l.take q).drop n).length = q - n ∧ ((l.take q).drop n = [] ∨ ∃ ad, (if z = n then ad? else ad?.map (·.add (n * e.sz))) = some ad ∧ ok ad ∧ Elems (fun x es => RepC B W e x es) e.sz W ((l.take q).drop n) ad) := by
  have hlen : ((l.take q).drop n).length = q - n := by simp; omega
  refine ⟨hlen, ?_⟩
  by_cases hnq : n = q
  · exact .inl (List.eq_nil_of_length_eq_zero (by omega))
  · rcases hr with rfl | ⟨ad, rfl, ho, he⟩
    · exact .inl (by simp)
    · refine .inr ⟨ad.add (n * e.sz), ?_, hok _ _ ho, (he.take q).drop n⟩
      rw [if_neg (by omega)]; rfl

theorem st_add {ad : Addr} {k : Nat} (h : B ad.block = .st ∧ ad.spot = none) : B (ad.add k).block = .st ∧ (ad.add k).spot = none := by
  refine ⟨by rw [add_block]; exact h.1, ?_⟩
  unfold Addr.add
  split
  · exact h.2
  · rfl

theorem sliceV_s {e : Ty} {l : List e.den} {n q : Int} {K : AV → Prop} {u : Value} {t el : TypeId} {lo hi : Option Operand} (ht : P.underlying t = some (.slice el)) (hz : szIs P el e.sz = true)
    (hlo : (lo = none ∧ n = 0) ∨ ∃ y k, lo = some y ∧ a.eval y = .int k n)
    (hhi : (hi = none ∧ q = l.length) ∨ ∃ y k, hi = some y ∧ a.eval y = .int k q) (h : sliceV e l n q fun a => K (.lf a)) (hu : RepA B W (.lf (.val (.slice e) l)) u) :
    Does P B W K (Instr.sliceAt t u (lo.map a.eval) (hi.map a.eval) none) := by
  obtain ⟨⟨h0, h1, h2⟩, hk⟩ := h
  obtain ⟨i, hi', hs⟩ := szIs_eq hz
  obtain ⟨ad?, cap, hu, hc, hr⟩ := (hu : RepC B W (.slice e) l [u])
  simp only [List.cons.injEq, and_true] at hu
  subst hu
  have hel : P.elem t = el := by unfold Program.elem; rw [ht]
  have hb := bounds_lh (P := P) (W := W) (isS := true) hlo hhi h0 h1 (show q ≤ (cap : Int) by omega)
  obtain ⟨hl, hrow⟩ := row_slice (B := B) (W := W) (ok := fun ad => B ad.block = .st ∧ ad.spot = none) (ad? := ad?) (n := n.toNat) (q := q.toNat) (cap := cap) (z := cap) hc (by omega) (by omega) (by omega)
    (fun ad k h => st_add h) (hr.imp id fun ⟨ad, h1, h2, h3, h4⟩ => ⟨ad, h1, ⟨h2, h3⟩, h4⟩)
  refine ⟨_, sliced ad? n.toNat q.toNat cap e.sz, hk, ?_, ?_⟩
  · refine ⟨_, cap - n.toNat, ?_, ?_, hrow.imp id fun ⟨ad, h1, h2, h3⟩ => ⟨ad, h1, h2.1, h2.2, h3⟩⟩
    · unfold sliced; rw [hl]
    · have := hl; show ((l.take q.toNat).drop n.toNat).length ≤ _; omega
  · rw [run_sliceAt_slice _ _ _ _ _ _ (by rw [hel]; exact ht), run_slice_any _ _ _ _ _ (by rw [hel]; exact ht), hb]
    simp only [Result.andThen_ok, hel, run_size hi', hs]

theorem sliceF_s {e : Ty} {l : List e.den} {n q z : Int} {K : AV → Prop} {u : Value} {t el : TypeId} {lo : Option Operand} {hi mx : Operand} {k' k'' : IntKind} (ht : P.underlying t = some (.slice el)) (hz : szIs P el e.sz = true)
    (hlo : (lo = none ∧ n = 0) ∨ ∃ y k, lo = some y ∧ a.eval y = .int k n)
    (hhi : a.eval hi = .int k' q) (hmx : a.eval mx = .int k'' z) (h : sliceF e l n q z fun a => K (.lf a)) (hu : RepA B W (.lf (.val (.slice e) l)) u) :
    Does P B W K (Instr.sliceAt t u (lo.map a.eval) ((some hi).map a.eval) ((some mx).map a.eval)) := by
  obtain ⟨⟨h0, h1, rfl, h2⟩, hk⟩ := h
  obtain ⟨i, hi', hs⟩ := szIs_eq hz
  obtain ⟨ad?, cap, hu, hc, hr⟩ := (hu : RepC B W (.slice e) l [u])
  simp only [List.cons.injEq, and_true] at hu
  subst hu
  have hel : P.elem t = el := by unfold Program.elem; rw [ht]
  have hb := bounds_lhm (P := P) (W := W) (len := l.length) hlo hhi hmx h0 h1 (by omega) (show q ≤ (cap : Int) by omega)
  obtain ⟨hl, hrow⟩ := row_slice (B := B) (W := W) (ok := fun ad => B ad.block = .st ∧ ad.spot = none) (ad? := ad?) (n := n.toNat) (q := q.toNat) (cap := cap) (z := q.toNat) hc (by omega) (by omega) (by omega)
    (fun ad k h => st_add h) (hr.imp id fun ⟨ad, h1, h2, h3, h4⟩ => ⟨ad, h1, ⟨h2, h3⟩, h4⟩)
  refine ⟨_, sliced ad? n.toNat q.toNat q.toNat e.sz, hk, ?_, ?_⟩
  · refine ⟨_, ?_, hrow.imp id fun ⟨ad, h1, h2, h3⟩ => ⟨ad, h1, h2.1, h2.2, h3⟩⟩
    unfold sliced; rw [hl]
  · rw [run_sliceAt_slice _ _ _ _ _ _ (by rw [hel]; exact ht), run_slice_any _ _ _ _ _ (by rw [hel]; exact ht), hb]
    simp only [Result.andThen_ok, hel, run_size hi', hs]

theorem sliceA_s {w : Ow} {e : Ty} {l : List e.den} {q : Int} {K : AV → Prop} {u : Value} {t el : TypeId} {hi : Option Operand} (ht : P.underlying t = some (.slice el)) (hz : szIs P el e.sz = true)
    (hhi : (hi = none ∧ q = l.length) ∨ ∃ y k, hi = some y ∧ a.eval y = .int k q) (h : sliceA w e l q fun a => K (.lf a)) (hu : RepA B W (.lf (.al w e l)) u) :
    Does P B W K (Instr.sliceAt t u none (hi.map a.eval) none) := by
  obtain ⟨⟨h1, h2⟩, hk⟩ := h
  obtain ⟨i, hi', hs⟩ := szIs_eq hz
  have hel : P.elem t = el := by unfold Program.elem; rw [ht]
  have hlen : (l.take q.toNat).length = q.toNat := by simp; omega
  have go : ∀ (ad? : Option Addr) (cap : Nat), q ≤ cap → (Instr.sliceAt t (.slice ad? l.length cap) none (hi.map a.eval) none).run P W = .ok (sliced ad? 0 q.toNat cap e.sz) W := by
    intro ad? cap hc
    have hb := bounds_lh (P := P) (W := W) (isS := true) (len := l.length) (cap := cap) (lo := none) (.inl ⟨rfl, rfl⟩) hhi (Int.le_refl 0) h1 hc
    rw [run_sliceAt_slice _ _ _ _ _ _ (by rw [hel]; exact ht), run_slice_any _ _ _ _ _ (by rw [hel]; exact ht)]
    simp only [Option.map_none] at hb
    rw [hb]
    simp only [Result.andThen_ok, hel, run_size hi', hs]; rfl
  rcases (hu : OwnRow B W w e l u) with ⟨rfl, rfl⟩ | ⟨b, cap, rfl, hb, arr, ty, fz, g1, g2, g3, g4, g5⟩
  · have hq : q = 0 := by simp at h2; omega
    subst hq
    exact ⟨_, _, hk, .inl ⟨rfl, rfl⟩, go none 0 (by simp)⟩
  · refine ⟨_, _, hk, .inr ⟨b, cap, ?_, hb, arr, ty, fz, g1, g2, by omega, g4, g5.take _⟩, go _ cap (by omega)⟩
    unfold sliced
    rw [hlen]
    simp only [Nat.zero_mul, Nat.sub_zero]
    split
    · rfl
    · simp [Addr.add]

theorem sliceS_s {s : ByteArray} {n q : Int} {K : AV → Prop} {t : TypeId} {lo hi : Option Operand} (ht : P.underlying t = some .string)
    (hlo : (lo = none ∧ n = 0) ∨ ∃ y k, lo = some y ∧ a.eval y = .int k n)
    (hhi : (hi = none ∧ q = s.size) ∨ ∃ y k, hi = some y ∧ a.eval y = .int k q) (h : sliceS s n q fun a => K (.lf a)) :
    Does P B W K (Instr.sliceAt t (.string s) (lo.map a.eval) (hi.map a.eval) none) := by
  obtain ⟨⟨h0, h1, h2⟩, hk⟩ := h
  refine ⟨_, _, hk, mkStr, ?_⟩
  rw [run_sliceAt_string _ _ _ _ _ _ ht]
  have hb := bounds_lh (P := P) (W := W) (isS := false) (len := s.size) (cap := s.size) hlo hhi h0 h1 h2
  unfold Instr.slice
  simp only [Sem.run_bind, run_underlying ht, Result.andThen_ok, Option.isSome_none, Bool.false_eq_true, if_false, Sem.run_pure, hb]

theorem vslice_s (hr : All2 (RepA B W) r a.tmps.toList) {t : TypeId} {x lo hi mx} {K : AV → Prop} (h : vslice P r t (vval r x) lo hi mx fun a => K (.lf a)) :
    Does P B W K (Instr.sliceAt t (a.eval x) (lo.map a.eval) (hi.map a.eval) (mx.map a.eval)) := by
  have hx := vval_rep hr x
  generalize vval r x = v at h hx
  unfold vslice at h
  split at h
  · obtain e := rep_str hx
    rw [e]
    split at h
    · rename_i ht
      obtain ⟨n, h, hlo⟩ := optI_s hr h
      obtain ⟨q, h, hhi⟩ := optI_s hr h
      exact sliceS_s ht hlo hhi h
    · exact h.elim
  · split at h
    · rename_i el ht
      obtain ⟨hz, h⟩ := chk h
      obtain ⟨n, h, hlo⟩ := optI_s hr h
      cases mx with
      | none =>
        obtain ⟨q, h, hhi⟩ := optI_s hr h
        exact sliceV_s ht hz hlo hhi h hx
      | some z =>
        cases hi with
        | none => exact h.elim
        | some y =>
          obtain ⟨k', q, hq, h⟩ := isNat_s h (vval_rep hr y)
          obtain ⟨k'', z', hz', h⟩ := isNat_s h (vval_rep hr z)
          exact sliceF_s ht hz hlo hq hz' h hx
    · exact h.elim
  · split at h
    · rename_i el ht
      obtain ⟨hz, h⟩ := chk h
      obtain ⟨q, h, hhi⟩ := optI_s hr h
      exact sliceA_s ht hz hhi h hx
    · exact h.elim
  · exact h.elim

end

end Go.V
