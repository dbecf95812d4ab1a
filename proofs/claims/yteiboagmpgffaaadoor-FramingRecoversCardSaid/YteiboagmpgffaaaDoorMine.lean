/- Lemmas of this session beside the print's words: where a row lies behind append(b, s...); small rules. Conditions: as each states. -/
import Derived.Test.YteiboagmpgffaaaDoorWMore
import Derived.Test.YteiboagmpgffaaaDoorWWords
import Derived.Lib.AppendStr
set_option linter.unusedVariables false
namespace Go.Proofs.YteiboagmpgffaaaDoorW.Mine
open Go.RowKit Go.Proofs.YteiboagmpgffaaaDoorW.PrintWords Go.Proofs.YteiboagmpgffaaaDoorW.PrintLast Go.Proofs.YteiboagmpgffaaaDoorW.PrintMore

theorem neNil_ (l : List UInt8) : (l != []) = !l.isEmpty := by cases l <;> rfl
theorem sizeMk_ (xs : Array UInt8) : (⟨xs⟩ : ByteArray).size = xs.size := rfl
theorem eqNil_ (l : List UInt8) : (l == []) = l.isEmpty := by cases l <;> rfl

section
variable {P : Program} {ops : Array Oper} {rest : List Oper} {o : Oper} {a : Act} {Q : Exit → Act → World → Prop}
/-- append(v, s...), s a string: as Kd.R_append tells it. -/
theorem strAppendAt {w0 W : World} (base : Nat) (hgd : o.guard = none) (s x : Operand) (t u e : TypeId)
    (ho : o.op = .call { callee := .builtin .append, args := #[s, x], argTypes := #[t, u] })
    (ht : P.underlying t = some (.slice e)) (hu : P.underlying u = some .string) (hinfo : (P.info? e).map (fun i => (i.zero, i.size, i.bytes)) = some (some (.int .u8 0), 1, 1))
    (v : Value) (xs : List Int) (y : ByteArray) (ok : Nat → Prop) (hs : a.eval s = v) (hx : a.eval x = .string y) (hfresh : ∀ k, W.heap.size ≤ k → ok k)
    (HO : Kd.R (Kd.int .u8) e W base ok v xs) (HB : Below base w0 W) (hbase : base ≤ W.heap.size) (hl : xs.length + y.size ≤ 140737488355328)
    (h : ∀ v1 w1, Kd.R (Kd.int .u8) e w1 base ok v1 (xs ++ bytesOf y) → Below base w0 w1 → W.grownBy w1 v.ownBlock → (v1.ownBlock = v.ownBlock ∨ ∃ b, v1.ownBlock = some b ∧ W.heap.size ≤ b) → wpList P ops Q rest (a.put o.dst v1) w1) :
    wpList P ops Q (o :: rest) a W := by
  obtain ⟨i0, hi, hzz⟩ := Option.map_eq_some_iff.1 hinfo
  simp only [Prod.mk.injEq] at hzz
  obtain ⟨hz0, hz1, hz2⟩ := hzz
  have HOw := Kd.own_of_R HO
  refine wpList_plain hgd fun K hK => ?_
  obtain ⟨v1, w1, hr, h2, h3, hat0⟩ := run_append_own_stringM (P := P) W base t u o.type e i0 ht hu hi hz0 hz1 hz2 v xs.length (nums .u8 xs) HOw y (by simp only [maxLen]; omega) hl hbase
  have hat : v1.ownBlock = v.ownBlock ∨ ∃ b, v1.ownBlock = some b ∧ W.heap.size ≤ b := hat0.imp id fun h => ⟨_, h, Nat.le_refl _⟩
  unfold Oper.wp execOp
  simp only [ho, resolve, invoke, builtin, Sem.run_bind, Sem.run_pure, Result.andThen_ok, List.map_toArray, List.map_cons, List.map_nil, hs, hx, hr]
  have hl2 : (xs ++ bytesOf y).length = xs.length + y.size := by rw [List.length_append, bytesOf_length]
  have hc : nums .u8 (xs ++ bytesOf y) = nums .u8 xs ++ Lib.strCells y := by
    rw [nums_append]
    congr 1
    simp [nums, bytesOf, Lib.strCells]
  refine hK _ _ (h v1 w1 (Kd.R_of_own (by rw [hl2]; show ownsRowM w1 base e 1 v1 _ (nums .u8 (xs ++ bytesOf y)); rw [hc]; exact h2) (fun k hk => ?_)) (HB.grown h3 hbase (own_base HOw)) h3 hat)
  rcases hat with hat | ⟨b, hb, hle⟩
  · exact HO.1 k (hat ▸ hk)
  · rw [hb] at hk
    injection hk with hk
    exact hfresh k (by omega)
end
end Go.Proofs.YteiboagmpgffaaaDoorW.Mine
namespace Go.Proofs.YteiboagmpgffaaaDoorW.PrintWords
open Go.RowKit
section
variable {P : Program} {ops : Array Oper} {rest : List Oper} {o : Oper} {a : Act} {Q : Exit → Act → World → Prop} {Kc : Act → World → Prop}
theorem conv_run {W : World} {src dst e : TypeId} {x : Operand} (ho : o.op = .convert src dst x) {s : ByteArray} (hx : a.eval x = .string s) {u : TypeDesc} (hs : P.underlying src = some u) (hd : P.underlying dst = some (.slice e)) (he : P.underlying e = some (.int .u8)) :
    (execOp a.eval o).run P W = .ok (.value (.slice (some ⟨W.heap.size, 0, none⟩) s.size (grownCap W s.size 0 e))) (Lib.bytesWorld W e s) := by
  have h := Lib.run_convert_string_bytes (P := P) W src dst e s hs hd he
  unfold execOp
  simp only [ho, hx, Sem.run_bind, h, Result.andThen_ok]
  rfl
theorem conv_row {W : World} {base e : Nat} {ok : Nat → Prop} (hfresh : ok W.heap.size) (hb : base ≤ W.heap.size) (s : ByteArray) (hs : s.size < 140737488355328) :
    Kd.R (Kd.int .u8) e (Lib.bytesWorld W e s) base ok (.slice (some ⟨W.heap.size, 0, none⟩) s.size (grownCap W s.size 0 e)) (bytesOf s) := by
  have h := own_bytesWorld W base e s hb (by simp only [maxLen]; omega)
  refine Kd.R_of_own ?_ (fun k hk => ?_)
  · rw [bytesOf_length]
    have hc : nums .u8 (bytesOf s) = Lib.strCells s := by simp [nums, bytesOf, Lib.strCells]
    show ownsRowM _ _ _ _ _ _ (nums .u8 (bytesOf s))
    rw [hc]
    exact h
  · have : W.heap.size = k := by simpa [Value.ownBlock] using hk
    subst this
    exact hfresh
/-- []byte(s) -/
theorem Kd.R_conv {w0 W : World} (base e : Nat) (hgd : o.guard = none) {N : Tmp} (_hd : o.dst = some N) (src dst : TypeId) (x : Operand) (ho : o.op = .convert src dst x) (s : ByteArray) (hx : a.eval x = .string s) {u : TypeDesc} (hs : P.underlying src = some u) (hd : P.underlying dst = some (.slice e)) (he : P.underlying e = some (.int .u8))
    {ok : Nat → Prop} (hfresh : ok W.heap.size) (hl : s.size < 140737488355328) (HB : Below base w0 W) (hbase : base ≤ W.heap.size)
    (h : ∀ v1 w1, Kd.R (Kd.int .u8) e w1 base ok v1 (bytesOf s) → Below base w0 w1 → W.grownBy w1 none → (∃ b, v1.ownBlock = some b ∧ W.heap.size ≤ b) → wpList P ops Q rest (a.put o.dst v1) w1) : wpList P ops Q (o :: rest) a W :=
  event_run hgd (conv_run ho hx hs hd he) (h _ _ (conv_row hfresh hbase s hl) (bytes_below HB hbase e s) (grown_of_below (bytes_below (Below.refl _ _) (Nat.le_refl _) e s) none) ⟨W.heap.size, by simp [Value.ownBlock], Nat.le_refl _⟩)
theorem Kd.R_conv_step {w0 W : World} (base e : Nat) (hw : Region.wanted o (yielded ops a.tmps) = true) {N : Tmp} (_hd : o.dst = some N) (src dst : TypeId) (x : Operand) (ho : o.op = .convert src dst x) (s : ByteArray) (hx : a.eval x = .string s) {u : TypeDesc} (hs : P.underlying src = some u) (hd : P.underlying dst = some (.slice e)) (he : P.underlying e = some (.int .u8))
    {ok : Nat → Prop} (hfresh : ok W.heap.size) (hl : s.size < 140737488355328) (HB : Below base w0 W) (hbase : base ≤ W.heap.size)
    (h : ∀ v1 w1, Kd.R (Kd.int .u8) e w1 base ok v1 (bytesOf s) → Below base w0 w1 → W.grownBy w1 none → (∃ b, v1.ownBlock = some b ∧ W.heap.size ≤ b) → Kc (a.put o.dst v1) w1) : if Region.wanted o (yielded ops a.tmps) = true then Oper.wp P o a W Kc Q else Kc (a.put o.dst undef) W :=
  event_step hw (conv_run ho hx hs hd he) (h _ _ (conv_row hfresh hbase s hl) (bytes_below HB hbase e s) (grown_of_below (bytes_below (Below.refl _ _) (Nat.le_refl _) e s) none) ⟨W.heap.size, by simp [Value.ownBlock], Nat.le_refl _⟩)
theorem mark_run {W : World} {g : Nat} {cur : Array Value} {e : TypeId} (h : Blk W g cur e) (t : TypeId) (n c : Nat) (ht : P.underlying t = some (.slice e)) (he : P.underlying e = some (.int .u8)) :
    (convert t t (.slice (some ⟨g, 0, none⟩) n c)).run P W = .ok (.slice (some ⟨g, 0, none⟩) n c) (W.freeze ⟨g, cur.size, none⟩ 1) := by
  have hsh : W.shape? g = some (e, cur.size) := by
    obtain ⟨fz, h, _⟩ := h
    simp [World.shape?, h]
  simp [convert, run_underlying ht, run_underlying he, markStringish, hsh]
theorem mark_blk {W : World} {g : Nat} {cur : Array Value} {e : TypeId} (h : Blk W g cur e) : Blk (W.freeze ⟨g, cur.size, none⟩ 1) g cur e := by
  obtain ⟨fz, h, hf⟩ := h
  rcases hf with rfl | rfl
  · exact ⟨(cur.size, cur.size + 1), by simp [World.freeze, Array.getElem?_modify, h], .inr rfl⟩
  · exact ⟨(cur.size, cur.size + 1), by simp [World.freeze, Array.getElem?_modify, h], .inr rfl⟩
theorem mark_grown (W : World) (g m : Nat) : W.grownBy (W.freeze ⟨g, m, none⟩ 1) (some g) := by
  refine ⟨rfl, rfl, rfl, by simp [World.freeze], fun k _ hk => ?_⟩
  have : g ≠ k := fun e => hk (by rw [e])
  simp [World.freeze, Array.getElem?_modify, this]
theorem mark_row {W : World} {base e : Nat} {ok : Nat → Prop} {v : Value} {xs : List Int} (HO : Kd.R (Kd.int .u8) e W base ok v xs) (hp : 0 < xs.length) :
    ∃ g n c m, v = .slice (some ⟨g, 0, none⟩) n c ∧ (∀ t, P.underlying t = some (.slice e) → P.underlying e = some (.int .u8) → (convert t t v).run P W = .ok v (W.freeze ⟨g, m, none⟩ 1)) ∧ Kd.R (Kd.int .u8) e (W.freeze ⟨g, m, none⟩ 1) base ok v xs := by
  have ho := Kd.own_of_R HO
  have h1 := ho.1
  rcases ho.2 with ⟨_, h0⟩ | ⟨g, cap, cur, rfl, hb, hg, hnc, hcm, hcs, htake⟩
  · omega
  · exact ⟨g, xs.length, cap, cur.size, rfl, fun t ht he => mark_run hg t _ _ ht he, Kd.R_of_own ⟨h1, .inr ⟨g, cap, cur, rfl, hb, mark_blk hg, hnc, hcm, hcs, htake⟩⟩ HO.1⟩
theorem conv_same {t : TypeId} {x : Operand} {W W1 : World} {v : Value} (ho : o.op = .convert t t x) (hx : a.eval x = v) (h : (convert t t v).run P W = .ok v W1) : (execOp a.eval o).run P W = .ok (.value v) W1 := by
  unfold execOp
  simp only [ho, hx, Sem.run_bind, h, Result.andThen_ok]
  rfl
/-- A constant string's bytes: the literal's row gets its mark. -/
theorem Kd.R_mark {w0 W : World} (base e : Nat) (hgd : o.guard = none) {N : Tmp} (_hd : o.dst = some N) (t : TypeId) (x : Operand) (ho : o.op = .convert t t x) (ht : P.underlying t = some (.slice e)) (he : P.underlying e = some (.int .u8)) (v : Value) (xs : List Int) (ok : Nat → Prop) (hx : a.eval x = v)
    (hfresh : ∀ k, W.heap.size ≤ k → ok k) (HO : Kd.R (Kd.int .u8) e W base ok v xs) (HB : Below base w0 W) (hbase : base ≤ W.heap.size) (hl : 0 < xs.length)
    (h : ∀ v1 w1, Kd.R (Kd.int .u8) e w1 base ok v1 xs → Below base w0 w1 → W.grownBy w1 v.ownBlock → (v1.ownBlock = v.ownBlock ∨ ∃ b, v1.ownBlock = some b ∧ W.heap.size ≤ b) → wpList P ops Q rest (a.put o.dst v1) w1) : wpList P ops Q (o :: rest) a W := by
  obtain ⟨g, n, c, m, hv, hr, hR⟩ := mark_row (P := P) HO hl
  have hg := mark_grown W g m
  have hvo : v.ownBlock = some g := by rw [hv]; rfl
  rw [← hvo] at hg
  exact event_run hgd (conv_same ho hx (hr t ht he)) (h _ _ hR (HB.grown hg hbase (own_base (Kd.own_of_R HO))) hg (.inl rfl))
theorem Kd.R_mark_step {w0 W : World} (base e : Nat) (hw : Region.wanted o (yielded ops a.tmps) = true) {N : Tmp} (_hd : o.dst = some N) (t : TypeId) (x : Operand) (ho : o.op = .convert t t x) (ht : P.underlying t = some (.slice e)) (he : P.underlying e = some (.int .u8)) (v : Value) (xs : List Int) (ok : Nat → Prop) (hx : a.eval x = v)
    (hfresh : ∀ k, W.heap.size ≤ k → ok k) (HO : Kd.R (Kd.int .u8) e W base ok v xs) (HB : Below base w0 W) (hbase : base ≤ W.heap.size) (hl : 0 < xs.length)
    (h : ∀ v1 w1, Kd.R (Kd.int .u8) e w1 base ok v1 xs → Below base w0 w1 → W.grownBy w1 v.ownBlock → (v1.ownBlock = v.ownBlock ∨ ∃ b, v1.ownBlock = some b ∧ W.heap.size ≤ b) → Kc (a.put o.dst v1) w1) : if Region.wanted o (yielded ops a.tmps) = true then Oper.wp P o a W Kc Q else Kc (a.put o.dst undef) W := by
  obtain ⟨g, n, c, m, hv, hr, hR⟩ := mark_row (P := P) HO hl
  have hg := mark_grown W g m
  have hvo : v.ownBlock = some g := by rw [hv]; rfl
  rw [← hvo] at hg
  exact event_step hw (conv_same ho hx (hr t ht he)) (h _ _ hR (HB.grown hg hbase (own_base (Kd.own_of_R HO))) hg (.inl rfl))
end
end Go.Proofs.YteiboagmpgffaaaDoorW.PrintWords
