/- V: what leaves memory alone, in one theorem. Conditions: as each states. -/
import Derived.Test.YtimhjbihhchieaaVE
namespace Go.V
set_option linter.unusedVariables false
set_option linter.unusedSimpArgs false

section
variable {B : Lab} {W : World} {r : Regs} {m : Mem} {P : Program} {a : Act}

theorem strOfNums_push : ∀ (l : List Int) (s : ByteArray), l.foldl (fun r n => r.push (UInt8.ofNat n.toNat)) s = ⟨s.data ++ (l.map fun n => UInt8.ofNat n.toNat).toArray⟩
  | [], s => by simp
  | n :: l, s => by
    rw [List.foldl_cons, strOfNums_push l]
    simp only [ByteArray.push]
    congr 1
    apply Array.toList_inj.1
    simp
theorem strOfNums_fold (l : List Int) : l.foldl (fun r n => r.push (UInt8.ofNat n.toNat)) ByteArray.empty = strOfNums l := by
  rw [strOfNums_push]
  unfold strOfNums
  congr 1
  apply Array.toList_inj.1
  rw [Array.toList_append]
  rfl

/-- the cells of a row of one-cell elements -/
theorem cells_ints {k : IntKind} {l : List Int} {ad : Addr} (h : Elems (fun x es => RepC B W (.int k) x es) 1 W l ad) : ∀ j v, (l.map (Value.int k))[j]? = some v → W.cell? (ad.add j) = some v := by
  intro j v hj
  rw [List.getElem?_map, Option.map_eq_some_iff] at hj
  obtain ⟨n, hn, rfl⟩ := hj
  obtain ⟨hlt, rfl⟩ := List.getElem?_eq_some_iff.1 hn
  obtain ⟨es, h1, h2⟩ := h j hlt
  have : es = [Value.int k l[j]] := h1
  subst this
  simpa using h2 0 _ rfl

theorem bytes_s {l : List Int} {u : Value} {src dst e : TypeId} {K : AV → Prop} (hs : P.underlying src = some (.slice e)) (he : P.underlying e = some (.int .u8)) (hd : P.underlying dst = some .string)
    (hu : RowAt B W (.int .u8) l u) (hk : K (.lf (.val .str (strOfNums l)))) : Does P B W K (convert src dst u) := by
  obtain ⟨ad?, cap, rfl, hc, h⟩ := hu
  refine ⟨_, _, hk, mkStr, ?_⟩
  rw [run_convert_bytes_string _ _ _ _ _ _ _ hs he hd]
  rcases h with rfl | ⟨ad, rfl, hsp, h⟩
  · cases ad? with
    | none => rfl
    | some ad =>
      have := run_bytesToString (P := P) (w := W) ad 0 cap [] (by rfl)
      rw [strOfNums_fold] at this
      exact this
  · have hl := run_loadCells_list (P := P) W ad (l.map (Value.int .u8)) (cells_ints h)
    rw [List.length_map] at hl
    have := run_bytesToString (P := P) (w := W) ad l.length cap l hl
    rw [strOfNums_fold] at this
    exact this

theorem getD_get {α : Type} {l : List α} {n : Nat} (h : n < l.length) (d : α) : l.getD n d = l[n] := by
  simp [List.getD, h]

theorem index_s {s : ByteArray} {n : Int} {k : IntKind} {t : TypeId} {K : AV → Prop} (ht : P.underlying t = some .string) (h : 0 ≤ n ∧ n < (s.size : Int))
    (hk : K (.lf (.val (.int .u8) ((s.data.toList.getD n.toNat 0).toNat : Int)))) : Does P B W K (Instr.index t (.string s) (.int k n)) := by
  refine ⟨_, _, hk, mkInt, ?_⟩
  rw [run_index_string _ _ _ _ _ ht, dif_pos h]
  have hn : n.toNat < s.data.toList.length := by
    have : s.data.toList.length = s.size := rfl
    omega
  rw [getD_get hn]
  rfl

theorem indexAt_s {t el : TypeId} {e : Ty} {ad : Addr} {len cap : Nat} {k : IntKind} {n : Int} (ht : P.underlying t = some (.slice el)) (hz : szIs P el e.sz = true) (h : 0 ≤ n ∧ n < (len : Int)) :
    (Instr.indexAt t (.slice (some ad) len cap) (.int k n)).run P W = .ok (.pointer (some (ad.add (n.toNat * e.sz)))) W := by
  obtain ⟨i, hi, hs⟩ := szIs_eq hz
  unfold Instr.indexAt
  simp only [asIntOf, Sem.run_bind, Sem.run_pure, Result.andThen_ok, run_underlying ht]
  rw [if_pos h]
  simp only [Sem.run_bind, run_size hi, hs, Result.andThen_ok, Sem.run_pure]

theorem indexV_s {t el : TypeId} {e : Ty} {l : List e.den} {u : Value} {k : IntKind} {n : Int} {K : AV → Prop} (ht : P.underlying t = some (.slice el)) (hz : szIs P el e.sz = true)
    (h : 0 ≤ n ∧ n < (l.length : Int)) (hu : RepA B W (.lf (.val (.slice e) l)) u) (hk : K (.lf (.pv e (l.getD n.toNat e.dflt)))) : Does P B W K (Instr.indexAt t u (.int k n)) := by
  obtain ⟨ad?, cap, hu, hc, hr⟩ := (hu : RepC B W (.slice e) l [u])
  simp only [List.cons.injEq, and_true] at hu
  subst hu
  rcases hr with rfl | ⟨ad, rfl, hb, hs, he⟩
  · simp at h; omega
  · refine ⟨_, _, hk, ?_, indexAt_s ht hz h⟩
    have hn : n.toNat < l.length := by omega
    obtain ⟨es, h1, h2⟩ := he n.toNat hn
    refine ⟨_, es, rfl, (st_add ⟨hb, hs⟩).1, (st_add ⟨hb, hs⟩).2, by rw [getD_get hn]; exact h1, fun j u hj => ?_⟩
    rw [add_add]; exact h2 j u hj

theorem indexA_s {t el : TypeId} {w : Ow} {e : Ty} {l : List e.den} {u : Value} {k : IntKind} {n : Int} {K : AV → Prop} (ht : P.underlying t = some (.slice el)) (hz : szIs P el e.sz = true)
    (h : 0 ≤ n ∧ n < (l.length : Int)) (hu : RepA B W (.lf (.al w e l)) u) (hk : K (.lf (.vp w e l n.toNat e 0 id fun _ y => y))) : Does P B W K (Instr.indexAt t u (.int k n)) := by
  rcases (hu : OwnRow B W w e l u) with ⟨rfl, rfl⟩ | ⟨b, cap, rfl, hb⟩
  · simp at h; omega
  · refine ⟨_, _, hk, ?_, indexAt_s ht hz h⟩
    refine ⟨b, cap, ?_, by omega, hb, Lens.id e⟩
    rw [Addr.add_lit]; simp

theorem fieldPlace_s {fd : Field} (hz : (!szIs P fd.type 0 && (P.info? fd.type).isSome) = true) (ad : Addr) : (fieldPlace ad fd).run P W = .ok (ad.add fd.offset) W := by
  simp only [Bool.and_eq_true, Bool.not_eq_true'] at hz
  obtain ⟨i, hi⟩ := Option.isSome_iff_exists.1 hz.2
  have hn : ¬ i.size = 0 := by
    intro e
    have := hz.1
    unfold szIs at this
    rw [hi] at this
    simp [e] at this
  unfold fieldPlace
  simp only [Sem.run_bind, run_size hi, Result.andThen_ok, if_neg hn, Sem.run_pure]

theorem fieldAt_s {s : TypeId} {fs : Array Field} {f : Nat} {fd : Field} {ad : Addr} (hs : P.underlying s = some (.struct fs)) (hf : fs[f]? = some fd) (hz : (!szIs P fd.type 0 && (P.info? fd.type).isSome) = true) :
    (Instr.fieldAt s (.pointer (some ad)) f).run P W = .ok (.pointer (some (ad.add fd.offset))) W := by
  unfold Instr.fieldAt Instr.sureAddr
  simp only [Sem.run_bind, run_underlying hs, Result.andThen_ok, hf, Sem.run_pure, fieldPlace_s hz]

theorem part_s {ft : TypeId} (h : (P.underlying ft).isSome = true) {u : Ty} (hg : isAggB P ft = u.agg) (hz : szIs P ft u.sz = true) {z : u.den} {c1 c2 c3 : List Value} {o : Nat} (ho : c1.length = o) (hr : RepC B W u z c2) :
    ∃ x, (part ft (c1 ++ c2 ++ c3).toArray o).run P W = .ok x W ∧ RepV B W u z x := by
  obtain ⟨i, hi, hs⟩ := szIs_eq hz
  unfold part
  simp only [Sem.run_bind, run_isAgg h, Result.andThen_ok, hg]
  cases ha : u.agg with
  | true =>
    simp only [if_true, Sem.run_bind, run_size hi, hs, Result.andThen_ok, Sem.run_pure]
    refine ⟨_, rfl, ?_⟩
    unfold RepV; rw [ha]
    refine ⟨c2, ?_, hr⟩
    congr 1
    apply Array.toList_inj.1
    simp only [Array.toList_extract, List.extract_eq_take_drop]
    subst ho
    rw [List.append_assoc, List.drop_left, Nat.add_sub_cancel_left, ← hr.len, List.take_left]
  | false =>
    have hlen := hr.len
    have h1 : u.sz = 1 := by cases u <;> first | rfl | cases ha
    rw [h1] at hlen
    obtain ⟨x, rfl⟩ : ∃ x, c2 = [x] := by
      match c2, hlen with
      | [x], _ => exact ⟨x, rfl⟩
    subst ho
    refine ⟨x, ?_, by unfold RepV; rw [ha]; exact hr⟩
    simp

theorem vals_rep (hr : All2 (RepA B W) r a.tmps.toList) : ∀ (l : List Operand), All2 (Rep0 B W) (l.map fun x => (vval r x).leaf) (l.map a.eval)
  | [] => .nil
  | x :: l => by
    refine .cons ?_ (vals_rep hr l)
    have := vval_rep hr x
    show Rep0 B W (vval r x).leaf (a.eval x)
    generalize vval r x = v at this
    cases v with
    | lf a => exact this
    | _ => trivial

theorem row_len {x : A0} {e : Ty} {l : List e.den} {u : Value} (h : x.row? = some ⟨e, l⟩) (hu : RepA B W (.lf x) u) : ∃ a cap, u = .slice a l.length cap := by
  obtain ⟨a, cap, h, _⟩ := rep_row h hu
  exact ⟨a, cap, h⟩

theorem call1 {b : Builtin} {args : Array Operand} {ats : Array TypeId} {o : Oper} {x : Operand} {t : TypeId} (ho : o.op = .call { callee := .builtin b, args, argTypes := ats }) (h1 : args.toList = [x]) (h2 : ats.toList = [t])
    {f : Array TypeId → TypeId → Array Value → Sem Value} (hf : ∀ ats ty cs vs, builtin b ats ty cs vs = (do pure (.value (← f ats ty vs)))) :
    execOp a.eval o = (do pure (.value (← f #[t] o.type #[a.eval x]))) := by
  obtain rfl : args = #[x] := by rw [← Array.toArray_toList (xs := args), h1]
  obtain rfl : ats = #[t] := by rw [← Array.toArray_toList (xs := ats), h2]
  simp [execOp, ho, resolve, invoke, hf]
theorem call2 {b : Builtin} {args : Array Operand} {ats : Array TypeId} {o : Oper} {x y : Operand} (ho : o.op = .call { callee := .builtin b, args, argTypes := ats }) (h1 : args.toList = [x, y])
    {f : Array TypeId → TypeId → Array Value → Sem Value} (hf : ∀ ats ty cs vs, builtin b ats ty cs vs = (do pure (.value (← f ats ty vs)))) :
    execOp a.eval o = (do pure (.value (← f ats o.type #[a.eval x, a.eval y]))) := by
  obtain rfl : args = #[x, y] := by rw [← Array.toArray_toList (xs := args), h1]
  simp [execOp, ho, resolve, invoke, hf]

theorem vpure_s (hl : LabOK B W) (hm : MemOK B W m) (hr : All2 (RepA B W) r a.tmps.toList) {o : Oper} {K : AV → Prop} (h : vpure P r m o K) :
    ∃ v u, K v ∧ RepA B W v u ∧ (execOp a.eval o).run P W = .ok (.value u) W := by
  cases ho : o.op <;> simp only [vpure, ho] at h <;> try (exact h.elim)
  case move x => exact ⟨_, _, h, vval_rep hr x, by simp only [execOp, ho]; rfl⟩
  case binOp op t x y t' => exact (vbin_s (X := x) (Y := y) h (vval_rep hr x) (vval_rep hr y)).exec (by simp only [execOp, ho])
  case unOp op t x =>
    have hx := vval_rep hr x
    generalize vval r x = v at h hx
    refine Does.exec (s := Op.unary op (a.eval x)) ?_ (by simp only [execOp, ho])
    split at h
    · rw [rep_bool hx]; exact ⟨_, _, h, mkBool, rfl⟩
    · rw [rep_int hx]; exact ⟨_, _, h, mkInt, by simp [Op.unary, Op.intArith]⟩
    · exact h.elim
  case nilCheck x =>
    have hx := vval_rep hr x
    generalize vval r x = v at h hx
    split at h
    · have hx' := hx
      obtain ⟨b, hb, e⟩ := hx'
      exact ⟨_, _, h, hx, by simp only [execOp, ho, e]; rfl⟩
    · have hx' := hx
      obtain ⟨ad, cs, e, _⟩ := hx'
      exact ⟨_, _, h, hx, by simp only [execOp, ho, e]; rfl⟩
    · exact h.elim
  case index t x i =>
    have hx := vval_rep hr x
    generalize vval r x = v at h hx
    split at h
    · rename_i ht
      obtain ⟨k, n, hn, h⟩ := isNat_s h (vval_rep hr i)
      refine Does.exec (s := Instr.index t (a.eval x) (a.eval i)) ?_ (by simp only [execOp, ho])
      rw [rep_str hx, hn]
      exact index_s ht h.1 h.2
    · exact h.elim
  case indexAddr t x i =>
    have hx := vval_rep hr x
    generalize vval r x = v at h hx
    refine Does.exec (s := Instr.indexAt t (a.eval x) (a.eval i)) ?_ (by simp only [execOp, ho])
    split at h
    · rename_i el ht
      split at h
      · obtain ⟨hz, h⟩ := chk h
        obtain ⟨k, n, hn, h⟩ := isNat_s h (vval_rep hr i)
        rw [hn]
        exact indexV_s ht hz h.1 hx h.2
      · obtain ⟨hz, h⟩ := chk h
        obtain ⟨k, n, hn, h⟩ := isNat_s h (vval_rep hr i)
        rw [hn]
        exact indexA_s ht hz h.1 hx h.2
      · exact h.elim
    · exact h.elim
  case fieldAddr s x f =>
    have hx := vval_rep hr x
    generalize vval r x = v at h hx
    refine Does.exec (s := Instr.fieldAt s (a.eval x) f) ?_ (by simp only [execOp, ho])
    split at h
    · rename_i fs hs
      split at h
      · obtain ⟨fd, hf, h⟩ := optK_some h
        obtain ⟨hz, h⟩ := chk h
        obtain ⟨b, hb, e⟩ := hx
        rw [fN_eq] at h
        refine ⟨_, _, h, ⟨b, hb, rfl⟩, ?_⟩
        rw [e, fieldAt_s hs hf hz, Addr.add_lit]
      · obtain ⟨fd, hf, h⟩ := optK_some h
        obtain ⟨⟨off, u, z⟩, hp, h⟩ := optK_some h
        obtain ⟨hz, h⟩ := chk h
        simp only [Bool.and_assoc] at hz
        rw [Bool.and_eq_true] at hz
        obtain ⟨ad, cs, e, hb, hsp, hc, hu⟩ := hx
        obtain ⟨c1, c2, c3, rfl, hlen, hc2⟩ := projT_s hp hc
        have hoff : fd.offset = c1.length := by have := Nat.eq_of_beq_eq_true hz.1; omega
        refine ⟨_, _, h, ⟨ad.add fd.offset, c2, rfl, (st_add ⟨hb, hsp⟩).1, (st_add ⟨hb, hsp⟩).2, hc2, fun j q hj => ?_⟩, by rw [e]; exact fieldAt_s hs hf hz.2⟩
        rw [add_add, hoff]
        refine hu _ _ ?_
        have hj' : j < c2.length := (List.getElem?_eq_some_iff.1 hj).1
        rw [List.append_assoc, List.getElem?_append_right (by omega), Nat.add_sub_cancel_left, List.getElem?_append_left hj']
        exact hj
      · obtain ⟨fd, hf, h⟩ := optK_some h
        obtain ⟨⟨off, u, g', s'⟩, hp, h⟩ := optK_some h
        obtain ⟨hz, h⟩ := chk h
        simp only [Bool.and_assoc] at hz
        rw [Bool.and_eq_true] at hz
        obtain ⟨q, hq, hlens⟩ := lensT_s hp
        have hoff : fd.offset = q := by have := Nat.eq_of_beq_eq_true hz.1; omega
        obtain ⟨b, cap, e, hi, hb, hl1⟩ := hx
        obtain rfl : off = q := by omega
        refine ⟨_, _, h, ⟨b, cap, rfl, hi, hb, hl1.comp hlens⟩, ?_⟩
        rw [e, fieldAt_s hs hf hz.2, Addr.add_lit, hoff, Nat.add_assoc]
      · exact h.elim
    · exact h.elim
  case field s x f =>
    have hx := vval_rep hr x
    generalize vval r x = v at h hx
    refine Does.exec (s := Instr.field s (a.eval x) f) ?_ (by simp only [execOp, ho])
    split at h
    · rename_i fs t y hs
      obtain ⟨fd, hf, h⟩ := optK_some h
      obtain ⟨⟨off, u, z⟩, hp, h⟩ := optK_some h
      obtain ⟨hz, h⟩ := chk h
      simp only [Bool.and_eq_true, beq_iff_eq] at hz
      obtain ⟨⟨⟨⟨hagg, ho1⟩, hag⟩, hsz⟩, hund⟩ := hz
      have hx' : RepV B W t y (a.eval x) := hx
      unfold RepV at hx'
      rw [hagg] at hx'
      obtain ⟨cs, e, hc⟩ := hx'
      obtain ⟨c1, c2, c3, rfl, hlen, hc2⟩ := projT_s hp hc
      have hoff : c1.length = fd.offset := by have := Nat.eq_of_beq_eq_true ho1; omega
      obtain ⟨q, hq, hqr⟩ := part_s (P := P) (c3 := c3) hund hag hsz hoff hc2
      refine ⟨_, q, h, hqr, ?_⟩
      rw [e]
      unfold Instr.field
      simp only [Sem.run_bind, run_underlying hs, Result.andThen_ok, hf, asAgg, Sem.run_pure, hq]
    · exact h.elim
  case extract x i =>
    have hx := vval_rep hr x
    generalize vval r x = v at h hx
    refine Does.exec (s := Instr.extract (a.eval x) i) ?_ (by simp only [execOp, ho])
    split at h
    · obtain ⟨y, hy, h⟩ := optK_some h
      obtain ⟨vs, e, hvs⟩ := hx
      obtain ⟨u, hu, hur⟩ := hvs.get i y hy
      refine ⟨_, u, h, hur, ?_⟩
      rw [Array.getElem?_toList] at hu
      rw [e]
      simp [Instr.extract, hu]
    · exact h.elim
  case load t x =>
    obtain ⟨hund, h⟩ := chk h
    have hx := vval_rep hr x
    generalize vval r x = v at h hx
    refine Does.exec (s := Instr.loadAt t (a.eval x)) ?_ (by simp only [execOp, ho])
    split at h
    · obtain ⟨c, hc, h⟩ := optK_some h
      obtain ⟨b, hb, e⟩ := hx
      obtain ⟨arr, ty, hw, hcs⟩ := obj_cells hl hm hc hb
      split at h
      · rename_i ha
        obtain ⟨y, hy, h⟩ := optK_some h
        obtain ⟨u, hu, hur⟩ := hcs.get _ _ hy
        rw [Array.getElem?_toList] at hu
        refine ⟨_, u, h, hur, ?_⟩
        rw [e]
        simp only [Instr.loadAt, Instr.sureAddr, loadVar, Sem.run_bind, Sem.run_pure, Result.andThen_ok, run_isAgg hund, ha, Bool.false_eq_true, if_false, run_load, cell_arr hw, hu]
      · rename_i ha
        obtain ⟨T, hT, h⟩ := optK_some h
        obtain ⟨hz, h⟩ := chk h
        obtain ⟨⟨y, rest⟩, hy, h⟩ := optK_some h
        rw [Bool.and_eq_true] at hz
        obtain ⟨cs, vs', hvs, hcr, _⟩ := packT_s hy (hcs.drop _)
        obtain ⟨u, hu, hur⟩ := run_loadVar (P := P) hund hz.1 (by rw [ha, hz.2]) hcr (ad := ⟨b, _, none⟩) (fun j q hj => by
          rw [Addr.add_lit, cell_arr hw, ← Array.getElem?_toList, ← List.getElem?_drop, hvs, List.getElem?_append_left (List.getElem?_eq_some_iff.1 hj).1]
          exact hj)
        refine ⟨_, u, h, hur, ?_⟩
        rw [e]
        simp only [Instr.loadAt, Instr.sureAddr, Sem.run_bind, Sem.run_pure, Result.andThen_ok, hu]
    · obtain ⟨hz, h⟩ := chk h
      rw [Bool.and_eq_true, beq_iff_eq] at hz
      obtain ⟨ad, cs, e, hb, hsp, hc, hu⟩ := hx
      obtain ⟨u, hu, hur⟩ := run_loadVar (P := P) hund hz.1 hz.2 hc hu
      refine ⟨_, u, h, hur, ?_⟩
      rw [e]
      simp only [Instr.loadAt, Instr.sureAddr, Sem.run_bind, Sem.run_pure, Result.andThen_ok, hu]
    · rename_i w0 e0 l0 i0 u0 off0 g0 s0
      obtain ⟨hz, h⟩ := chk h
      rw [Bool.and_eq_true, beq_iff_eq] at hz
      obtain ⟨b, cap, e, hi, hb, hlens⟩ := hx
      obtain ⟨_, arr, ty, fz, g1, g2, g3, g4, g5⟩ := hb
      obtain ⟨es, h1, h2⟩ := g5 _ hi
      obtain ⟨c1, c2, c3, rfl, hlen, hg, _⟩ := hlens B W _ _ h1
      obtain ⟨u, hu, hur⟩ := run_loadVar (P := P) hund hz.1 hz.2 hg (ad := ⟨b, i0 * e0.sz + off0, none⟩) (fun j q hj => by
        have hj' : j < c2.length := (List.getElem?_eq_some_iff.1 hj).1
        have := h2 (c1.length + j) q (by rw [List.append_assoc, List.getElem?_append_right (by omega), Nat.add_sub_cancel_left, List.getElem?_append_left hj']; exact hj)
        rw [Addr.add_lit] at this ⊢
        rw [← this, hlen, Nat.zero_add, Nat.add_assoc])
      refine ⟨_, u, h, by rw [getD_get hi]; exact hur, ?_⟩
      rw [e]
      simp only [Instr.loadAt, Instr.sureAddr, Sem.run_bind, Sem.run_pure, Result.andThen_ok, hu]
    · exact h.elim
  case convert src dst x =>
    have hx := vval_rep hr x
    generalize vval r x = v at h hx
    refine Does.exec (s := convert src dst (a.eval x)) ?_ (by simp only [execOp, ho])
    split at h
    · rw [rep_int hx]
      split at h
      · rename_i h1 h2
        exact ⟨_, _, h, mkInt, by simp [convert, run_underlying h1, run_underlying h2, Conv.intToInt]⟩
      · exact h.elim
    · split at h
      · rename_i h1 h2
        split at h
        · rename_i h3; exact bytes_s h1 h3 h2 (rep_row rfl hx) h
        · exact h.elim
      · exact h.elim
    · split at h
      · rename_i h1 h2
        split at h
        · rename_i h3; exact bytes_s h1 h3 h2 (rep_row rfl hx) h
        · exact h.elim
      · exact h.elim
    · rw [rep_str hx]
      split at h
      · rename_i h1 h2
        exact ⟨_, _, h, mkStr, by simp [convert, run_underlying h1, run_underlying h2]⟩
      · exact h.elim
    · exact h.elim
  case slice t x lo hi mx =>
    exact (vslice_s hr h).exec (by simp only [execOp, ho])
  case makeInterface t x =>
    have hx := vval_rep hr x
    generalize vval r x = v at h hx
    refine Does.exec (s := Instr.makeInterface t (a.eval x)) ?_ (by simp only [execOp, ho])
    split at h
    · exact h.elim
    · rename_i d y hne hd
      refine ⟨_, _, h, ⟨_, rfl, hx⟩, ?_⟩
      unfold Instr.makeInterface
      simp only [Sem.run_bind, run_underlying hd, Result.andThen_ok, Sem.run_pure]
    · exact h.elim
  case makeFunc f x y =>
    exact ⟨_, _, h, ⟨x.map a.eval, y.map a.eval, rfl, by simpa using vals_rep hr x.toList, by simpa using vals_rep hr y.toList⟩, by simp only [execOp, ho]; rfl⟩
  case call c =>
    obtain ⟨callee, args, ats⟩ := c
    cases callee <;> try (exact h.elim)
    rename_i bi
    cases bi <;> try (exact h.elim)
    case len =>
      simp only at h
      split at h
      · rename_i x t h1 h2
        have hx := vval_rep hr x
        generalize vval r x = v at h hx
        refine Does.exec (s := Builtin.len_ #[t] o.type #[a.eval x]) ?_ (call1 ho h1 h2 (fun _ _ _ _ => rfl))
        split at h
        · rename_i ht
          rw [rep_str hx]
          exact ⟨_, _, h, mkInt, run_len_string _ _ _ _ ht⟩
        · rename_i el y ht
          obtain ⟨⟨e, l⟩, hrow, h⟩ := optK_some h
          obtain ⟨ad, cap, hu⟩ := row_len hrow hx
          rw [hu]
          have hel : P.elem t = el := by unfold Program.elem; rw [ht]
          exact ⟨_, _, h, mkInt, run_len_slice _ _ _ _ _ _ (by rw [hel]; exact ht)⟩
        · exact h.elim
      · exact h.elim
    case max =>
      simp only at h
      split at h
      · rename_i x y h1
        have hx := vval_rep hr x
        have hy := vval_rep hr y
        generalize vval r x = v at h hx
        generalize vval r y = v' at h hy
        refine Does.exec (s := Builtin.max_ ats o.type #[a.eval x, a.eval y]) ?_ (call2 ho h1 (fun _ _ _ _ => rfl))
        split at h
        · rw [rep_int hx, rep_int hy]
          exact ⟨_, _, h, mkInt, run_max_int2 _ _ _ _ _ _ _⟩
        · exact h.elim
      · exact h.elim
    case min =>
      simp only at h
      split at h
      · rename_i x y h1
        have hx := vval_rep hr x
        have hy := vval_rep hr y
        generalize vval r x = v at h hx
        generalize vval r y = v' at h hy
        refine Does.exec (s := Builtin.min_ ats o.type #[a.eval x, a.eval y]) ?_ (call2 ho h1 (fun _ _ _ _ => rfl))
        split at h
        · rw [rep_int hx, rep_int hy]
          exact ⟨_, _, h, mkInt, run_min_int2 _ _ _ _ _ _ _⟩
        · exact h.elim
      · exact h.elim

end

end Go.V
