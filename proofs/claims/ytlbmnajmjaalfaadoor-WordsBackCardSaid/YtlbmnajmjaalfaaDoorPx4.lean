-- WRITTEN BY handprint.py, this session's program round the kit's print.py
import Derived.Test.YtlbmnajmjaalfaaDoorPx0
import Derived.Test.YtlbmnajmjaalfaaDoorPx3
namespace Go.Proofs.YtlbmnajmjaalfaaDoor.P
open Go.RowKit Go.Proofs.YtlbmnajmjaalfaaDoorW.PrintWords Go.Proofs.YtlbmnajmjaalfaaDoorW.PrintLast Go.Proofs.YtlbmnajmjaalfaaDoorW.PrintMore Go.Proofs.YtlbmnajmjaalfaaDoorW.Mine
attribute [local go_sem] max2_int min2_int max_two min_two max_three min_three max_four min_four   -- for this text's walks alone
set_option linter.unusedVariables false
set_option linter.unusedSimpArgs false

/-! ### words_reader_push: function 20 -/
theorem infoReader : (Tryd.prog.info? 43).map (fun i => (i.zero, i.size, i.bytes)) = some (some (.agg #[.int .i64 0, .slice none 0 0, .slice none 0 0]), 3, 56) := by kernel_rfl

/-- What a reader at block g holds. -/
structure Rdr (w0 W : World) (g : Nat) (s : Int) (word : List Int) (words : List ByteArray) : Prop where
  mk :: (out : ∃ v1 v2 : Value, W.heap[g]? = some (.cells #[.int .i64 s, v1, v2] 43 (0, 0)) ∧ Kd.R (Kd.int .u8) 5 W w0.heap.size (fun _ => True) v1 word ∧ Kd.R Kd.string 9 W w0.heap.size (fun _ => True) v2 words ∧ Below w0.heap.size w0 W ∧ w0.heap.size ≤ g)

theorem Rdr.set0 {w0 W : World} {g : Nat} {s : Int} {word : List Int} {words : List ByteArray} {v1 v2 : Value} (s' : Int)
    (hc : W.heap[g]? = some (.cells #[.int .i64 s, v1, v2] 43 (0, 0))) (h1 : Kd.R (Kd.int .u8) 5 W w0.heap.size (fun _ => True) v1 word) (h2 : Kd.R Kd.string 9 W w0.heap.size (fun _ => True) v2 words) (hB : Below w0.heap.size w0 W) (hg : w0.heap.size ≤ g) :
    (W.setCell ⟨g, 0, none⟩ (.int .i64 s')).heap[g]? = some (.cells #[.int .i64 s', v1, v2] 43 (0, 0)) ∧ Kd.R (Kd.int .u8) 5 (W.setCell ⟨g, 0, none⟩ (.int .i64 s')) w0.heap.size (fun _ => True) v1 word ∧ Kd.R Kd.string 9 (W.setCell ⟨g, 0, none⟩ (.int .i64 s')) w0.heap.size (fun _ => True) v2 words ∧ Below w0.heap.size w0 (W.setCell ⟨g, 0, none⟩ (.int .i64 s')) :=
  ⟨by simpa using blk_set hc 0 (.int .i64 s'), Kd.R_set h1 hc (by decide) 0 _, Kd.R_set h2 hc (by decide) 0 _, below_set hB hg⟩
theorem Rdr.set1 {w0 W : World} {g : Nat} {s : Int} {word : List Int} {words : List ByteArray} {u v1 v2 : Value}
    (hc : W.heap[g]? = some (.cells #[.int .i64 s, u, v2] 43 (0, 0))) (h1 : Kd.R (Kd.int .u8) 5 W w0.heap.size (fun _ => True) v1 word) (h2 : Kd.R Kd.string 9 W w0.heap.size (fun _ => True) v2 words) (hB : Below w0.heap.size w0 W) (hg : w0.heap.size ≤ g) :
    (W.setCell ⟨g, 1, none⟩ v1).heap[g]? = some (.cells #[.int .i64 s, v1, v2] 43 (0, 0)) ∧ Kd.R (Kd.int .u8) 5 (W.setCell ⟨g, 1, none⟩ v1) w0.heap.size (fun _ => True) v1 word ∧ Kd.R Kd.string 9 (W.setCell ⟨g, 1, none⟩ v1) w0.heap.size (fun _ => True) v2 words ∧ Below w0.heap.size w0 (W.setCell ⟨g, 1, none⟩ v1) :=
  ⟨by simpa using blk_set hc 1 v1, Kd.R_set h1 hc (by decide) 1 _, Kd.R_set h2 hc (by decide) 1 _, below_set hB hg⟩
theorem Rdr.set2 {w0 W : World} {g : Nat} {s : Int} {word : List Int} {words : List ByteArray} {u v1 v2 : Value}
    (hc : W.heap[g]? = some (.cells #[.int .i64 s, v1, u] 43 (0, 0))) (h1 : Kd.R (Kd.int .u8) 5 W w0.heap.size (fun _ => True) v1 word) (h2 : Kd.R Kd.string 9 W w0.heap.size (fun _ => True) v2 words) (hB : Below w0.heap.size w0 W) (hg : w0.heap.size ≤ g) :
    (W.setCell ⟨g, 2, none⟩ v2).heap[g]? = some (.cells #[.int .i64 s, v1, v2] 43 (0, 0)) ∧ Kd.R (Kd.int .u8) 5 (W.setCell ⟨g, 2, none⟩ v2) w0.heap.size (fun _ => True) v1 word ∧ Kd.R Kd.string 9 (W.setCell ⟨g, 2, none⟩ v2) w0.heap.size (fun _ => True) v2 words ∧ Below w0.heap.size w0 (W.setCell ⟨g, 2, none⟩ v2) :=
  ⟨by simpa using blk_set hc 2 v2, Kd.R_set h1 hc (by decide) 2 _, Kd.R_set h2 hc (by decide) 2 _, below_set hB hg⟩

def PushS (B : Nat) (g : Nat) (s : Int) (v1 v2 : Value) (word : List Int) (w' : World) : Prop :=
  w'.cell? ⟨g, 1, none⟩ = some v1 ∧ w'.cell? ⟨g, 2, none⟩ = some v2 ∧ w'.frozen? ⟨g, 2, none⟩ = false ∧ (convert 38 9 v1).run Tryd.prog w' = .ok (.string (strOfNums word)) w' ∧ w'.heap[g]? = some (.cells #[.int .i64 s, v1, v2] 43 (0, 0)) ∧ Kd.R (Kd.int .u8) 5 w' B (fun _ => True) v1 word
theorem PushS.of {B g : Nat} {s : Int} {v1 v2 : Value} {word : List Int} {w' : World} (hc : w'.heap[g]? = some (.cells #[.int .i64 s, v1, v2] 43 (0, 0))) (h1 : Kd.R (Kd.int .u8) 5 w' B (fun _ => True) v1 word) : PushS B g s v1 v2 word w' := by
  refine ⟨blk_cell hc 1, blk_cell hc 2, blk_frozen hc 2, ?_, hc, h1⟩
  obtain ⟨A, c, rfl, hl, hr⟩ := Kd.R_reads h1
  exact Kd.C_string Tryd.underlying38 Tryd.underlying5 Tryd.underlying9 hr
theorem PushS.step {B g : Nat} {s : Int} {v1 v2 : Value} {word : List Int} {w' w2 : World} (h : PushS B g s v1 v2 word w') (hb : Below w'.heap.size w' w2) : PushS B g s v1 v2 word w2 :=
  PushS.of (blk_below h.2.2.2.2.1 hb) (Kd.R_below h.2.2.2.2.2 hb)

theorem PushS.all {B g : Nat} {s : Int} {v1 v2 : Value} {word : List Int} {w' : World} (h : PushS B g s v1 v2 word w') : w'.cell? ⟨g, 1, none⟩ = some v1 ∧ w'.cell? ⟨g, 2, none⟩ = some v2 ∧ w'.frozen? ⟨g, 2, none⟩ = false ∧ (convert 38 9 v1).run Tryd.prog w' = .ok (.string (strOfNums word)) w' ∧ PushS B g s v1 v2 word w' := ⟨h.1, h.2.1, h.2.2.1, h.2.2.2.1, h⟩
theorem PushS.next {B g : Nat} {s : Int} {v1 v2 : Value} {word : List Int} {w' w2 : World} (h : w'.cell? ⟨g, 1, none⟩ = some v1 ∧ w'.cell? ⟨g, 2, none⟩ = some v2 ∧ w'.frozen? ⟨g, 2, none⟩ = false ∧ (convert 38 9 v1).run Tryd.prog w' = .ok (.string (strOfNums word)) w' ∧ PushS B g s v1 v2 word w') (hb : Below w'.heap.size w' w2) : w2.cell? ⟨g, 1, none⟩ = some v1 ∧ w2.cell? ⟨g, 2, none⟩ = some v2 ∧ w2.frozen? ⟨g, 2, none⟩ = false ∧ (convert 38 9 v1).run Tryd.prog w2 = .ok (.string (strOfNums word)) w2 ∧ PushS B g s v1 v2 word w2 := PushS.all (PushS.step h.2.2.2.2 hb)

theorem PushS.grown_ {B g : Nat} {s : Int} {v1 v2 : Value} {word : List Int} {words : List ByteArray} {w w2 : World} (h : PushS B g s v1 v2 word w) (h2 : Kd.R Kd.string 9 w B (fun _ => True) v2 words) (hg : w.drew.grownBy w2 v2.ownBlock) : PushS B g s v1 v2 word w2 :=
  PushS.of (blk_grown (w := w.drew) h.2.2.2.2.1 hg (Kd.R_ne h2 h.2.2.2.2.1 (by decide))) (Kd.R_over' (Kd.R_drew h.2.2.2.2.2) (Kd.R_typed (Kd.R_drew h2)) (by decide) hg)

set_option maxHeartbeats 4000000 in
set_option maxRecDepth 100000 in
theorem push_calls (g : Nat) (s : Int) (v1 v2 : Value) (word : List Int) (words : List ByteArray) (w0 w : World)
    (hc : w.heap[g]? = some (.cells #[.int .i64 s, v1, v2] 43 (0, 0))) (h1 : Kd.R (Kd.int .u8) 5 w w0.heap.size (fun _ => True) v1 word) (h2 : Kd.R Kd.string 9 w w0.heap.size (fun _ => True) v2 words) (hB : Below w0.heap.size w0 w) (hg : w0.heap.size ≤ g) (hl : words.length < 8796093022208) :
    Calls Tryd.prog 20 #[.pointer (some ⟨g, 0, none⟩)] w fun e w' => e = .returned (.tuple #[]) ∧ Rdr w0 w' g 0 [] (words ++ [strOfNums word]) := by
  have HS : PushS w0.heap.size g s v1 v2 word w := PushS.of hc h1
  have H2 := Aside0.mk h2
  have HB := Aside0.mk hB
  have HL := Aside0.mk hl
  clear h1 h2 hB hl hc
  go_enter Tryd.func20, Tryd.ntmps20
  go_wp2
  have HD := PushS.step HS (below_drew1 (Below.refl _ _))
  have HD2 := PushS.step HD (below_alloc (Below.refl _ _) (.cells #[.string (strOfNums word)] 9))
  refine start_ (n := 15) (S := fun w' => w'.cell? ⟨g, 1, none⟩ = some v1 ∧ w'.cell? ⟨g, 2, none⟩ = some v2 ∧ (convert 38 9 v1).run Tryd.prog w' = .ok (.string (strOfNums word)) w') (ds := [14]) #[false, false, false, false, false, false, false, false, false, false, false, false, false, false, false] (by kernel_rfl) rfl rfl ⟨HD.1, HD.2.1, HD.2.2.2.1⟩ (fun hHeld => ?_)
  refine pure_ (i := 0) (N := some 2) (v := ?_) (a' := ?_) #[true, false, false, false, false, false, false, false, false, false, false, false, false, false, false] rfl rfl (by kernel_rfl) (fun _ _ _ h => h) (Or.inl ⟨by rfl, ?_⟩) ?_ ?_
  rotate_left
  · intro w'
    go_simp
    with_reducible rfl
  rotate_left
  · simp only [Act.put, List.setIfInBounds_toArray, List.set_cons_zero, List.set_cons_succ, i64_w, i32_w]
    rfl
  refine pure_ (i := 1) (N := some 3) (v := ?_) (a' := ?_) #[true, true, false, false, false, false, false, false, false, false, false, false, false, false, false] rfl rfl (by kernel_rfl) (fun _ _ _ h => h) (Or.inl ⟨by rfl, ?_⟩) ?_ ?_
  rotate_left
  · intro w'
    go_simp
    with_reducible rfl
  rotate_left
  · simp only [Act.put, List.setIfInBounds_toArray, List.set_cons_zero, List.set_cons_succ, i64_w, i32_w]
    rfl
  refine pure_ (i := 2) (N := some 4) (v := ?_) (a' := ?_) #[true, true, true, false, false, false, false, false, false, false, false, false, false, false, false] rfl rfl (by kernel_rfl) (fun _ _ _ h => h) (Or.inl ⟨by rfl, ?_⟩) ?_ ?_
  rotate_left
  · intro w'
    go_simp
    with_reducible rfl
  rotate_left
  · simp only [Act.put, List.setIfInBounds_toArray, List.set_cons_zero, List.set_cons_succ, i64_w, i32_w]
    rfl
  refine pure_ (i := 3) (N := some 5) (v := ?_) (a' := ?_) #[true, true, true, true, false, false, false, false, false, false, false, false, false, false, false] rfl rfl (by kernel_rfl) (fun _ _ _ h => h) (Or.inl ⟨by rfl, ?_⟩) ?_ ?_
  rotate_left
  · intro w'
    go_simp
    with_reducible rfl
  rotate_left
  · simp only [Act.put, List.setIfInBounds_toArray, List.set_cons_zero, List.set_cons_succ, i64_w, i32_w]
    rfl
  refine pure_ (i := 5) (N := some 7) (v := ?_) (a' := ?_) #[true, true, true, true, false, true, false, false, false, false, false, false, false, false, false] rfl rfl (by kernel_rfl) (fun _ _ _ h => h) (Or.inl ⟨by rfl, ?_⟩) ?_ ?_
  rotate_left
  · intro w'
    go_simp
    with_reducible rfl
  rotate_left
  · simp only [Act.put, List.setIfInBounds_toArray, List.set_cons_zero, List.set_cons_succ, i64_w, i32_w]
    rfl
  refine pure_ (i := 6) (N := some 8) (v := ?_) (a' := ?_) #[true, true, true, true, false, true, true, false, false, false, false, false, false, false, false] rfl rfl (by kernel_rfl) (fun _ _ _ h => h) (Or.inl ⟨by rfl, ?_⟩) ?_ ?_
  rotate_left
  · intro w'
    go_simp
    with_reducible rfl
  rotate_left
  · simp only [Act.put, List.setIfInBounds_toArray, List.set_cons_zero, List.set_cons_succ, i64_w, i32_w]
    rfl
  refine pure_ (i := 7) (N := some 9) (v := ?_) (a' := ?_) #[true, true, true, true, false, true, true, true, false, false, false, false, false, false, false] rfl rfl (by kernel_rfl) (fun _ _ _ h => h) (Or.inl ⟨by rfl, ?_⟩) ?_ ?_
  rotate_left
  · intro w'
    go_simp
    with_reducible rfl
  rotate_left
  · simp only [Act.put, List.setIfInBounds_toArray, List.set_cons_zero, List.set_cons_succ, i64_w, i32_w]
    rfl
  refine take_ (i := 4) (N := some 6) (v := ?_) (a' := ?_) #[true, true, true, true, true, true, true, true, false, false, false, false, false, false, false] rfl rfl (by kernel_rfl) (fun _ _ _ h => h) (Or.inl ⟨by rfl, ?_⟩) hHeld ?_ ?_
  rotate_left
  · rintro w' ⟨s0, s1, s2⟩
    go_simp
    with_reducible rfl
  rotate_left
  · simp only [Act.put, List.setIfInBounds_toArray, List.set_cons_zero, List.set_cons_succ, i64_w, i32_w]
    rfl
  refine take_ (i := 8) (N := some 10) (v := ?_) (a' := ?_) #[true, true, true, true, true, true, true, true, true, false, false, false, false, false, false] rfl rfl (by kernel_rfl) (fun _ _ _ h => h) (Or.inl ⟨by rfl, ?_⟩) hHeld ?_ ?_
  rotate_left
  · rintro w' ⟨s0, s1, s2⟩
    go_simp
    with_reducible rfl
  rotate_left
  · simp only [Act.put, List.setIfInBounds_toArray, List.set_cons_zero, List.set_cons_succ, i64_w, i32_w]
    rfl
  refine take_ (i := 9) (N := some 11) (v := ?_) (a' := ?_) #[true, true, true, true, true, true, true, true, true, true, false, false, false, false, false] rfl rfl (by kernel_rfl) (fun _ _ _ h => h) (Or.inl ⟨by rfl, ?_⟩) hHeld ?_ ?_
  rotate_left
  · rintro w' ⟨s0, s1, s2⟩
    go_simp
    with_reducible rfl
  rotate_left
  · simp only [Act.put, List.setIfInBounds_toArray, List.set_cons_zero, List.set_cons_succ, i64_w, i32_w]
    rfl
  refine one_ (i := 10) (N := some 12) #[true, true, true, true, true, true, true, true, true, true, true, false, false, false, false] rfl rfl (by kernel_rfl) (by decide) (fun K hK => ?_)
  refine value_ (w1 := ?_) (v := ?_) (by rfl) rfl ?_ ?_
  rotate_left 2
  · go_simp
    constructor
    · rfl
    · rfl
  refine hK.out _ _ ⟨HD2.1, HD2.2.1, HD2.2.2.2.1⟩ (fun hHeld => ?_)
  clear hK K
  refine norm_ (a' := ?_) ?_ ?_
  rotate_left
  · show Act.put _ (some 12) _ = _
    simp only [Act.put, List.setIfInBounds_toArray, List.set_cons_zero, List.set_cons_succ, i64_w, i32_w]
    rfl
  refine one_ (i := 11) (N := some 13) #[true, true, true, true, true, true, true, true, true, true, true, true, false, false, false] rfl rfl (by kernel_rfl) (by decide) (fun K hK => ?_)
  refine Kd.R_append_step Kd.string (w0 := w0) (W := w.drew) w0.heap.size (by rfl) (.tmp 6) (.tmp 12) 29 9 (.string ⟨#[]⟩) 16 (by rfl) Tryd.underlying29 info9 (by rfl) (by decide) (by omega) v2 words (strOfNums word) [.string (strOfNums word)] (fun _ => True) (fun _ => False) (by rfl) (by rfl) (by rfl) (fun _ hk => hk.elim) (fun _ _ => trivial) (Kd.R_drew H2.out) (below_drew1 HB.out) (below_size (below_drew1 HB.out)) (by have := HL.out; omega) ?_
  intro v2n w1 ho hb hgr hat
  obtain ⟨An, cn, rfl⟩ := Kd.R_slice ho
  have hPS := PushS.grown_ HS H2.out hgr
  have hc2_ := hPS.2.1
  have hf2_ := hPS.2.2.1
  refine hK.out _ _ ⟨hPS.1, hPS.2.1, hPS.2.2.2.1⟩ (fun hHeld => ?_)
  clear hK K
  refine norm_ (a' := ?_) ?_ ?_
  rotate_left
  · show Act.put _ (some 13) _ = _
    simp only [Act.put, List.setIfInBounds_toArray, List.set_cons_zero, List.set_cons_succ, i64_w, i32_w]
    rfl
  refine pure_ (i := 12) (N := some 14) (v := ?_) (a' := ?_) #[true, true, true, true, true, true, true, true, true, true, true, true, true, false, false] rfl rfl (by kernel_rfl) (fun _ _ _ h => h) (Or.inl ⟨by rfl, ?_⟩) ?_ ?_
  rotate_left
  · intro w'
    go_simp
    with_reducible rfl
  rotate_left
  · simp only [Act.put, List.setIfInBounds_toArray, List.set_cons_zero, List.set_cons_succ, i64_w, i32_w]
    rfl
  refine pure_ (i := 13) (N := some 15) (v := ?_) (a' := ?_) #[true, true, true, true, true, true, true, true, true, true, true, true, true, true, false] rfl rfl (by kernel_rfl) (fun _ _ _ h => h) (Or.inl ⟨by rfl, ?_⟩) ?_ ?_
  rotate_left
  · intro w'
    go_simp
    with_reducible rfl
  rotate_left
  · simp only [Act.put, List.setIfInBounds_toArray, List.set_cons_zero, List.set_cons_succ, i64_w, i32_w]
    rfl
  refine last_ (i := 14) (N := none) #[true, true, true, true, true, true, true, true, true, true, true, true, true, true, true] rfl rfl (by kernel_rfl) (by decide) (fun K hK => ?_)
  refine skip_ (w1 := ?_) (by rfl) rfl ?_ ?_
  rotate_left
  · go_simp
    rfl
  refine hK.out _ _ ?_
  clear hK K
  refine done_ (by kernel_rfl) ?_

  have hb1_ := hPS.2.2.2.2.1
  have hc1_ := hPS.1
  have hc0_ : w1.cell? ⟨g, 0, none⟩ = some (.int .i64 s) := blk_cell hb1_ 0
  have hf1_ := blk_frozen hb1_ 1
  have hf0_ := blk_frozen hb1_ 0
  have Hb1 := Aside0.mk hb1_
  have Hw1 := Aside0.mk hPS.2.2.2.2.2
  clear hPS hb1_
  have Hho := Aside0.mk ho
  have Hhb := Aside0.mk hb
  clear ho hb hgr hat HD HD2 HS
  go_wp2
  go_end0
  have e2 := Rdr.set2 (v2 := .slice An (words.length + 1) cn) Hb1.out Hw1.out (by simpa using Hho.out) Hhb.out hg
  have e1 := Rdr.set1 (v1 := .slice none 0 0) e2.1 (Kd.R_nil _ _ _ _ _) e2.2.2.1 e2.2.2.2 hg
  have e0 := Rdr.set0 0 e1.1 e1.2.1 e1.2.2.1 e1.2.2.2 hg
  exact ⟨rfl, ⟨.slice none 0 0, .slice An (words.length + 1) cn, e0.1, e0.2.1, e0.2.2.1, e0.2.2.2, hg⟩⟩

/-! ### words_meaning: function 24 -/
def words_meaning.j0 : Nat → Int → Int → Bool → Option (Int × Bool)
  | 0, _, _, _ => none
  | k + 1, x0, x4, x5 => if x5 = true then (some (x0, true)) else (if x4 = 110 then (some (10, true)) else (if x4 = 114 then (some (13, true)) else (some (0, false))))
def words_meaning.f (k : Nat) (a0 : Int) : Option (Int × Bool) := if a0 = 34 then (words_meaning.j0 k a0 a0 (a0 == 34)) else (words_meaning.j0 k a0 a0 (a0 == 92))
theorem words_meaning.mono_l : ∀ k, (∀ y0 y1 y2, LeO (words_meaning.j0 k y0 y1 y2) (words_meaning.j0 (k + 1) y0 y1 y2))
  | 0 => fun _ _ _ r h => by simp [words_meaning.j0] at h
  | k + 1 => by
    have ih0 := words_meaning.mono_l k
    · intro y0 y1 y2
      unfold words_meaning.j0
      repeat' first
      | (with_reducible exact ih0 _ _ _)
      | (with_reducible exact LeO.refl _)
      | (with_reducible exact LeO.none _)
      | (with_reducible refine LeO.ite ?_ ?_)
      | (with_reducible refine LeO.bind ?_ (fun _ => ?_))
      | exact ih0 _ _ _
      | exact LeO.none _
      | refine LeO.ite ?_ ?_
      | refine LeO.bind ?_ (fun _ => ?_)
theorem words_meaning.mono : ∀ a0 k, LeO (words_meaning.f k a0) (words_meaning.f (k + 1) a0) := by
  intro a0 k
  have ih0 := words_meaning.mono_l k
  unfold words_meaning.f
  repeat' first
      | (with_reducible exact ih0 _ _ _)
      | (with_reducible exact LeO.refl _)
      | (with_reducible exact LeO.none _)
      | (with_reducible refine LeO.ite ?_ ?_)
      | (with_reducible refine LeO.bind ?_ (fun _ => ?_))
      | exact ih0 _ _ _
      | exact LeO.none _
      | refine LeO.ite ?_ ?_
      | refine LeO.bind ?_ (fun _ => ?_)
set_option maxHeartbeats 8000000 in
set_option maxRecDepth 100000 in
theorem words_meaning.calls (k : Nat) (a0 : Int) (r1 : Int) (r2 : Bool) (w : World) (h : words_meaning.f k a0 = some (r1, r2)) :
    Calls Tryd.prog 24 #[.int .u8 a0] w fun e w' => e = .returned (.tuple #[.int .u8 r1, .bool r2]) ∧ Drawn0 w w' := by
  have H : (if a0 = 34 then (words_meaning.j0 k a0 a0 (a0 == 34)) else (words_meaning.j0 k a0 a0 (a0 == 92))) = some (r1, r2) := h
  clear h
  have HC2 := Aside0.mk H
  clear H
  go_enter Tryd.func24, Tryd.ntmps24
  go_upto_if 5 with (fail)
  go_cut [5] (fun v5 wc => ∃ (kq : Nat) (x5_1 : Bool), v5 = .bool x5_1 ∧ Aside0 (words_meaning.j0 kq a0 a0 x5_1 = some (r1, r2)) ∧ Aside0 (kq ≤ k) ∧ Drawn0 w wc)
  case first =>
    have H := HC2.out
    clear HC2
    by_cases c3 : a0 = 34
    · rw [if_pos c3] at H
      have c3b0 : (a0 == 34) = true := beq_iff_eq.mpr c3
      have c3b1 : (a0 != 34) = false := bne_eq_false_iff_eq.mpr c3
      clear c3
      (first | rw [c3b0] | (simp only [i64_w, i32_w]; rw [c3b0]) | skip)
      have H' := Aside0.mk H
      clear H
      go_wp2
      go_meet
      case rel => exact ⟨_, ((a0 == 34)), (by first | rfl | (simp; done) | (simp [*]; done) | (simp [neNil_, eqNil_]; done) | (simp [*, neNil_, eqNil_]; done)), H', ⟨by first | omega | exact Nat.le_refl _⟩, by repeat (first | exact Drawn0.refl _ | apply Drawn0.step)⟩
    · rw [if_neg c3] at H
      have c3b0 : (a0 == 34) = false := beq_eq_false_iff_ne.mpr c3
      have c3b1 : (a0 != 34) = true := bne_iff_ne.mpr c3
      (first | rw [c3b0] | (simp only [i64_w, i32_w]; rw [c3b0]) | skip)
      have H' := Aside0.mk H
      clear H
      go_wp2
      go_meet
      case rel => exact ⟨_, ((a0 == 92)), (by first | rfl | (simp; done) | (simp [*]; done) | (simp [neNil_, eqNil_]; done) | (simp [*, neNil_, eqNil_]; done)), H', ⟨by first | omega | exact Nat.le_refl _⟩, by repeat (first | exact Drawn0.refl _ | apply Drawn0.step)⟩
  case rest =>
    clear HC2
    try clear c2
    try clear p2
    try clear c3
    try clear c3b0
    try clear c3b1
    obtain ⟨kq, x5_1, rfl, HA, HJ1, ⟨mc1, rfl⟩⟩ := hcut
    cases kq with
    | zero => exact absurd HA.out (by simp [words_meaning.j0])
    | succ kj1 =>
      have H := HA.out
      clear HA
      simp only [words_meaning.j0] at H
      by_cases c4 : x5_1 = true
      · subst c4
        have H1 : (some (a0, true)) = some (r1, r2) := by rw [if_pos rfl] at H; exact H
        clear H
        have H := H1
        clear H1
        simp only [Option.some.injEq, Prod.mk.injEq] at H
        obtain ⟨rfl, rfl⟩ := H
        go_wp2
        go_ret2
        exact ⟨by first | rfl | (simp; done) | (simp [*]; done) | (simp [neNil_, eqNil_]; done) | (simp [*, neNil_, eqNil_]; done), by repeat (first | exact Drawn0.refl _ | apply Drawn0.step)⟩
      · replace c4 := Bool.eq_false_iff.mpr c4
        subst c4
        have H1 : (if a0 = 110 then (some (10, true)) else (if a0 = 114 then (some (13, true)) else (some (0, false)))) = some (r1, r2) := by rw [if_neg (show ¬ (false = true) by decide)] at H; exact H
        clear H
        have H := H1
        clear H1
        by_cases c5 : a0 = 110
        · rw [if_pos c5] at H
          have c5b0 : (a0 == 110) = true := beq_iff_eq.mpr c5
          have c5b1 : (a0 != 110) = false := bne_eq_false_iff_eq.mpr c5
          clear c5
          simp only [Option.some.injEq, Prod.mk.injEq] at H
          obtain ⟨rfl, rfl⟩ := H
          go_wp2
          go_ret2
          exact ⟨by first | rfl | (simp; done) | (simp [*]; done) | (simp [neNil_, eqNil_]; done) | (simp [*, neNil_, eqNil_]; done), by repeat (first | exact Drawn0.refl _ | apply Drawn0.step)⟩
        · rw [if_neg c5] at H
          have c5b0 : (a0 == 110) = false := beq_eq_false_iff_ne.mpr c5
          have c5b1 : (a0 != 110) = true := bne_iff_ne.mpr c5
          by_cases c6 : a0 = 114
          · rw [if_pos c6] at H
            have c6b0 : (a0 == 114) = true := beq_iff_eq.mpr c6
            have c6b1 : (a0 != 114) = false := bne_eq_false_iff_eq.mpr c6
            clear c6
            simp only [Option.some.injEq, Prod.mk.injEq] at H
            obtain ⟨rfl, rfl⟩ := H
            go_wp2
            go_ret2
            exact ⟨by first | rfl | (simp; done) | (simp [*]; done) | (simp [neNil_, eqNil_]; done) | (simp [*, neNil_, eqNil_]; done), by repeat (first | exact Drawn0.refl _ | apply Drawn0.step)⟩
          · rw [if_neg c6] at H
            have c6b0 : (a0 == 114) = false := beq_eq_false_iff_ne.mpr c6
            have c6b1 : (a0 != 114) = true := bne_iff_ne.mpr c6
            simp only [Option.some.injEq, Prod.mk.injEq] at H
            obtain ⟨rfl, rfl⟩ := H
            go_wp2
            go_ret2
            exact ⟨by first | rfl | (simp; done) | (simp [*]; done) | (simp [neNil_, eqNil_]; done) | (simp [*, neNil_, eqNil_]; done), by repeat (first | exact Drawn0.refl _ | apply Drawn0.step)⟩

/-! ### words_reader_take: function 19 -/

def wsimple (c : Int) : Bool := decide (32 < c) && decide (c < 127) && (c != 34) && (c != 92)
theorem wsimple_eq (c : Int) : words_simple.f c = some (wsimple c) := by
  unfold words_simple.f wsimple
  by_cases h1 : 32 < c <;> by_cases h2 : c < 127 <;> by_cases h3 : c = 34 <;> simp [h1, h2, h3, gt_iff_lt]
def wmeaning (c : Int) : Int × Bool := if c = 34 then (34, true) else if c = 92 then (92, true) else if c = 110 then (10, true) else if c = 114 then (13, true) else (0, false)
theorem wmeaning_eq (c : Int) : words_meaning.f 1 c = some (wmeaning c) := by
  unfold words_meaning.f wmeaning
  by_cases h1 : c = 34 <;> by_cases h2 : c = 92 <;> by_cases h3 : c = 110 <;> by_cases h4 : c = 114 <;> simp_all [words_meaning.j0]


theorem Rdr.drewN {w0 W : World} {g : Nat} {s : Int} {word : List Int} {words : List ByteArray} (h : Rdr w0 W g s word words) (n : Nat) : Rdr w0 (W.drewN n) g s word words := by
  obtain ⟨v1, v2, hc, h1, h2, hB, hg⟩ := h.out
  exact ⟨v1, v2, blk_drewN hc n, Kd.R_drewN h1 n, Kd.R_drewN h2 n, pw_below_drewN hB n, hg⟩

set_option maxHeartbeats 4000000 in
theorem take_00 (g : Nat) (word : List Int) (words : List ByteArray) (w0 w : World) (hR : Rdr w0 w g 0 word words) :
    Calls Tryd.prog 19 #[.pointer (some ⟨g, 0, none⟩), .int .u8 34] w fun e w' => e = .returned (.bool true) ∧ Rdr w0 w' g 2 word words := by
  obtain ⟨v1, v2, hc, h1, h2, hB, hg⟩ := hR.out
  have E0 := Aside0.mk (Rdr.set0 2 hc h1 h2 hB hg)
  have hc0 : w.cell? ⟨g, 0, none⟩ = some (.int .i64 0) := blk_cell hc 0
  have hf0 := blk_frozen hc 0
  have hc1 : w.cell? ⟨g, 1, none⟩ = some v1 := blk_cell hc 1
  clear hc h1 h2 hB hR
  go_enter Tryd.func19, Tryd.ntmps19
  go_wp2
  go_ret
  exact ⟨rfl, v1, v2, E0.out.1, E0.out.2.1, E0.out.2.2.1, E0.out.2.2.2, hg⟩

set_option maxHeartbeats 4000000 in
theorem take_01 (g : Nat) (c : Int) (word : List Int) (words : List ByteArray) (w0 w : World) (hR : Rdr w0 w g 0 word words) (h34 : c ≠ 34) (hw : word.length < 140737488355328) :
    Calls Tryd.prog 19 #[.pointer (some ⟨g, 0, none⟩), .int .u8 c] w fun e w' => e = .returned (.bool (wsimple c)) ∧ Rdr w0 w' g 1 (word ++ [c]) words := by
  obtain ⟨v1, v2, hc, h1, h2, hB, hg⟩ := hR.out
  have E0 := Aside0.mk (Rdr.set0 1 hc h1 h2 hB hg)
  have hc0 : w.cell? ⟨g, 0, none⟩ = some (.int .i64 0) := blk_cell hc 0
  have hf0 := blk_frozen hc 0
  have hc1 : w.cell? ⟨g, 1, none⟩ = some v1 := blk_cell hc 1
  have k34 : (c == 34) = false := beq_eq_false_iff_ne.mpr h34
  have HW := Aside0.mk hw
  clear hw
  clear hc h1 h2 hB hR
  go_enter Tryd.func19, Tryd.ntmps19
  go_wp2_with (first | ((with_reducible refine gate_builtin (b := .append) (xs := #[.tmp 25, .tmp 27]) rfl ?_); at_builtin; refine Kd.R_append (Kd.int .u8) (w0 := w0) w0.heap.size rfl (.tmp 25) (.tmp 27) 38 5 (.int .u8 0) 1 rfl Tryd.underlying38 info5 rfl (by decide) (by omega) v1 word c [.int .u8 c] (fun _ => True) (fun _ => False) rfl (by first | (go_simp; done) | (go_simp; rfl)) rfl (fun _ hk => hk.elim) (fun _ _ => trivial) E0.out.2.1 E0.out.2.2.2 (below_size E0.out.2.2.2) (by have := HW.out; omega) ?_; intro v1n w1 ho hb hgr hat; obtain ⟨An, cn, rfl⟩ := Kd.R_slice ho; have Hc1 := Aside0.mk (blk_grown E0.out.1 hgr (Kd.R_ne E0.out.2.1 E0.out.1 (by decide))); have Hs := Aside0.mk (Kd.R_over' E0.out.2.2.1 (Kd.R_typed E0.out.2.1) (by decide) hgr); have hc1_ := blk_cell Hc1.out 1; have hf1_ := blk_frozen Hc1.out 1; have hc0_ := blk_cell Hc1.out 0; have hf0_ := blk_frozen Hc1.out 0; have Ho := Aside0.mk ho; have Hb := Aside0.mk hb; clear ho hb hgr hat) | (go_at_call 23; (with_reducible refine (words_simple.calls c (wsimple c) _ (wsimple_eq c)).mono ?_); rintro e w' ⟨rfl, ⟨nd, rfl⟩⟩))
  go_ret
  have e1 := Rdr.set1 (v1 := .slice An (word.length + 1) cn) Hc1.out (by simpa using Ho.out) Hs.out Hb.out hg
  exact ⟨rfl, Rdr.drewN ⟨_, _, e1.1, e1.2.1, e1.2.2.1, e1.2.2.2, hg⟩ nd⟩

set_option maxHeartbeats 4000000 in
theorem take_10 (g : Nat) (word : List Int) (words : List ByteArray) (w0 w : World) (hR : Rdr w0 w g 1 word words) (hl : words.length < 8796093022208) :
    Calls Tryd.prog 19 #[.pointer (some ⟨g, 0, none⟩), .int .u8 32] w fun e w' => e = .returned (.bool true) ∧ Rdr w0 w' g 0 [] (words ++ [strOfNums word]) := by
  obtain ⟨v1, v2, hc, h1, h2, hB, hg⟩ := hR.out
  have E0 := Aside0.mk (And.intro hc (And.intro h1 (And.intro h2 hB)))
  have hc0 : w.cell? ⟨g, 0, none⟩ = some (.int .i64 1) := blk_cell hc 0
  have hf0 := blk_frozen hc 0
  have hc1 : w.cell? ⟨g, 1, none⟩ = some v1 := blk_cell hc 1
  have HL := Aside0.mk hl
  clear hl
  clear hc h1 h2 hB hR
  go_enter Tryd.func19, Tryd.ntmps19
  go_wp2_with (first | (go_at_call 20; (with_reducible refine (push_calls g 1 v1 v2 word words w0 _ E0.out.1 E0.out.2.1 E0.out.2.2.1 E0.out.2.2.2 hg HL.out).mono ?_); rintro e w' ⟨rfl, HP⟩))
  go_ret
  exact ⟨rfl, HP⟩

set_option maxHeartbeats 4000000 in
theorem take_40 (g : Nat) (word : List Int) (words : List ByteArray) (w0 w : World) (hR : Rdr w0 w g 4 word words) (hl : words.length < 8796093022208) :
    Calls Tryd.prog 19 #[.pointer (some ⟨g, 0, none⟩), .int .u8 32] w fun e w' => e = .returned (.bool true) ∧ Rdr w0 w' g 0 [] (words ++ [strOfNums word]) := by
  obtain ⟨v1, v2, hc, h1, h2, hB, hg⟩ := hR.out
  have E0 := Aside0.mk (And.intro hc (And.intro h1 (And.intro h2 hB)))
  have hc0 : w.cell? ⟨g, 0, none⟩ = some (.int .i64 4) := blk_cell hc 0
  have hf0 := blk_frozen hc 0
  have hc1 : w.cell? ⟨g, 1, none⟩ = some v1 := blk_cell hc 1
  have HL := Aside0.mk hl
  clear hl
  clear hc h1 h2 hB hR
  go_enter Tryd.func19, Tryd.ntmps19
  go_wp2_with (first | (go_at_call 20; (with_reducible refine (push_calls g 4 v1 v2 word words w0 _ E0.out.1 E0.out.2.1 E0.out.2.2.1 E0.out.2.2.2 hg HL.out).mono ?_); rintro e w' ⟨rfl, HP⟩))
  go_ret
  exact ⟨rfl, HP⟩

set_option maxHeartbeats 4000000 in
theorem take_11 (g : Nat) (c : Int) (word : List Int) (words : List ByteArray) (w0 w : World) (hR : Rdr w0 w g 1 word words) (h32 : c ≠ 32) (hw : word.length < 140737488355328) :
    Calls Tryd.prog 19 #[.pointer (some ⟨g, 0, none⟩), .int .u8 c] w fun e w' => e = .returned (.bool (wsimple c)) ∧ Rdr w0 w' g 1 (word ++ [c]) words := by
  obtain ⟨v1, v2, hc, h1, h2, hB, hg⟩ := hR.out
  have E0 := Aside0.mk (And.intro hc (And.intro h1 (And.intro h2 hB)))
  have hc0 : w.cell? ⟨g, 0, none⟩ = some (.int .i64 1) := blk_cell hc 0
  have hf0 := blk_frozen hc 0
  have hc1 : w.cell? ⟨g, 1, none⟩ = some v1 := blk_cell hc 1
  have k32 : (c == 32) = false := beq_eq_false_iff_ne.mpr h32
  have HW := Aside0.mk hw
  clear hw
  clear hc h1 h2 hB hR
  go_enter Tryd.func19, Tryd.ntmps19
  go_wp2_with (first | ((with_reducible refine gate_builtin (b := .append) (xs := #[.tmp 44, .tmp 46]) rfl ?_); at_builtin; refine Kd.R_append (Kd.int .u8) (w0 := w0) w0.heap.size rfl (.tmp 44) (.tmp 46) 38 5 (.int .u8 0) 1 rfl Tryd.underlying38 info5 rfl (by decide) (by omega) v1 word c [.int .u8 c] (fun _ => True) (fun _ => False) rfl (by first | (go_simp; done) | (go_simp; rfl)) rfl (fun _ hk => hk.elim) (fun _ _ => trivial) E0.out.2.1 E0.out.2.2.2 (below_size E0.out.2.2.2) (by have := HW.out; omega) ?_; intro v1n w1 ho hb hgr hat; obtain ⟨An, cn, rfl⟩ := Kd.R_slice ho; have Hc1 := Aside0.mk (blk_grown E0.out.1 hgr (Kd.R_ne E0.out.2.1 E0.out.1 (by decide))); have Hs := Aside0.mk (Kd.R_over' E0.out.2.2.1 (Kd.R_typed E0.out.2.1) (by decide) hgr); have hc1_ := blk_cell Hc1.out 1; have hf1_ := blk_frozen Hc1.out 1; have hc0_ := blk_cell Hc1.out 0; have hf0_ := blk_frozen Hc1.out 0; have Ho := Aside0.mk ho; have Hb := Aside0.mk hb; clear ho hb hgr hat) | (go_at_call 23; (with_reducible refine (words_simple.calls c (wsimple c) _ (wsimple_eq c)).mono ?_); rintro e w' ⟨rfl, ⟨nd, rfl⟩⟩))
  go_ret
  have e1 := Rdr.set1 (v1 := .slice An (word.length + 1) cn) Hc1.out (by simpa using Ho.out) Hs.out Hb.out hg
  exact ⟨rfl, Rdr.drewN ⟨_, _, e1.1, e1.2.1, e1.2.2.1, e1.2.2.2, hg⟩ nd⟩

set_option maxHeartbeats 4000000 in
theorem take_41 (g : Nat) (c : Int) (word : List Int) (words : List ByteArray) (w0 w : World) (hR : Rdr w0 w g 4 word words) (h32 : c ≠ 32) (hw : word.length < 140737488355328) :
    Calls Tryd.prog 19 #[.pointer (some ⟨g, 0, none⟩), .int .u8 c] w fun e w' => e = .returned (.bool false) ∧ Rdr w0 w' g 4 (word ++ [c]) words := by
  obtain ⟨v1, v2, hc, h1, h2, hB, hg⟩ := hR.out
  have E0 := Aside0.mk (And.intro hc (And.intro h1 (And.intro h2 hB)))
  have hc0 : w.cell? ⟨g, 0, none⟩ = some (.int .i64 4) := blk_cell hc 0
  have hf0 := blk_frozen hc 0
  have hc1 : w.cell? ⟨g, 1, none⟩ = some v1 := blk_cell hc 1
  have k32 : (c == 32) = false := beq_eq_false_iff_ne.mpr h32
  have HW := Aside0.mk hw
  clear hw
  clear hc h1 h2 hB hR
  go_enter Tryd.func19, Tryd.ntmps19
  go_wp2_with (first | ((with_reducible refine gate_builtin (b := .append) (xs := #[.tmp 44, .tmp 46]) rfl ?_); at_builtin; refine Kd.R_append (Kd.int .u8) (w0 := w0) w0.heap.size rfl (.tmp 44) (.tmp 46) 38 5 (.int .u8 0) 1 rfl Tryd.underlying38 info5 rfl (by decide) (by omega) v1 word c [.int .u8 c] (fun _ => True) (fun _ => False) rfl (by first | (go_simp; done) | (go_simp; rfl)) rfl (fun _ hk => hk.elim) (fun _ _ => trivial) E0.out.2.1 E0.out.2.2.2 (below_size E0.out.2.2.2) (by have := HW.out; omega) ?_; intro v1n w1 ho hb hgr hat; obtain ⟨An, cn, rfl⟩ := Kd.R_slice ho; have Hc1 := Aside0.mk (blk_grown E0.out.1 hgr (Kd.R_ne E0.out.2.1 E0.out.1 (by decide))); have Hs := Aside0.mk (Kd.R_over' E0.out.2.2.1 (Kd.R_typed E0.out.2.1) (by decide) hgr); have hc1_ := blk_cell Hc1.out 1; have hf1_ := blk_frozen Hc1.out 1; have hc0_ := blk_cell Hc1.out 0; have hf0_ := blk_frozen Hc1.out 0; have Ho := Aside0.mk ho; have Hb := Aside0.mk hb; clear ho hb hgr hat))
  go_ret
  have e1 := Rdr.set1 (v1 := .slice An (word.length + 1) cn) Hc1.out (by simpa using Ho.out) Hs.out Hb.out hg
  exact ⟨rfl, _, _, e1.1, e1.2.1, e1.2.2.1, e1.2.2.2, hg⟩

set_option maxHeartbeats 4000000 in
theorem take_20 (g : Nat) (word : List Int) (words : List ByteArray) (w0 w : World) (hR : Rdr w0 w g 2 word words) :
    Calls Tryd.prog 19 #[.pointer (some ⟨g, 0, none⟩), .int .u8 34] w fun e w' => e = .returned (.bool true) ∧ Rdr w0 w' g 4 word words := by
  obtain ⟨v1, v2, hc, h1, h2, hB, hg⟩ := hR.out
  have E0 := Aside0.mk (Rdr.set0 4 hc h1 h2 hB hg)
  have hc0 : w.cell? ⟨g, 0, none⟩ = some (.int .i64 2) := blk_cell hc 0
  have hf0 := blk_frozen hc 0
  have hc1 : w.cell? ⟨g, 1, none⟩ = some v1 := blk_cell hc 1
  clear hc h1 h2 hB hR
  go_enter Tryd.func19, Tryd.ntmps19
  go_wp2
  go_ret
  exact ⟨rfl, v1, v2, E0.out.1, E0.out.2.1, E0.out.2.2.1, E0.out.2.2.2, hg⟩

set_option maxHeartbeats 4000000 in
theorem take_21 (g : Nat) (word : List Int) (words : List ByteArray) (w0 w : World) (hR : Rdr w0 w g 2 word words) :
    Calls Tryd.prog 19 #[.pointer (some ⟨g, 0, none⟩), .int .u8 92] w fun e w' => e = .returned (.bool true) ∧ Rdr w0 w' g 3 word words := by
  obtain ⟨v1, v2, hc, h1, h2, hB, hg⟩ := hR.out
  have E0 := Aside0.mk (Rdr.set0 3 hc h1 h2 hB hg)
  have hc0 : w.cell? ⟨g, 0, none⟩ = some (.int .i64 2) := blk_cell hc 0
  have hf0 := blk_frozen hc 0
  have hc1 : w.cell? ⟨g, 1, none⟩ = some v1 := blk_cell hc 1
  clear hc h1 h2 hB hR
  go_enter Tryd.func19, Tryd.ntmps19
  go_wp2
  go_ret
  exact ⟨rfl, v1, v2, E0.out.1, E0.out.2.1, E0.out.2.2.1, E0.out.2.2.2, hg⟩

set_option maxHeartbeats 4000000 in
theorem take_22 (g : Nat) (word : List Int) (words : List ByteArray) (w0 w : World) (hR : Rdr w0 w g 2 word words) :
    Calls Tryd.prog 19 #[.pointer (some ⟨g, 0, none⟩), .int .u8 10] w fun e w' => e = .returned (.bool false) ∧ Rdr w0 w' g 2 word words := by
  obtain ⟨v1, v2, hc, h1, h2, hB, hg⟩ := hR.out
  have E0 := Aside0.mk (And.intro hc (And.intro h1 (And.intro h2 hB)))
  have hc0 : w.cell? ⟨g, 0, none⟩ = some (.int .i64 2) := blk_cell hc 0
  have hf0 := blk_frozen hc 0
  have hc1 : w.cell? ⟨g, 1, none⟩ = some v1 := blk_cell hc 1
  clear hc h1 h2 hB hR
  go_enter Tryd.func19, Tryd.ntmps19
  go_wp2
  go_ret
  exact ⟨rfl, v1, v2, E0.out.1, E0.out.2.1, E0.out.2.2.1, E0.out.2.2.2, hg⟩

set_option maxHeartbeats 4000000 in
theorem take_23 (g : Nat) (word : List Int) (words : List ByteArray) (w0 w : World) (hR : Rdr w0 w g 2 word words) :
    Calls Tryd.prog 19 #[.pointer (some ⟨g, 0, none⟩), .int .u8 13] w fun e w' => e = .returned (.bool false) ∧ Rdr w0 w' g 2 word words := by
  obtain ⟨v1, v2, hc, h1, h2, hB, hg⟩ := hR.out
  have E0 := Aside0.mk (And.intro hc (And.intro h1 (And.intro h2 hB)))
  have hc0 : w.cell? ⟨g, 0, none⟩ = some (.int .i64 2) := blk_cell hc 0
  have hf0 := blk_frozen hc 0
  have hc1 : w.cell? ⟨g, 1, none⟩ = some v1 := blk_cell hc 1
  clear hc h1 h2 hB hR
  go_enter Tryd.func19, Tryd.ntmps19
  go_wp2
  go_ret
  exact ⟨rfl, v1, v2, E0.out.1, E0.out.2.1, E0.out.2.2.1, E0.out.2.2.2, hg⟩

set_option maxHeartbeats 4000000 in
theorem take_24 (g : Nat) (c : Int) (word : List Int) (words : List ByteArray) (w0 w : World) (hR : Rdr w0 w g 2 word words) (h34 : c ≠ 34) (h92 : c ≠ 92) (h10 : c ≠ 10) (h13 : c ≠ 13) (hw : word.length < 140737488355328) :
    Calls Tryd.prog 19 #[.pointer (some ⟨g, 0, none⟩), .int .u8 c] w fun e w' => e = .returned (.bool true) ∧ Rdr w0 w' g 2 (word ++ [c]) words := by
  obtain ⟨v1, v2, hc, h1, h2, hB, hg⟩ := hR.out
  have E0 := Aside0.mk (And.intro hc (And.intro h1 (And.intro h2 hB)))
  have hc0 : w.cell? ⟨g, 0, none⟩ = some (.int .i64 2) := blk_cell hc 0
  have hf0 := blk_frozen hc 0
  have hc1 : w.cell? ⟨g, 1, none⟩ = some v1 := blk_cell hc 1
  have k34 : (c == 34) = false := beq_eq_false_iff_ne.mpr h34
  have k92 : (c == 92) = false := beq_eq_false_iff_ne.mpr h92
  have k10 : (c == 10) = false := beq_eq_false_iff_ne.mpr h10
  have k13 : (c == 13) = false := beq_eq_false_iff_ne.mpr h13
  have HW := Aside0.mk hw
  clear hw
  clear hc h1 h2 hB hR
  go_enter Tryd.func19, Tryd.ntmps19
  go_wp2_with (first | ((with_reducible refine gate_builtin (b := .append) (xs := #[.tmp 66, .tmp 68]) rfl ?_); at_builtin; refine Kd.R_append (Kd.int .u8) (w0 := w0) w0.heap.size rfl (.tmp 66) (.tmp 68) 38 5 (.int .u8 0) 1 rfl Tryd.underlying38 info5 rfl (by decide) (by omega) v1 word c [.int .u8 c] (fun _ => True) (fun _ => False) rfl (by first | (go_simp; done) | (go_simp; rfl)) rfl (fun _ hk => hk.elim) (fun _ _ => trivial) E0.out.2.1 E0.out.2.2.2 (below_size E0.out.2.2.2) (by have := HW.out; omega) ?_; intro v1n w1 ho hb hgr hat; obtain ⟨An, cn, rfl⟩ := Kd.R_slice ho; have Hc1 := Aside0.mk (blk_grown E0.out.1 hgr (Kd.R_ne E0.out.2.1 E0.out.1 (by decide))); have Hs := Aside0.mk (Kd.R_over' E0.out.2.2.1 (Kd.R_typed E0.out.2.1) (by decide) hgr); have hc1_ := blk_cell Hc1.out 1; have hf1_ := blk_frozen Hc1.out 1; have hc0_ := blk_cell Hc1.out 0; have hf0_ := blk_frozen Hc1.out 0; have Ho := Aside0.mk ho; have Hb := Aside0.mk hb; clear ho hb hgr hat))
  go_ret
  have e1 := Rdr.set1 (v1 := .slice An (word.length + 1) cn) Hc1.out (by simpa using Ho.out) Hs.out Hb.out hg
  exact ⟨rfl, _, _, e1.1, e1.2.1, e1.2.2.1, e1.2.2.2, hg⟩

set_option maxHeartbeats 4000000 in
theorem take_30 (g : Nat) (c : Int) (word : List Int) (words : List ByteArray) (w0 w : World) (hR : Rdr w0 w g 3 word words) (hw : word.length < 140737488355328) :
    Calls Tryd.prog 19 #[.pointer (some ⟨g, 0, none⟩), .int .u8 c] w fun e w' => e = .returned (.bool (wmeaning c).2) ∧ Rdr w0 w' g 2 (word ++ [(wmeaning c).1]) words := by
  obtain ⟨v1, v2, hc, h1, h2, hB, hg⟩ := hR.out
  have E0 := Aside0.mk (And.intro hc (And.intro h1 (And.intro h2 hB)))
  have hc0 : w.cell? ⟨g, 0, none⟩ = some (.int .i64 3) := blk_cell hc 0
  have hf0 := blk_frozen hc 0
  have hc1 : w.cell? ⟨g, 1, none⟩ = some v1 := blk_cell hc 1
  have HW := Aside0.mk hw
  clear hw
  clear hc h1 h2 hB hR
  go_enter Tryd.func19, Tryd.ntmps19
  go_wp2_with (first | ((with_reducible refine gate_builtin (b := .append) (xs := #[.tmp 97, .tmp 99]) rfl ?_); at_builtin; refine Kd.R_append (Kd.int .u8) (w0 := w0) w0.heap.size rfl (.tmp 97) (.tmp 99) 38 5 (.int .u8 0) 1 rfl Tryd.underlying38 info5 rfl (by decide) (by omega) v1 word (wmeaning c).1 [.int .u8 (wmeaning c).1] (fun _ => True) (fun _ => False) rfl (by first | (go_simp; done) | (go_simp; rfl)) rfl (fun _ hk => hk.elim) (fun _ _ => trivial) F0.out.2.1 F0.out.2.2.2 (below_size F0.out.2.2.2) (by have := HW.out; omega) ?_; intro v1n w1 ho hb hgr hat; obtain ⟨An, cn, rfl⟩ := Kd.R_slice ho; have Hc1 := Aside0.mk (blk_grown F0.out.1 hgr (Kd.R_ne F0.out.2.1 F0.out.1 (by decide))); have Hs := Aside0.mk (Kd.R_over' F0.out.2.2.1 (Kd.R_typed F0.out.2.1) (by decide) hgr); have hc1_ := blk_cell Hc1.out 1; have hf1_ := blk_frozen Hc1.out 1; have hc0_ := blk_cell Hc1.out 0; have hf0_ := blk_frozen Hc1.out 0; have Ho := Aside0.mk ho; have Hb := Aside0.mk hb; clear ho hb hgr hat) | (go_at_call 24; (with_reducible refine (words_meaning.calls 1 c (wmeaning c).1 (wmeaning c).2 _ (wmeaning_eq c)).mono ?_); rintro e w' ⟨rfl, ⟨nd, rfl⟩⟩; have F0 := Aside0.mk (Rdr.set0 2 (blk_drewN E0.out.1 nd) (Kd.R_drewN E0.out.2.1 nd) (Kd.R_drewN E0.out.2.2.1 nd) (pw_below_drewN E0.out.2.2.2 nd) hg)))
  go_ret
  have e1 := Rdr.set1 (v1 := .slice An (word.length + 1) cn) Hc1.out (by simpa using Ho.out) Hs.out Hb.out hg
  exact ⟨rfl, _, _, e1.1, e1.2.1, e1.2.2.1, e1.2.2.2, hg⟩

/-- What a byte does to a reader: is it right; the state, the word, the words behind it. -/
def wtake (s : Int) (word : List Int) (words : List ByteArray) (c : Int) : Bool × Int × List Int × List ByteArray :=
  if s = 0 then (if c = 34 then (true, 2, word, words) else (wsimple c, 1, word ++ [c], words))
  else if s = 1 then (if c = 32 then (true, 0, [], words ++ [strOfNums word]) else (wsimple c, 1, word ++ [c], words))
  else if s = 4 then (if c = 32 then (true, 0, [], words ++ [strOfNums word]) else (false, 4, word ++ [c], words))
  else if s = 2 then (if c = 34 then (true, 4, word, words) else if c = 92 then (true, 3, word, words) else if c = 10 then (false, 2, word, words) else if c = 13 then (false, 2, word, words) else (true, 2, word ++ [c], words))
  else ((wmeaning c).2, 2, word ++ [(wmeaning c).1], words)

theorem take_calls (g : Nat) (s c : Int) (word : List Int) (words : List ByteArray) (w0 w : World) (hs : 0 ≤ s ∧ s ≤ 4) (hR : Rdr w0 w g s word words) (hl : words.length < 8796093022208) (hw : word.length < 140737488355328) :
    Calls Tryd.prog 19 #[.pointer (some ⟨g, 0, none⟩), .int .u8 c] w fun e w' => e = .returned (.bool (wtake s word words c).1) ∧ Rdr w0 w' g (wtake s word words c).2.1 (wtake s word words c).2.2.1 (wtake s word words c).2.2.2 := by
  have h5 : s = 0 ∨ s = 1 ∨ s = 2 ∨ s = 3 ∨ s = 4 := by omega
  rcases h5 with rfl | rfl | rfl | rfl | rfl
  · by_cases h : c = 34
    · subst h; exact take_00 g word words w0 w hR
    · simpa [wtake, h] using take_01 g c word words w0 w hR h hw
  · by_cases h : c = 32
    · subst h; simpa [wtake] using take_10 g word words w0 w hR hl
    · simpa [wtake, h] using take_11 g c word words w0 w hR h hw
  · by_cases h : c = 34
    · subst h; simpa [wtake] using take_20 g word words w0 w hR
    by_cases h2 : c = 92
    · subst h2; simpa [wtake] using take_21 g word words w0 w hR
    by_cases h3 : c = 10
    · subst h3; simpa [wtake] using take_22 g word words w0 w hR
    by_cases h4 : c = 13
    · subst h4; simpa [wtake] using take_23 g word words w0 w hR
    · simpa [wtake, h, h2, h3, h4] using take_24 g c word words w0 w hR h h2 h3 h4 hw
  · simpa [wtake] using take_30 g c word words w0 w hR hw
  · by_cases h : c = 32
    · subst h; simpa [wtake] using take_40 g word words w0 w hR hl
    · simpa [wtake, h] using take_41 g c word words w0 w hR h hw

theorem wtake_range (s c : Int) (word : List Int) (words : List ByteArray) : 0 ≤ (wtake s word words c).2.1 ∧ (wtake s word words c).2.1 ≤ 4 := by
  unfold wtake
  repeat' split
  all_goals simp
theorem wtake_len (s c : Int) (word : List Int) (words : List ByteArray) : (wtake s word words c).2.2.1.length ≤ word.length + 1 ∧ (wtake s word words c).2.2.2.length ≤ words.length + 1 := by
  unfold wtake
  repeat' split
  all_goals simp


/-! ### words_Split: function 14 -/
/-- What the reader makes of the bytes that are left. -/
def wsplit : List Int → Int → List Int → List ByteArray → List ByteArray × Int
  | [], s, word, words => if s = 1 ∨ s = 4 then (if 64 < (words ++ [strOfNums word]).length then ([], 3) else (words ++ [strOfNums word], 0)) else ([], 5)
  | c :: cs, s, word, words => if (wtake s word words c).1 = true then wsplit cs (wtake s word words c).2.1 (wtake s word words c).2.2.1 (wtake s word words c).2.2.2 else ([], 5)
def words_Split.p (a0 : ByteArray) : List ByteArray × Int :=
  if 4096 < a0.size then ([], 3) else if a0.size = 0 then ([], 0) else wsplit (bytesOf a0) 0 [] []
def words_Split.f (a0 : ByteArray) : Option (List ByteArray × Int) := some (words_Split.p a0)

/-- Where Split's loop stands. -/
def SpInv (a0 : ByteArray) (r1 : List ByteArray) (r2 : Int) (w wr : World) (k : Nat) : Prop :=
  ∃ s word words, (0 ≤ s ∧ s ≤ 4) ∧ word.length ≤ k ∧ words.length ≤ k ∧ Rdr w wr w.heap.size s word words ∧ wsplit ((bytesOf a0).drop k) s word words = (r1, r2)

theorem bytes_drop (a0 : ByteArray) (k : Nat) (h : k < a0.size) : (bytesOf a0).drop k = bt a0 (k : Int) :: (bytesOf a0).drop (k + 1) := by
  have hl : k < (bytesOf a0).length := by rw [bytesOf_length]; exact h
  rw [List.drop_eq_getElem_cons hl]
  congr 1
  rw [← rd_bytesOf]
  simp [rd, List.getD_eq_getElem?_getD, List.getElem?_eq_getElem hl]

theorem Rdr.start (w : World) : Rdr w (w.alloc (.cells #[.int .i64 0, .slice none 0 0, .slice none 0 0] 43)) w.heap.size 0 [] [] :=
  ⟨_, _, blk_new w _, Kd.R_nil _ _ _ _ _, Kd.R_nil _ _ _ _ _, below_alloc (Below.refl _ _) _, Nat.le_refl _⟩

set_option maxHeartbeats 8000000 in
set_option maxRecDepth 100000 in
theorem words_Split.calls (a0 : ByteArray) (r1 : List ByteArray) (r2 : Int) (w : World) (h : words_Split.f a0 = some (r1, r2)) :
    Calls Tryd.prog 14 #[.string a0] w fun e w' => ∃ v0_ : Value, e = .returned (.tuple #[v0_, .int .i64 r2]) ∧ Kd.R Kd.string 9 w' w.heap.size (fun _ => True) v0_ r1 ∧ Below w.heap.size w w' := by
  have h1 : words_Split.p a0 = (r1, r2) := Option.some.inj h
  clear h
  unfold words_Split.p at h1
  by_cases hbig : 4096 < a0.size
  · rw [if_pos hbig] at h1
    injection h1 with e1 e2
    subst e1; subst e2
    have k1 : decide (4096 < (a0.size : Int)) = true := decide_eq_true (by omega)
    have k2 : decide (4096 < a0.size) = true := decide_eq_true hbig
    clear hbig
    go_enter Tryd.func14, Tryd.ntmps14
    go_wp2
    go_ret2
    exact ⟨_, rfl, Kd.R_nil _ _ _ _ _, Below.refl _ _⟩
  rw [if_neg hbig] at h1
  have k1 : decide (4096 < (a0.size : Int)) = false := decide_eq_false (by omega)
  have k2 : decide (4096 < a0.size) = false := decide_eq_false hbig
  by_cases h0 : a0.size = 0
  · rw [if_pos h0] at h1
    injection h1 with e1 e2
    subst e1; subst e2
    have hz : a0.toList = [] := by
      have : a0.toList.length = 0 := by rw [ByteArray.toList_eq]; simpa using h0
      exact List.eq_nil_of_length_eq_zero this
    have z1 : (a0.toList == ([] : List UInt8)) = true := beq_iff_eq.mpr hz
    have z2 : a0.toList.isEmpty = true := by rw [hz]; rfl
    clear h0 hbig hz
    go_enter Tryd.func14, Tryd.ntmps14
    go_wp2
    go_ret2
    exact ⟨_, rfl, Kd.R_nil _ _ _ _ _, Below.refl _ _⟩
  rw [if_neg h0] at h1
  have z3 : ¬ a0.toList = [] := by
    intro hz
    have : a0.toList.length = 0 := by rw [hz]; rfl
    rw [ByteArray.toList_eq] at this
    exact h0 (by simpa using this)
  have z1 : (a0.toList == ([] : List UInt8)) = false := beq_eq_false_iff_ne.mpr z3
  have z2 : a0.toList.isEmpty = false := by
    cases hh : a0.toList with
    | nil => exact absurd hh z3
    | cons _ _ => rfl
  have hsz : a0.size ≤ 4096 := by omega
  have HI : SpInv a0 r1 r2 w (w.alloc (.cells #[.int .i64 0, .slice none 0 0, .slice none 0 0] 43)) 0 :=
    ⟨0, [], [], ⟨by decide, by decide⟩, by simp, by simp, Rdr.start w, by simpa using h1⟩
  have hu39 := Tryd.underlying43
  clear h1 h0 hbig z3
  go_enter Tryd.func14, Tryd.ntmps14
  go_wp2
  go_loopw [15] (fun i wr => ∃ k : Nat, k ≤ a0.size ∧ i = .int .i64 k ∧ SpInv a0 r1 r2 w wr k) (fun i _ => a0.size - (intOf i).toNat)
  case atStart => exact ⟨0, Nat.zero_le _, rfl, HI⟩
  case round =>
    clear HI
    obtain ⟨k, hk, rfl, s, word, words, hs, hw1, hw2, hR, hsp⟩ := hrel
    by_cases hlt : k < a0.size
    · rw [bytes_drop a0 k hlt] at hsp
      have kl : decide ((k : Int) < (a0.size : Int)) = true := decide_eq_true (by omega)
      have kl2 : decide (k < a0.size) = true := decide_eq_true hlt
      have p7 : 0 ≤ (k : Int) := by omega
      have q7 : (k : Int) < (a0.size : Int) := by omega
      have hx7 : ∀ h : k < a0.size, ((a0[k]'h).toNat : Int) = bt a0 (k : Int) := fun h => bt_at a0 (k : Int) h
      have hrg := Aside0.mk (wtake_range s (bt a0 k) word words)
      have hln := Aside0.mk (wtake_len s (bt a0 k) word words)
      have HR := Aside0.mk hR
      have HW1 := Aside0.mk (show word.length ≤ 4096 by omega)
      have HW2 := Aside0.mk (show words.length ≤ 4096 by omega)
      have HK1 := Aside0.mk hw1
      have HK2 := Aside0.mk hw2
      have HK := Aside0.mk hk
      have HL := Aside0.mk hlt
      clear hR hw1 hw2 hk
      replace p7 := eq_true p7
      replace q7 := eq_true q7
      by_cases htk : (wtake s word words (bt a0 k)).1 = true
      · have HS := Aside0.mk (show wsplit _ _ _ _ = (r1, r2) by unfold wsplit at hsp; rw [if_pos htk] at hsp; exact hsp)
        clear hsp
        go_wp2_with (first | (go_at_call 19; (with_reducible refine (take_calls w.heap.size s (bt a0 k) word words w _ hs HR.out (by have := HW2.out; omega) (by have := HW1.out; omega)).mono ?_); rintro e w1 ⟨rfl, HP⟩; have HP' := Aside0.mk HP; clear HP))
        go_roundw
        case measure => have := HL.out; simp [intOf]; omega
        case rel => exact ⟨k + 1, by have := HL.out; omega, by go_num, _, _, _, hrg.out, by have := hln.out.1; have := HK1.out; omega, by have := hln.out.2; have := HK2.out; omega, HP'.out, HS.out⟩
      · have hs2 : (([] : List ByteArray), (5 : Int)) = (r1, r2) := by unfold wsplit at hsp; rw [if_neg htk] at hsp; exact hsp
        replace htk := Bool.eq_false_iff.mpr htk
        injection hs2 with e1 e2
        subst e1; subst e2
        clear hsp
        go_wp2_with (first | (go_at_call 19; (with_reducible refine (take_calls w.heap.size s (bt a0 k) word words w _ hs HR.out (by have := HW2.out; omega) (by have := HW1.out; omega)).mono ?_); rintro e w1 ⟨rfl, HP⟩; have HP' := Aside0.mk HP; clear HP))
        go_ret2
        obtain ⟨_, _, _, _, _, hB, _⟩ := HP'.out.out
        exact ⟨_, rfl, Kd.R_nil _ _ _ _ _, hB⟩
    · obtain rfl : k = a0.size := by omega
      have kl : decide ((a0.size : Int) < (a0.size : Int)) = false := decide_eq_false (by omega)
      rw [List.drop_eq_nil_of_le (by rw [bytesOf_length]; omega)] at hsp
      unfold wsplit at hsp
      obtain ⟨v1, v2, hc, h1, h2, hB, hg⟩ := hR.out
      have hc0 : wr.cell? ⟨w.heap.size, 0, none⟩ = some (.int .i64 s) := blk_cell hc 0
      have Hc := Aside0.mk hc
      have H1 := Aside0.mk h1
      have H2 := Aside0.mk h2
      have HB := Aside0.mk hB
      have HL := Aside0.mk (show words.length < 8796093022208 by omega)
      obtain ⟨ws, hws⟩ : ∃ ws, ws = words ++ [strOfNums word] := ⟨_, rfl⟩
      rw [← hws] at hsp
      have HWS := Aside0.mk hws
      clear hws hc h1 h2 hB hR hw1 hw2 hk hlt
      have hs5 : s = 1 ∨ s = 4 ∨ (s ≠ 1 ∧ s ≠ 4) := by omega
      by_cases hgood : s = 1 ∨ s = 4
      · rw [if_pos hgood] at hsp
        clear hs5
        by_cases h64 : 64 < ws.length
        · rw [if_pos h64] at hsp
          injection hsp with e1 e2
          subst e1; subst e2
          have m1 : decide (64 < (ws.length : Int)) = true := decide_eq_true (by omega)
          have m2 : decide (64 < ws.length) = true := decide_eq_true h64
          clear h64
          rcases hgood with rfl | rfl
          all_goals
            go_wp2_with (first | (go_at_call 20; (with_reducible refine (push_calls w.heap.size _ v1 v2 word words w _ Hc.out H1.out H2.out HB.out (Nat.le_refl _) HL.out).mono ?_); rintro e w1 ⟨rfl, HP⟩; rw [← HWS.out] at HP; obtain ⟨u1, u2, hc', h1', h2', hB', _⟩ := HP.out; clear HP; obtain ⟨A2, c2, rfl⟩ := Kd.R_slice h2'; have hcell2 : w1.cell? ⟨w.heap.size, 2, none⟩ = some (.slice A2 ws.length c2) := blk_cell hc' 2; have H2' := Aside0.mk h2'; have HB' := Aside0.mk hB'; clear hc' h1' h2' hB'))
            go_ret2
            exact ⟨_, rfl, Kd.R_nil _ _ _ _ _, HB'.out⟩
        · rw [if_neg h64] at hsp
          injection hsp with e1 e2
          subst e1; subst e2
          have m1 : decide (64 < (ws.length : Int)) = false := decide_eq_false (by omega)
          have m2 : decide (64 < ws.length) = false := decide_eq_false h64
          clear h64
          rcases hgood with rfl | rfl
          all_goals
            go_wp2_with (first | (go_at_call 20; (with_reducible refine (push_calls w.heap.size _ v1 v2 word words w _ Hc.out H1.out H2.out HB.out (Nat.le_refl _) HL.out).mono ?_); rintro e w1 ⟨rfl, HP⟩; rw [← HWS.out] at HP; obtain ⟨u1, u2, hc', h1', h2', hB', _⟩ := HP.out; clear HP; obtain ⟨A2, c2, rfl⟩ := Kd.R_slice h2'; have hcell2 : w1.cell? ⟨w.heap.size, 2, none⟩ = some (.slice A2 ws.length c2) := blk_cell hc' 2; have H2' := Aside0.mk h2'; have HB' := Aside0.mk hB'; clear hc' h1' h2' hB'))
            go_ret2
            exact ⟨_, rfl, H2'.out, HB'.out⟩
      · rw [if_neg hgood] at hsp
        injection hsp with e1 e2
        subst e1; subst e2
        have n1 : s ≠ 1 := fun h => hgood (.inl h)
        have n4 : s ≠ 4 := fun h => hgood (.inr h)
        have q1 : (s == 1) = false := beq_eq_false_iff_ne.mpr n1
        have q4 : (s == 4) = false := beq_eq_false_iff_ne.mpr n4
        have q1' : (s != 1) = true := bne_iff_ne.mpr n1
        have q4' : (s != 4) = true := bne_iff_ne.mpr n4
        clear hgood hs5 n1 n4
        go_wp2
        go_ret2
        exact ⟨_, rfl, Kd.R_nil _ _ _ _ _, HB.out⟩

end Go.Proofs.YtlbmnajmjaalfaaDoor.P
