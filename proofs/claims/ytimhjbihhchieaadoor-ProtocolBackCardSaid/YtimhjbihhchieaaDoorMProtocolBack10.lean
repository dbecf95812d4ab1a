/- Texts of this claim, one after the other: the calculus V and the functions' contracts. Conditions: as each states. -/
import Derived.Test.YtimhjbihhchieaaDoorMProtocolBack9
import Derived.Lib.LaidTab
import Derived.Lib.AppendIntMem
namespace Go.Proofs.YtimhjbihhchieaaDoor.Q
open Go Go.V
set_option linter.unusedVariables false
set_option linter.unusedSimpArgs false
set_option maxRecDepth 100000
variable {N : Nat} {WL : World}

theorem vand_k {p k : Prop} (h1 : p) (h2 : k) : vand p k := ⟨h1, h2⟩
/-- The table of powers of ten, as its text lays it, below some block of the world. -/
def Glob (n : Nat) (w : World) : Prop := ∃ B, B ≤ n ∧ Lib.TabBelow P B w "internal/strconv.uint64pow10" .u64 Lib.pow10Tab
theorem Glob.here {n : Nat} {w w' : World} {B : Lab} (h : Glob n w) (hb : Low n w B w') : Lib.TabIs P w' "internal/strconv.uint64pow10" .u64 Lib.pow10Tab := by
  obtain ⟨B0, hB, ht⟩ := h
  have := hb.below
  exact (ht.on ⟨this.os, this.tape, this.output, this.size, fun i hi => this.block i (Nat.lt_of_lt_of_le hi hB)⟩).here
theorem below_grow (w : World) (k : Nat) (os : Array Obj) : RowKit.Below w.heap.size w (Go.Sort.grow (w.drewN k) os) := by
  refine ⟨rfl, rfl, rfl, by simp [Go.Sort.grow], fun i hi => ?_⟩
  simp [Go.Sort.grow, Array.getElem?_append, hi]

theorem itoa_s (hG : Glob N WL) (n : Int) (h0 : -9223372036854775808 ≤ n) (h1 : n ≤ 9223372036854775807) : Sound P N WL 48 [.lf (vI n)] [] (· = .ret (.lf (vS ⟨(Lib.itoa n).toArray⟩)) []) := by
  refine Sound.below ⟨_, Go.Proofs.Tryd.func48, rfl, rfl⟩ ?_
  intro B W vs g1 g2 g3
  obtain ⟨v, rfl⟩ : ∃ v, vs = [v] := by
    cases g3 with
    | cons _ t => cases t with | nil => exact ⟨_, rfl⟩
  have hv : v = .int .i64 n := by
    cases g3 with
    | cons h _ =>
      have h : [v] = [Value.int .i64 n] := h
      simpa using h
  subst hv
  refine (Go.Proofs.Tryd.strconv_Itoa n h0 h1 W (hG.here g2)).mono ?_
  rintro e W' ⟨rfl, k, os, rfl⟩
  exact ⟨_, rfl, below_grow W k os, fun _ => rfl⟩

theorem format_s (hG : Glob N WL) (n : Int) (h0 : -9223372036854775808 ≤ n) (h1 : n ≤ 9223372036854775807) : Sound P N WL 24 [.lf (vI n)] [] (· = .ret (.lf (vS ⟨(Lib.itoa n).toArray⟩)) []) := by
  refine Sound.of mix [] Go.Proofs.Tryd.func24 rfl rfl ?_
  refine vcall_intro [] [] (and_i (itoa_s hG n h0 h1) ?_)
  rintro o rfl
  refine ends ?_
  exact Eq.refl _

set_option maxHeartbeats 4000000 in
theorem bare_s (s : ByteArray) (hs : s.size ≤ 1000000) : Sound P N WL 64 [.lf (vS s)] [] (· = .ret (.lf (vB (bareL (bytesOf s)))) []) := by
  refine Sound.of mix [] Go.Proofs.Tryd.func64 rfl rfl ?_
  have he : (bytesOf s).isEmpty = decide (s.size = 0) := by
    by_cases h : s.size = 0
    · rw [(bytesOf_nil_iff s).2 h]; simp [h]
    · have : bytesOf s ≠ [] := fun e => h ((bytesOf_nil_iff s).1 e)
      simp [h, this]
  refine vloop_i [0, 5, 6] [] (fun n r m => ∃ i : Nat, i + n = s.size ∧ (bytesOf s).all wsimple = ((bytesOf s).drop i).all wsimple ∧ r = regs 17 [(0, .lf (vS s)), (5, .lf (vI s.size)), (6, .lf (vI i))] ∧ m = []) ⟨s.size, 0, by omega, rfl, rfl, rfl⟩ ?_
  rintro n r m ⟨i, hn, ha, rfl, rfl⟩
  refine vif_split (fun h3 => ?_) (fun h3 => ?_) <;> (try rw [h3])
  · have hlt : i < s.size := by have := h3; simp at this; omega
    rw [drop_cons s i hlt, List.all_cons] at ha
    refine vand_i (show (0 : Int) ≤ (i : Int) ∧ (i : Int) < (s.size : Int) by omega) (fun _ => ?_)
    refine vcall_intro [] [] (and_i (simple_s (bt s i)) ?_)
    rintro o rfl
    refine vif_split (fun h4 => ?_) (fun h4 => ?_)
    · have h4 : (!wsimple (bt s i)) = true := h4
      refine ends (ret1 (aB ?_))
      unfold bareL
      rw [ha]
      rw [Bool.not_eq_true'] at h4
      rw [h4]
      rfl
    · have h4 : (!wsimple (bt s i)) = false := h4
      rw [Bool.not_eq_false'] at h4
      rw [h4, Bool.true_and] at ha
      have hk1 : IntKind.i64.wrap ((i : Int) + 1) = ((i + 1 : Nat) : Int) := by rw [wrap_in (by omega) (by omega)]; omega
      exact next_i (n - 1) (by omega) ⟨i + 1, by omega, ha, congrArg (fun x => regs 17 [(0, .lf (vS s)), (5, .lf (vI s.size)), (6, .lf (vI x))]) hk1, rfl⟩
  · have hge : s.size ≤ i := by have := h3; simp at this; omega
    refine ends (ret1 (aB ?_))
    unfold bareL
    rw [ha, drop_end s i hge, he]
    show (!(ByteArray.toList s == ByteArray.toList ⟨#[]⟩)) = _
    rw [size_beq]
    rfl

abbrev own8 (w : Ow) (l : List Int) : A0 := .al w (.int .u8) l

set_option maxHeartbeats 8000000 in
theorem write_s (l : List Int) (hl : l.length ≤ 10000000) (s : ByteArray) (hs : s.size ≤ 1000000) : Sound P N WL 47 [.lf (own8 (.sl 0) l), .lf (vS s)] [] (· = .ret (.lf (own8 (.rt 0) (l ++ wordL (bytesOf s)))) []) := by
  refine Sound.of mix [0] Go.Proofs.Tryd.func47 rfl rfl ?_
  refine vcall_intro [] [] (and_i (bare_s s hs) ?_)
  rintro o rfl
  have hlen := bytesOf_length s
  refine vif_split (fun h => ?_) (fun h => ?_) <;> (try rw [h])
  · have h : bareL (bytesOf s) = true := h
    refine vand_i (fits_i (n := l.length + (bytesOf s).length) 1 rfl ⟨by omega, by omega⟩) (fun _ => ?_)
    refine ends ?_
    unfold wordL
    rw [if_pos h]
    exact Eq.refl _
  · have h : bareL (bytesOf s) = false := h
    refine vand_i (fits_i (n := l.length + 1) 1 rfl ⟨by omega, by omega⟩) (fun _ => ?_)
    refine vloop_i [0, 1, 16, 17] [] (fun n r m => ∃ (i : Nat) (x : List Int), i + n = s.size ∧ x.length ≤ l.length + 1 + 2 * i ∧ x ++ escs ((bytesOf s).drop i) = l ++ ([34] : List Int) ++ escs (bytesOf s) ∧
      r = regs 49 [(0, .lf (own8 (.sl 0) x)), (1, .lf (vS s)), (16, .lf (vI s.size)), (17, .lf (vI i))] ∧ m = []) ⟨s.size, 0, l ++ ([34] : List Int), by omega, by rw [List.length_append]; simp, rfl, rfl, rfl⟩ ?_
    rintro n r m ⟨i, x, hn, hx, hq, rfl, rfl⟩
    refine vif_split (fun h3 => ?_) (fun h3 => ?_) <;> (try rw [h3])
    · have hlt : i < s.size := by have := h3; simp at this; omega
      have hk1 : IntKind.i64.wrap ((i : Int) + 1) = ((i + 1 : Nat) : Int) := by rw [wrap_in (by omega) (by omega)]; omega
      rw [drop_cons s i hlt, escs_cons] at hq
      have hlen2 := esc_len (bt s i)
      have key : ∀ y : List Int, esc (bt s i) = y → ∃ n', n' < n ∧ ∃ (j : Nat) (z : List Int), j + n' = s.size ∧ z.length ≤ l.length + 1 + 2 * j ∧ z ++ escs ((bytesOf s).drop j) = l ++ ([34] : List Int) ++ escs (bytesOf s) ∧
          regs 49 [(0, .lf (own8 (.sl 0) (x ++ y))), (1, .lf (vS s)), (16, .lf (vI s.size)), (17, .lf (vI (IntKind.i64.wrap ((i : Int) + 1))))] = regs 49 [(0, .lf (own8 (.sl 0) z)), (1, .lf (vS s)), (16, .lf (vI s.size)), (17, .lf (vI j))] ∧ ([] : Mem) = [] := by
        rintro y rfl
        refine ⟨n - 1, by omega, i + 1, x ++ esc (bt s i), by omega, by rw [List.length_append]; omega, by rw [List.append_assoc]; exact hq, by rw [hk1], rfl⟩
      unfold bt at key
      refine vand_k (show (0 : Int) ≤ (i : Int) ∧ (i : Int) < (s.size : Int) by omega) ?_
      generalize ((((ByteArray.data s).toList.getD (Int.toNat (i : Int)) 0).toNat : Nat) : Int) = c at key ⊢
      repeat' first
        | (refine vif_split (fun h => ?_) (fun h => ?_) <;> (try rw [h]) <;> (try simp only [beq_iff_eq, beq_eq_false_iff_ne, ne_eq] at h))
        | (refine vand_k (fits_i (n := x.length + 2) 1 rfl ⟨by omega, by omega⟩) ?_)
        | (refine vand_k (fits_i (n := x.length + 1) 1 rfl ⟨by omega, by omega⟩) ?_)
      all_goals
        refine key _ ?_
        simp [esc, *] <;> rfl
    · have hge : s.size ≤ i := by have := h3; simp at this; omega
      rw [drop_end s i hge, escs_nil, List.append_nil] at hq
      refine vand_i (fits_i (n := x.length + 1) 1 rfl ⟨by omega, by omega⟩) (fun _ => ?_)
      refine ends ?_
      have e : l ++ wordL (bytesOf s) = x ++ [34] := by
        unfold wordL
        rw [if_neg (by rw [h]; decide), hq]
        simp
      rw [e]
      exact Eq.refl _

end Go.Proofs.YtimhjbihhchieaaDoor.Q

namespace Go.Proofs.YtimhjbihhchieaaDoor.Q
open Go Go.V
set_option linter.unusedVariables false
set_option linter.unusedSimpArgs false
set_option maxRecDepth 100000
variable {N : Nat} {WL : World}

theorem jstep (l : List ByteArray) (i : Nat) (h : i < l.length) : wlineL (Bts (l.take (i + 1))) = (if i = 0 then [] else wlineL (Bts (l.take i)) ++ [32]) ++ wordL (bytesOf (l.getD i ByteArray.empty)) := by
  have e : l.take (i + 1) = l.take i ++ [l.getD i ByteArray.empty] := by
    rw [List.take_add_one, List.getElem?_eq_getElem h, ← List.getElem_eq_getD (h := h) ByteArray.empty]
    rfl
  have e2 : Bts (l.take i ++ [l.getD i ByteArray.empty]) = Bts (l.take i) ++ [bytesOf (l.getD i ByteArray.empty)] := by simp [Bts]
  rw [e, e2]
  split
  · rename_i h0
    subst h0
    rfl
  · rename_i h0
    have hne : Bts (l.take i) ≠ [] := by
      intro hh
      have := congrArg List.length hh
      simp [Bts] at this
      rcases this with h | h
      · exact h0 h
      · subst h; simp at *
    rw [wlineL_append _ _ hne (by simp)]
    simp [wlineL]
theorem join_bad {l : List ByteArray} {i : Nat} (h : i < l.length) (hb : 4096 < (l.getD i ByteArray.empty).size) : joinP l = (⟨#[]⟩, 3) := by
  rw [joinP_eq, if_pos]
  right
  have hm : l.getD i ByteArray.empty ∈ l := by
    rw [← List.getElem_eq_getD (h := h) ByteArray.empty]
    exact List.getElem_mem h
  have := wlineL_len (Bts l) (bytesOf (l.getD i ByteArray.empty)) (List.mem_map.2 ⟨_, hm, rfl⟩)
  rw [bytesOf_length] at this
  unfold jline
  omega

set_option maxHeartbeats 8000000 in
theorem join_s (l : List ByteArray) {w : ByteArray} {e : Int} (hp : joinP l = (w, e)) : Sound P N WL 23 [.lf (vSs l)] [] (· = .ret (.tup [vS w, vI e]) []) := by
  refine Sound.of mix [] Go.Proofs.Tryd.func23 rfl rfl ?_
  refine vif_split (fun h => ?_) (fun h => ?_) <;> (try rw [h])
  · have h : decide ((l.length : Int) > 64) = true := h
    have h := of_decide_eq_true h
    rw [joinP_eq, if_pos (.inl (by omega))] at hp
    cases hp
    refine ends ?_
    exact Eq.refl _
  have h : decide ((l.length : Int) > 64) = false := h
  have h64 : l.length ≤ 64 := by have := of_decide_eq_false h; omega
  refine vloop_i [4, 10, 11, 12] [] (fun n r m => ∃ (i : Nat) (b : List Int), i + n = l.length ∧ b = wlineL (Bts (l.take i)) ∧ b.length ≤ 8200 * i ∧
    r = regs 34 [(4, .lf (own8 (.sl 4) b)), (10, .lf (vSs l)), (11, .lf (vI l.length)), (12, .lf (vI i))] ∧ m = []) ⟨l.length, 0, [], by omega, rfl, by simp, rfl, rfl⟩ ?_
  rintro n r m ⟨i, b, hn, hb, hlen, rfl, rfl⟩
  refine vif_split (fun h3 => ?_) (fun h3 => ?_) <;> (try rw [h3])
  · have h3 : decide ((i : Int) < (l.length : Int)) = true := h3
    have hlt : i < l.length := by have := of_decide_eq_true h3; omega
    have hi1 : IntKind.i64.wrap ((i : Int) + 1) = ((i + 1 : Nat) : Int) := by rw [wrap_in (by omega) (by omega)]; omega
    have hj : wlineL (Bts (l.take (i + 1))) = (if i = 0 then [] else wlineL (Bts (l.take i)) ++ [32]) ++ wordL (bytesOf (@List.getD (Ty.den .str) l (Int.toNat (i : Int)) (Ty.dflt .str))) := jstep l i hlt
    have hbad : 4096 < ByteArray.size (@List.getD (Ty.den .str) l (Int.toNat (i : Int)) (Ty.dflt .str)) → joinP l = (⟨#[]⟩, 3) := join_bad (l := l) hlt
    refine vand_k (show (0 : Int) ≤ (i : Int) ∧ (i : Int) < (l.length : Int) by omega) ?_
    revert hj hbad
    generalize @List.getD (Ty.den .str) l (Int.toNat (i : Int)) (Ty.dflt .str) = x
    revert x
    intro (x : ByteArray) hj hbad
    have key : ∀ (c : List Int), c = (if i = 0 then [] else wlineL (Bts (l.take i)) ++ [32]) → x.size ≤ 4096 → c.length ≤ 8200 * i + 1 → ∃ n', n' < n ∧ ∃ (j : Nat) (b : List Int), j + n' = l.length ∧ b = wlineL (Bts (l.take j)) ∧ b.length ≤ 8200 * j ∧
        regs 34 [(4, .lf (own8 (.sl 4) (c ++ wordL (bytesOf x)))), (10, .lf (vSs l)), (11, .lf (vI l.length)), (12, .lf (vI (IntKind.i64.wrap ((i : Int) + 1))))] = regs 34 [(4, .lf (own8 (.sl 4) b)), (10, .lf (vSs l)), (11, .lf (vI l.length)), (12, .lf (vI j))] ∧ ([] : Mem) = [] := by
      intro c hc hx hcl
      refine ⟨n - 1, by omega, i + 1, c ++ wordL (bytesOf x), by omega, by rw [hc]; exact hj.symm, ?_, by rw [hi1], rfl⟩
      have := (wordL_len (bytesOf x)).2
      rw [bytesOf_length] at this
      rw [List.length_append]
      omega
    refine vif_split (fun h4 => ?_) (fun h4 => ?_) <;> (try rw [h4])
    · have h4 : decide ((i : Int) > 0) = true := h4
      have h4 := of_decide_eq_true h4
      refine vand_k (fits_i (n := b.length + 1) 1 rfl ⟨by omega, by omega⟩) ?_
      refine vif_split (fun h5 => ?_) (fun h5 => ?_) <;> (try rw [h5])
      · have h5 : decide ((ByteArray.size x : Int) > 4096) = true := h5
        have h5 := of_decide_eq_true h5
        rw [hbad (by omega)] at hp
        cases hp
        refine ends ?_
        exact Eq.refl _
      · have h5 : decide ((ByteArray.size x : Int) > 4096) = false := h5
        have h5 : ByteArray.size x ≤ 4096 := by have := of_decide_eq_false h5; omega
        refine vcall_intro [] [(.sl 4, 0)] (and_i (write_s (b ++ ([32] : List Int)) (by rw [List.length_append]; simp; omega) x (by omega)) ?_)
        rintro o rfl
        exact key (b ++ ([32] : List Int)) (by rw [if_neg (by omega), hb]) h5 (by rw [List.length_append]; simp; omega)
    · have h4 : decide ((i : Int) > 0) = false := h4
      have h4 := of_decide_eq_false h4
      have hi0 : i = 0 := by omega
      refine vif_split (fun h5 => ?_) (fun h5 => ?_) <;> (try rw [h5])
      · have h5 : decide ((ByteArray.size x : Int) > 4096) = true := h5
        have h5 := of_decide_eq_true h5
        rw [hbad (by omega)] at hp
        cases hp
        refine ends ?_
        exact Eq.refl _
      · have h5 : decide ((ByteArray.size x : Int) > 4096) = false := h5
        have h5 : ByteArray.size x ≤ 4096 := by have := of_decide_eq_false h5; omega
        refine vcall_intro [] [(.sl 4, 0)] (and_i (write_s b (by omega) x (by omega)) ?_)
        rintro o rfl
        exact key b (by rw [if_pos hi0, hb, hi0]; rfl) h5 (by omega)
  · have h3 : decide ((i : Int) < (l.length : Int)) = false := h3
    have hge : l.length ≤ i := by have := of_decide_eq_false h3; omega
    rw [List.take_of_length_le hge] at hb
    rw [joinP_eq] at hp
    have hj : jline l = b := hb.symm
    rw [hj] at hp
    refine vif_split (fun h4 => ?_) (fun h4 => ?_) <;> (try rw [h4])
    · have h4 : decide ((b.length : Int) > 4096) = true := h4
      have h4 := of_decide_eq_true h4
      rw [if_pos (.inr (by omega))] at hp
      cases hp
      refine ends ?_
      exact Eq.refl _
    · have h4 : decide ((b.length : Int) > 4096) = false := h4
      have h4 := of_decide_eq_false h4
      rw [if_neg (by omega)] at hp
      cases hp
      refine ends ?_
      exact Eq.refl _

end Go.Proofs.YtimhjbihhchieaaDoor.Q

namespace Go.Proofs.YtimhjbihhchieaaDoor.Q
open Go Go.V
set_option linter.unusedVariables false
set_option linter.unusedSimpArgs false
set_option maxRecDepth 100000
variable {N : Nat} {WL : World}

def writeP (r : Req) (c : Int) : ByteArray :=
  if c = 73 then itoaB r.id
  else if c = 82 then r.role
  else if c = 68 then (if r.dir = 1 then wPlay else wCapt)
  else if c = 67 then itoaB r.ch
  else if c = 83 then itoaB r.rate
  else if c = 76 then itoaB r.lat
  else if c = 77 then (if r.n = 1 then wOn else wOff)
  else if c = 66 then V.strOfNums r.data
  else if c = 71 then itoaB (IntKind.i64.wrap r.dev)
  else if c = 84 then r.text
  else itoaB r.n

set_option maxHeartbeats 16000000 in
theorem writeR_s (hG : Glob N WL) (r : Req) (c : Int) (g : Rng r) : Sound P N WL 38 [.lf r.v, .lf (v8 c)] [] (· = .ret (.lf (vS (writeP r c))) []) := by
  obtain ⟨k0, k1, g1, g2, g3, g4, g5⟩ := g
  have gd := wrap_64 r.dev
  by_cases h68 : c = 68
  · refine Sound.of mix [] Go.Proofs.Tryd.func38 rfl rfl ?_
    refine vcall_intro [] [] (and_i (namesD_s c h68) ?_)
    rintro o rfl
    repeat' (refine vif_split (fun h => ?_) (fun h => ?_) <;> (try rw [h]) <;> (try simp only [beq_iff_eq, beq_eq_false_iff_ne, ne_eq] at h) <;> (try (exfalso; omega)))
    all_goals (refine ends (ret1 (aS ?_)); simp [writeP, *] <;> rfl)
  · refine Sound.of mix [] Go.Proofs.Tryd.func38 rfl rfl ?_
    refine vcall_intro [] [] (and_i (namesN_s c h68) ?_)
    rintro o rfl
    repeat' first
      | (refine vif_split (fun h => ?_) (fun h => ?_) <;> (try rw [h]) <;> (try simp only [beq_iff_eq, beq_eq_false_iff_ne, ne_eq] at h) <;> (try (exfalso; omega)))
      | (refine vcall_intro [] [] (and_i (format_s hG r.id g1.1 g1.2) ?_); rintro o rfl)
      | (refine vcall_intro [] [] (and_i (format_s hG r.ch g2.1 g2.2) ?_); rintro o rfl)
      | (refine vcall_intro [] [] (and_i (format_s hG r.rate g3.1 g3.2) ?_); rintro o rfl)
      | (refine vcall_intro [] [] (and_i (format_s hG r.lat g4.1 g4.2) ?_); rintro o rfl)
      | (refine vcall_intro [] [] (and_i (format_s hG r.n g5.1 g5.2) ?_); rintro o rfl)
      | (refine vcall_intro [] [] (and_i (format_s hG _ gd.1 gd.2) ?_); rintro o rfl)
    all_goals (refine ends (ret1 (aS ?_)); simp [writeP, *] <;> rfl)

def wordsFrom (r : Req) : List (Int × ByteArray × ByteArray × Unit) → List ByteArray
  | [] => []
  | f :: fs => (if f.1 = r.kind then f.2.1 :: (bytesOf f.2.2.1).map (writeP r) else []) ++ wordsFrom r fs
def formatP (r : Req) : ByteArray × Int := if validP r = true then joinP (wordsFrom r formsL) else (⟨#[]⟩, 1)

set_option maxHeartbeats 16000000 in
theorem format_p (hG : Glob N WL) (r : Req) (hb : InR r.data) (h1 : r.role.size ≤ 1000000) (h2 : r.data.length ≤ 1000000) {w : ByteArray} {e : Int} (hp : formatP r = (w, e)) :
    Sound P N WL 16 [.lf r.v] [] (· = .ret (.tup [vS w, vI e]) []) := by
  refine Sound.of mix [] Go.Proofs.Tryd.func16 rfl rfl ?_
  unfold formatP at hp
  refine vcall_intro [] [] (and_i (valid_p r h1 h2) ?_)
  rintro o rfl
  refine vif_split (fun h => ?_) (fun h => ?_) <;> (try rw [h])
  · have h : (!validP r) = true := h
    rw [if_neg (by simp at h; simp [h])] at hp
    cases hp
    refine ends ?_
    exact Eq.refl _
  have h : (!validP r) = false := h
  rw [Bool.not_eq_false'] at h
  rw [if_pos h] at hp
  have g : Rng r := valid_rng hb (by rw [← validP_eq hb]; exact h)
  refine vcall_intro [] [] (and_i forms_s ?_)
  rintro o rfl
  refine vloop_i [1, 4, 11, 12, 13] [1] (fun n s m => ∃ (i : Nat) (x : List ByteArray), i + n = formsL.length ∧ x.length ≤ 10 * i ∧ x ++ wordsFrom r (formsL.drop i) = wordsFrom r formsL ∧
    s = regs 48 [(1, .lf (.ptr 1 0)), (4, .lf (.al (.sl 4) .str x)), (11, .lf (.val (.slice formT) formsL)), (12, .lf (vI formsL.length)), (13, .lf (vI i))] ∧ m = [(1, r.cells)]) ⟨formsL.length, 0, [], by omega, by simp, rfl, rfl, rfl⟩ ?_
  rintro n s m ⟨i, x, hn, hx, hq, rfl, rfl⟩
  refine vif_split (fun h3 => ?_) (fun h3 => ?_) <;> (try rw [h3])
  · have h3 : decide ((i : Int) < ((formsL.length : Nat) : Int)) = true := h3
    have hlt : i < formsL.length := by have := of_decide_eq_true h3; omega
    have h12 : formsL.length = 12 := rfl
    have hk1 : IntKind.i64.wrap ((i : Int) + 1) = ((i + 1 : Nat) : Int) := by rw [wrap_in (by omega) (by omega)]; omega
    rw [drop_form hlt] at hq
    have hq : x ++ wordsFrom r (@List.getD formT.den formsL (Int.toNat (i : Int)) (Ty.dflt formT) :: formsL.drop (i + 1)) = wordsFrom r formsL := hq
    have hsz : ByteArray.size (@List.getD formT.den formsL (Int.toNat (i : Int)) (Ty.dflt formT)).2.2.1 ≤ 6 := forms_small hlt
    refine vand_k (show (0 : Int) ≤ (i : Int) ∧ (i : Int) < ((formsL.length : Nat) : Int) by omega) ?_
    generalize @List.getD formT.den formsL (Int.toNat (i : Int)) (Ty.dflt formT) = f at hq hsz ⊢
    obtain ⟨(fk : Int), (fw : ByteArray), (ff : ByteArray), (fu : Unit)⟩ := f
    have hsz : ff.size ≤ 6 := hsz
    have hq : x ++ wordsFrom r ((fk, fw, ff, fu) :: formsL.drop (i + 1)) = wordsFrom r formsL := hq
    rw [wordsFrom] at hq
    simp only at hq
    have hnext : ∀ y : List ByteArray, y.length ≤ 10 * (i + 1) → y ++ wordsFrom r (formsL.drop (i + 1)) = wordsFrom r formsL → ∃ n', n' < n ∧ ∃ (j : Nat) (x : List ByteArray), j + n' = formsL.length ∧ x.length ≤ 10 * j ∧ x ++ wordsFrom r (formsL.drop j) = wordsFrom r formsL ∧
        regs 48 [(1, .lf (.ptr 1 0)), (4, .lf (.al (.sl 4) .str y)), (11, .lf (.val (.slice formT) formsL)), (12, .lf (vI formsL.length)), (13, .lf (vI (IntKind.i64.wrap ((i : Int) + 1))))] =
        regs 48 [(1, .lf (.ptr 1 0)), (4, .lf (.al (.sl 4) .str x)), (11, .lf (.val (.slice formT) formsL)), (12, .lf (vI formsL.length)), (13, .lf (vI j))] ∧ [(1, r.cells)] = [(1, r.cells)] := fun y hy hyq =>
      ⟨n - 1, by omega, i + 1, y, by omega, hy, hyq, by rw [hk1], rfl⟩
    refine vif_split (fun h4 => ?_) (fun h4 => ?_) <;> (try rw [h4])
    · have h4 : (fk != r.kind) = true := h4
      rw [if_neg (bne_iff_ne.1 h4), List.nil_append] at hq
      exact hnext x (by omega) hq
    have h4 : (fk != r.kind) = false := h4
    rw [if_pos (bne_eq_false_iff_eq.1 h4)] at hq
    refine vand_k (fits_i (n := x.length + 1) 16 rfl ⟨by omega, by omega⟩) ?_
    refine vloop_i [1, 4, 6, 11, 12, 13, 29, 30] [1, 6] (fun n s m => ∃ (j : Nat) (y : List ByteArray), j + n = ff.size ∧ y.length ≤ 10 * i + 1 + j ∧ y ++ ((bytesOf ff).drop j).map (writeP r) = x ++ fw :: (bytesOf ff).map (writeP r) ∧
      s = regs 48 [(1, .lf (.ptr 1 0)), (4, .lf (.al (.sl 4) .str y)), (6, .lf (.ptr 6 0)), (11, .lf (.val (.slice formT) formsL)), (12, .lf (vI formsL.length)), (13, .lf (vI i)), (29, .lf (vI ff.size)), (30, .lf (vI j))] ∧
      m = [(1, r.cells), (6, [vI fk, vS fw, vS ff])]) ⟨ff.size, 0, x ++ ([fw] : List ByteArray), by omega, by rw [List.length_append]; simp; omega, by rw [List.append_assoc]; rfl, rfl, rfl⟩ ?_
    rintro n1 s m ⟨j, y, hj, hy, hyq, rfl, rfl⟩
    refine vif_split (fun h5 => ?_) (fun h5 => ?_) <;> (try rw [h5])
    · have h5 : decide ((j : Int) < ((ff.size : Nat) : Int)) = true := h5
      have hlt : j < ff.size := by have := of_decide_eq_true h5; omega
      have hj1 : IntKind.i64.wrap ((j : Int) + 1) = ((j + 1 : Nat) : Int) := by rw [wrap_in (by omega) (by omega)]; omega
      rw [drop_cons ff j hlt, List.map_cons] at hyq
      refine drawT_i false [] (.st 1 1 (.st 2 1 (.st 3 1 (.st 4 1 (.st 5 1 (.alt 0 3 (.st 6 0 (.st 7 1 (.st 8 0 (.st 9 0 (.nil))))) (.st 6 0 (.st 7 1 (.st 0 3 (.st 8 0 (.st 9 0 (.nil)))))))))))) (by decide +kernel) ?_
      refine vand_k (show (0 : Int) ≤ (j : Int) ∧ (j : Int) < ((ff.size : Nat) : Int) by omega) (and_i ?_ ?_)
      all_goals
        refine vcall_intro [] [] (and_i (writeR_s hG r (bt ff j) g) ?_)
        rintro o rfl
        refine vand_k (fits_i (n := y.length + 1) 16 rfl ⟨by omega, by omega⟩) ?_
        exact next_i (n1 - 1) (by omega) ⟨j + 1, y ++ ([writeP r (bt ff j)] : List ByteArray), by omega, by rw [List.length_append]; simp; omega, by rw [List.append_assoc]; exact hyq,
          congrArg (fun z => regs 48 [(1, .lf (.ptr 1 0)), (4, .lf (.al (.sl 4) .str (y ++ ([writeP r (bt ff j)] : List ByteArray)))), (6, .lf (.ptr 6 0)), (11, .lf (.val (.slice formT) formsL)), (12, .lf (vI formsL.length)), (13, .lf (vI i)), (29, .lf (vI ff.size)), (30, .lf (vI z))]) hj1, rfl⟩
    · have hge : ff.size ≤ j := by have := h5; simp at this; omega
      rw [drop_end ff j hge, List.map_nil, List.append_nil] at hyq
      refine hnext y (by omega) ?_
      rw [hyq, List.append_assoc]
      exact hq
  · have h3 : decide ((i : Int) < ((formsL.length : Nat) : Int)) = false := h3
    have hge : formsL.length ≤ i := by have := of_decide_eq_false h3; omega
    rw [List.drop_eq_nil_of_le hge, wordsFrom, List.append_nil] at hq
    rw [← hq] at hp
    refine vcall_intro [] [(.sl 4, 0)] (and_i (Sound.frz (.sl 0) (join_s x hp)) ?_)
    rintro o rfl
    refine ends ?_
    exact Eq.refl _

theorem formats_agree {r : Req} (hb : InR r.data) : formatP r = formatR r := by
  unfold formatP formatR
  rw [validP_eq hb]
  by_cases h : validR r = true
  · rw [if_pos h, if_pos h]
    have hv := (validR_iff hb).1 h
    obtain ⟨⟨k0, k1⟩, -, -, hf⟩ := hv
    obtain ⟨kind, id, role, dir, ch, rate, lat, n, dev, data, text⟩ := r
    simp only at k0 k1
    congr 1
    have : kind = 1 ∨ kind = 2 ∨ kind = 3 ∨ kind = 4 ∨ kind = 5 ∨ kind = 6 ∨ kind = 7 ∨ kind = 8 ∨ kind = 9 ∨ kind = 10 ∨ kind = 11 ∨ kind = 12 := by omega
    rcases this with rfl | rfl | rfl | rfl | rfl | rfl | rfl | rfl | rfl | rfl | rfl | rfl
    all_goals
      simp [fieldsR, opensR_iff, inR_iff] at hf
      simp [wordsFrom, formsL, bytesOf, writeP, wordsR, wordR, kindWords]
    all_goals (try first | rfl | (split <;> split <;> first | rfl | omega))
  · rw [if_neg h, if_neg h]

end Go.Proofs.YtimhjbihhchieaaDoor.Q

namespace Go.Proofs.YtimhjbihhchieaaDoor.Q
open Go Go.V
set_option linter.unusedVariables false
set_option linter.unusedSimpArgs false
set_option maxRecDepth 100000
variable {N : Nat} {WL : World}

abbrev ansT : Ty := .cons (.int .i64) (.cons (.slice (.int .u8)) (.cons .str .nil))
/-- an answer -/
structure Ans where
  code : Int
  data : List Int
  text : ByteArray
abbrev Ans.v (a : Ans) : A0 := .val ansT (a.code, a.data, a.text, ())
abbrev Ans.zero : Ans := ⟨0, [], ⟨#[]⟩⟩

def properA (a : Ans) : Bool := decide ((a.data.length : Int) ≤ 1024) && decide ((a.text.size : Int) ≤ 1500) && decide (a.code ≥ 0) && decide (a.code ≤ 999) && (decide (a.data.length = 0) || decide (a.text.size = 0)) && (decide (a.code = 0) || (decide (a.data.length = 0) && decide (a.text.size = 0)))

set_option maxHeartbeats 8000000 in
theorem proper_s (a : Ans) (hd : a.data.length ≤ 1000000) (ht : a.text.size ≤ 1000000) : Sound P N WL 22 [.lf a.v] [] (· = .ret (.lf (vB (properA a))) []) := by
  obtain ⟨code, data, text⟩ := a
  have hw : IntKind.i64.wrap ((data.length : Int) + (text.size : Int)) = (data.length : Int) + (text.size : Int) := by
    simp only at hd ht
    rw [wrap_in (by omega) (by omega)]
  refine Sound.of mix [] Go.Proofs.Tryd.func22 rfl rfl ?_
  refine drawT_i true [1] (.st 0 1 (.st 1 1 (.st 2 1 (.st 3 2 (.st 4 2 (.st 5 2 (.st 6 0 (.st 7 0 (.nil))))))))) (by decide +kernel) ?_
  have hl : @List.length (Ty.den (.int .u8)) data = @List.length Int data := rfl
  repeat' (refine vif_split (fun h => ?_) (fun h => ?_) <;> (try rw [h]))
  all_goals
    refine ends (ret1 (aB ?_))
    simp only [hl, hw] at *
    clear hl
    first
      | (simp_all [properA] <;> omega)
      | (simp [properA] at * <;> omega)
      | (rw [Bool.eq_iff_iff]
         simp only [properA, Bool.and_eq_true, Bool.or_eq_true, decide_eq_true_eq, decide_eq_false_iff_not, beq_iff_eq, beq_eq_false_iff_ne, ne_eq] at *
         omega)

theorem str_ne (s : ByteArray) : (ByteArray.toList s == ByteArray.toList ⟨#[]⟩) = decide (s.size = 0) := size_beq s

set_option maxHeartbeats 8000000 in
theorem validAnswer_s (a : Ans) : Sound P N WL 25 [.lf a.v] [] (· = .ret (.lf (vB (properA a))) []) := by
  obtain ⟨code, data, text⟩ := a
  refine Sound.of mix [] Go.Proofs.Tryd.func25 rfl rfl ?_
  have hl : @List.length (Ty.den (.int .u8)) data = @List.length Int data := rfl
  repeat' (refine vif_split (fun h => ?_) (fun h => ?_) <;> (try rw [h]))
  all_goals
    refine ends (ret1 (aB ?_))
    simp only [str_ne, hl] at *
    clear hl
    simp_all [properA] <;> omega

abbrev wOk : ByteArray := ⟨#[111, 107]⟩
abbrev wErr : ByteArray := ⟨#[101, 114, 114, 111, 114]⟩
abbrev wData : ByteArray := ⟨#[100, 97, 116, 97]⟩
abbrev wText : ByteArray := ⟨#[116, 101, 120, 116]⟩
def repliesA (a : Ans) : List ByteArray := if a.code ≠ 0 then [wErr, itoaB a.code] else if 0 < a.data.length then [wOk, wData, V.strOfNums a.data] else if a.text.size ≠ 0 then [wOk, wText, a.text] else [wOk]
def replyA (a : Ans) : ByteArray × Int := if properA a = true then joinP (repliesA a) else (⟨#[]⟩, 1)

set_option maxHeartbeats 8000000 in
theorem replies_s (a : Ans) (hc : In64 a.code) : Sound P N WL 27 [.lf a.v] [] (· = .ret (.lf (vSs (repliesA a))) []) := by
  obtain ⟨code, data, text⟩ := a
  refine Sound.of mix [] Go.Proofs.Tryd.func27 rfl rfl ?_
  have hl : @List.length (Ty.den (.int .u8)) data = @List.length Int data := rfl
  repeat' first
    | (refine vif_split (fun h => ?_) (fun h => ?_) <;> (try rw [h]) <;> (try simp only [str_ne, bne_iff_ne, bne_eq_false_iff_eq, decide_eq_true_eq, decide_eq_false_iff_not, Bool.not_eq_true', Bool.not_eq_false', ne_eq] at h))
    | (refine vcall_intro [] [] (and_i (format02_s code hc.1 hc.2) ?_); rintro o rfl)
  all_goals
    refine ends (ret1 (aL ?_))
    unfold repliesA
    simp only [hl] at *
    clear hl
    first
      | (rw [if_pos (by assumption)]; rfl)
      | (rw [if_neg (by simp [*]), if_pos (by omega)]; rfl)
      | (rw [if_neg (by simp [*]), if_neg (by omega), if_pos (by simp [*])]; rfl)
      | (rw [if_neg (by simp [*]), if_neg (by omega), if_neg (by simp [*])]; rfl)

theorem proper_iff {a : Ans} : properA a = true ↔ a.data.length ≤ 1024 ∧ a.text.size ≤ 1500 ∧ 0 ≤ a.code ∧ a.code ≤ 999 ∧ (a.data.length = 0 ∨ a.text.size = 0) ∧ (a.code = 0 ∨ a.data.length = 0 ∧ a.text.size = 0) := by
  unfold properA
  simp only [Bool.and_eq_true, Bool.or_eq_true, decide_eq_true_eq, and_assoc]
  constructor
  · rintro ⟨h1, h2, h3⟩; exact ⟨by omega, by omega, h3⟩
  · rintro ⟨h1, h2, h3⟩; exact ⟨by omega, by omega, h3⟩
theorem replies_small {a : Ans} (h : properA a = true) : ∀ w ∈ repliesA a, w.size ≤ 1000000 := by
  obtain ⟨h1, h2, h3, h4, -, -⟩ := proper_iff.1 h
  have e1 := itoaB_size (n := a.code) (by constructor <;> omega)
  have e2 := strOf_size a.data
  intro w hw
  unfold repliesA at hw
  repeat' split at hw
  all_goals simp only [List.mem_cons, List.not_mem_nil, or_false] at hw
  · rcases hw with rfl | rfl
    · decide
    · omega
  · rcases hw with rfl | rfl | rfl
    · decide
    · decide
    · omega
  · rcases hw with rfl | rfl | rfl
    · decide
    · decide
    · omega
  · subst hw; decide
theorem join_ok : joinP [wOk] = (wOk, 0) := by decide +kernel

set_option maxHeartbeats 8000000 in
theorem reply35_s (a : Ans) {w : ByteArray} {e : Int} (hp : replyA a = (w, e)) : Sound P N WL 9 [.lf a.v] [] (· = .ret (.tup [vS w, vI e]) []) := by
  refine Sound.of mix [] Go.Proofs.Tryd.func9 rfl rfl ?_
  unfold replyA at hp
  refine vcall_intro [] [] (and_i (validAnswer_s a) ?_)
  rintro o rfl
  refine vif_split (fun h => ?_) (fun h => ?_) <;> (try rw [h])
  · have h : (!properA a) = true := h
    rw [if_neg (by simp at h; simp [h])] at hp
    cases hp
    refine ends ?_
    exact Eq.refl _
  have h : (!properA a) = false := h
  rw [Bool.not_eq_false'] at h
  rw [if_pos h] at hp
  obtain ⟨h1, h2, h3, h4, -, -⟩ := proper_iff.1 h
  refine vcall_intro [] [] (and_i (replies_s a (by constructor <;> omega)) ?_)
  rintro o rfl
  refine vcall_intro [] [] (and_i (join02_s (repliesA a) (replies_small h) hp) ?_)
  rintro o rfl
  refine ends ?_
  exact Eq.refl _

set_option maxHeartbeats 8000000 in
theorem reply_s (hG : Glob N WL) (a : Ans) (hd : a.data.length ≤ 1000000) (ht : a.text.size ≤ 1000000) {w : ByteArray} {e : Int} (hp : replyA a = (w, e)) : Sound P N WL 8 [.lf a.v] [] (· = .ret (.tup [vS w, vI e]) []) := by
  refine Sound.of mix [] Go.Proofs.Tryd.func8 rfl rfl ?_
  unfold replyA at hp
  refine vcall_intro [] [] (and_i (proper_s a hd ht) ?_)
  rintro o rfl
  refine vif_split (fun h => ?_) (fun h => ?_) <;> (try rw [h])
  · have h : (!properA a) = true := h
    rw [if_neg (by simp at h; simp [h])] at hp
    cases hp
    refine ends ?_
    exact Eq.refl _
  have h : (!properA a) = false := h
  rw [Bool.not_eq_false'] at h
  rw [if_pos h] at hp
  obtain ⟨h1, h2, h3, h4, -, -⟩ := proper_iff.1 h
  unfold repliesA at hp
  refine vif_split (fun h5 => ?_) (fun h5 => ?_) <;> (try rw [h5])
  · have h5 : (a.code != 0) = true := h5
    rw [if_pos (bne_iff_ne.1 h5)] at hp
    refine vcall_intro [] [] (and_i (format_s hG a.code (by omega) (by omega)) ?_)
    rintro o rfl
    refine vcall_intro [] [] (and_i (join_s [wErr, itoaB a.code] hp) ?_)
    rintro o rfl
    refine ends ?_
    exact Eq.refl _
  have h5 : (a.code != 0) = false := h5
  rw [if_neg (by simpa using h5)] at hp
  refine vif_split (fun h6 => ?_) (fun h6 => ?_) <;> (try rw [h6])
  · have h6 : decide ((a.data.length : Int) > 0) = true := h6
    have h6 := of_decide_eq_true h6
    rw [if_pos (by omega)] at hp
    refine vcall_intro [] [] (and_i (join_s [wOk, wData, V.strOfNums a.data] hp) ?_)
    rintro o rfl
    refine ends ?_
    exact Eq.refl _
  have h6 : decide ((a.data.length : Int) > 0) = false := h6
  have h6 := of_decide_eq_false h6
  rw [if_neg (by omega)] at hp
  refine vif_split (fun h7 => ?_) (fun h7 => ?_) <;> (try rw [h7])
  · have h7 : (!(ByteArray.toList a.text == ByteArray.toList ⟨#[]⟩)) = true := h7
    rw [str_ne] at h7
    rw [if_pos (by simpa using h7)] at hp
    refine vcall_intro [] [] (and_i (join_s [wOk, wText, a.text] hp) ?_)
    rintro o rfl
    refine ends ?_
    exact Eq.refl _
  · have h7 : (!(ByteArray.toList a.text == ByteArray.toList ⟨#[]⟩)) = false := h7
    rw [str_ne] at h7
    rw [if_neg (by simpa using h7), join_ok] at hp
    cases hp
    refine ends ?_
    exact Eq.refl _

set_option maxHeartbeats 4000000 in
theorem equalS_s (a b : List ByteArray) (ha : a.length ≤ 1000000) : Sound P N WL 53 [.lf (vSs a), .lf (vSs b)] [] (· = .ret (.lf (vB (sameL a b))) []) := by
  refine Sound.of mix [] Go.Proofs.Tryd.func53 rfl rfl ?_
  refine vif_split (fun h => ?_) (fun h => ?_) <;> (try rw [h])
  · refine ends (ret1 (aB ?_))
    rw [sameL_len (by have h : ((a.length : Int) != (b.length : Int)) = true := h; simp at h; omega)]
  have hl : a.length = b.length := by have h : ((a.length : Int) != (b.length : Int)) = false := h; simp at h; omega
  refine vloop_i [0, 1, 12, 13] [] (fun n r m => ∃ i : Nat, i + n = a.length ∧ sameL a b = sameL (a.drop i) (b.drop i) ∧
    r = regs 26 [(0, .lf (vSs a)), (1, .lf (vSs b)), (12, .lf (vI a.length)), (13, .lf (vI i))] ∧ m = []) ⟨a.length, 0, by omega, rfl, rfl, rfl⟩ ?_
  rintro n r m ⟨i, hn, hs, rfl, rfl⟩
  refine vif_split (fun h3 => ?_) (fun h3 => ?_) <;> (try rw [h3])
  · have hlt : i < a.length := by have := h3; simp at this; omega
    refine draw_i true [] [(0, 1), (1, 1), (2, 1), (3, 1), (4, 1), (5, 1), (6, 1), (7, 1), (8, 1)] (by decide +kernel) ?_
    refine vand_i (show (0 : Int) ≤ (i : Int) ∧ (i : Int) < (a.length : Int) by omega) (fun _ => ?_)
    refine vand_i (show (0 : Int) ≤ (i : Int) ∧ (i : Int) < (b.length : Int) by omega) (fun _ => ?_)
    rw [drop_getD hlt ByteArray.empty, drop_getD (by omega : i < b.length) ByteArray.empty] at hs
    refine vif_split (fun h4 => ?_) (fun h4 => ?_) <;> (try rw [h4])
    · have h4 : (!((a.getD i ByteArray.empty).toList == (b.getD i ByteArray.empty).toList)) = true := h4
      refine ends (ret1 (aB ?_))
      rw [hs]
      simp only [sameL]
      rw [Bool.not_eq_true'] at h4
      rw [h4]
      rfl
    · have h4 : (!((a.getD i ByteArray.empty).toList == (b.getD i ByteArray.empty).toList)) = false := h4
      have hk1 : IntKind.i64.wrap ((i : Int) + 1) = ((i + 1 : Nat) : Int) := by rw [wrap_in (by omega) (by omega)]; omega
      refine next_i (n - 1) (by omega) ⟨i + 1, by omega, ?_, congrArg (fun x => regs 26 [(0, .lf (vSs a)), (1, .lf (vSs b)), (12, .lf (vI a.length)), (13, .lf (vI x))]) hk1, rfl⟩
      rw [hs]
      simp only [sameL]
      rw [Bool.not_eq_false'] at h4
      rw [h4, Bool.true_and]
  · have hge : a.length ≤ i := by have := h3; simp at this; omega
    refine ends (ret1 (aB ?_))
    rw [hs, List.drop_eq_nil_of_le hge, List.drop_eq_nil_of_le (by omega)]
    rfl

end Go.Proofs.YtimhjbihhchieaaDoor.Q

namespace Go.Proofs.YtimhjbihhchieaaDoor.Q
open Go Go.V
set_option linter.unusedVariables false
set_option linter.unusedSimpArgs false
set_option maxRecDepth 100000
variable {N : Nat} {WL : World}

theorem atL_small {l : List ByteArray} (h : ∀ w ∈ l, w.size ≤ 1000000) (i : Nat) : (atL l i).size ≤ 1000000 := by
  unfold atL
  by_cases hi : i < l.length
  · rw [getD_in hi]
    exact h _ (List.getElem_mem _)
  · rw [getD_out (by omega)]
    decide
abbrev Ans.wrong : Ans := ⟨-1, [], ⟨#[]⟩⟩
def answerP (l : List ByteArray) : Ans :=
  if l = [wOk] then Ans.zero
  else if l.length = 2 ∧ atL l 0 = wErr then (if (numP (atL l 1)).2 ≠ 0 ∨ (numP (atL l 1)).1 = 0 ∨ 999 < (numP (atL l 1)).1 then Ans.wrong else ⟨(numP (atL l 1)).1, [], ⟨#[]⟩⟩)
  else if l.length = 3 ∧ atL l 0 = wOk ∧ atL l 1 = wData ∧ atL l 2 ≠ ⟨#[]⟩ then ⟨0, bytesOf (atL l 2), ⟨#[]⟩⟩
  else if l.length = 3 ∧ atL l 0 = wOk ∧ atL l 1 = wText ∧ atL l 2 ≠ ⟨#[]⟩ then ⟨0, [], atL l 2⟩
  else Ans.wrong

theorem sT {I : BEq (List UInt8)} [@LawfulBEq _ I] {a b : ByteArray} (h : (@BEq.beq _ I (ByteArray.toList a) (ByteArray.toList b)) = true) : a = b := toList_inj.1 (beq_iff_eq.1 h)
theorem sF {I : BEq (List UInt8)} [@LawfulBEq _ I] {a b : ByteArray} (h : (@BEq.beq _ I (ByteArray.toList a) (ByteArray.toList b)) = false) : ¬ (a = b) := fun e => beq_eq_false_iff_ne.1 h (toList_inj.2 e)
theorem nsT {I : BEq (List UInt8)} [@LawfulBEq _ I] {a b : ByteArray} (h : (!(@BEq.beq _ I (ByteArray.toList a) (ByteArray.toList b))) = true) : ¬ (a = b) := sF (by rwa [Bool.not_eq_true'] at h)
theorem nsF {I : BEq (List UInt8)} [@LawfulBEq _ I] {a b : ByteArray} (h : (!(@BEq.beq _ I (ByteArray.toList a) (ByteArray.toList b))) = false) : a = b := sT (by rwa [Bool.not_eq_false'] at h)

set_option maxHeartbeats 16000000 in
theorem answer_s (l : List ByteArray) (hl : l.length ≤ 1000000) (hsz : ∀ w ∈ l, w.size ≤ 1000000) (q : Ans) (hq : answerP l = q) : Sound P N WL 29 [.lf (vSs l)] [] (· = .ret (.lf q.v) []) := by
  have hs1 := atL_small hsz 1
  unfold answerP at hq
  refine Sound.of mix [] Go.Proofs.Tryd.func29 rfl rfl ?_
  refine vcall_intro [] [] (and_i (equalS_s l [wOk] hl) ?_)
  rintro o rfl
  refine vif_split (fun h0 => ?_) (fun h0 => ?_) <;> (try rw [h0])
  · have h0 : sameL l [wOk] = true := h0
    have h0 := sameL_iff.1 h0
    rw [if_pos h0] at hq
    subst hq
    refine ends ?_
    exact Eq.refl _
  have h0 : sameL l [wOk] = false := h0
  have h0 : l ≠ [wOk] := fun e => by rw [sameL_iff.2 e] at h0; cases h0
  have hL : @List.length (Ty.den .str) l = @List.length ByteArray l := rfl
  rw [if_neg h0] at hq
  by_cases hB : l.length = 2 ∧ atL l 0 = wErr
  · rw [if_pos hB] at hq
    obtain ⟨hl2, c0⟩ := hB
    have c0 : @List.getD (Ty.den .str) l (Int.toNat 0) (Ty.dflt .str) = wErr := c0
    by_cases hbad : (numP (atL l 1)).2 ≠ 0 ∨ (numP (atL l 1)).1 = 0 ∨ 999 < (numP (atL l 1)).1
    · rw [if_pos hbad] at hq
      subst hq
      repeat' first
        | (refine vif_split (fun h => ?_) (fun h => ?_) <;> (try rw [h]) <;> (try first | replace h := sT h | replace h := sF h | replace h := nsT h | replace h := nsF h | simp only [beq_iff_eq, beq_eq_false_iff_ne, bne_iff_ne, bne_eq_false_iff_eq, ne_eq, decide_eq_true_eq, decide_eq_false_iff_not] at h) <;> (try first | (exfalso; omega) | exact absurd c0 h))
        | (refine vand_k (show (0 : Int) ≤ 0 ∧ (0 : Int) < (l.length : Int) by omega) ?_)
        | (refine vand_k (show (0 : Int) ≤ 1 ∧ (1 : Int) < (l.length : Int) by omega) ?_)
        | (refine vand_k (show (0 : Int) ≤ 2 ∧ (2 : Int) < (l.length : Int) by omega) ?_)
        | (refine vcall_intro [] [] (and_i (number_s (atL l 1) hs1 (v := (numP (atL l 1)).1) (e := (numP (atL l 1)).2) rfl) ?_); rintro o rfl)
      all_goals
        refine ends ?_
        exact Eq.refl _
    · rw [if_neg hbad] at hq
      subst hq
      repeat' first
        | (refine vif_split (fun h => ?_) (fun h => ?_) <;> (try rw [h]) <;> (try first | replace h := sT h | replace h := sF h | replace h := nsT h | replace h := nsF h | simp only [beq_iff_eq, beq_eq_false_iff_ne, bne_iff_ne, bne_eq_false_iff_eq, ne_eq, decide_eq_true_eq, decide_eq_false_iff_not] at h) <;> (try first | (exfalso; omega) | exact absurd c0 h))
        | (refine vand_k (show (0 : Int) ≤ 0 ∧ (0 : Int) < (l.length : Int) by omega) ?_)
        | (refine vand_k (show (0 : Int) ≤ 1 ∧ (1 : Int) < (l.length : Int) by omega) ?_)
        | (refine vand_k (show (0 : Int) ≤ 2 ∧ (2 : Int) < (l.length : Int) by omega) ?_)
        | (refine vcall_intro [] [] (and_i (number_s (atL l 1) hs1 (v := (numP (atL l 1)).1) (e := (numP (atL l 1)).2) rfl) ?_); rintro o rfl)
      all_goals
        refine ends ?_
        exact Eq.refl _
  rw [if_neg hB] at hq
  have nB : ¬ (l.length = 2 ∧ @List.getD (Ty.den .str) l (Int.toNat 0) (Ty.dflt .str) = wErr) := hB
  by_cases hC : l.length = 3 ∧ atL l 0 = wOk ∧ atL l 1 = wData ∧ atL l 2 ≠ ⟨#[]⟩
  · rw [if_pos hC] at hq
    obtain ⟨hl3, c0, c1, c2⟩ := hC
    have c0 : @List.getD (Ty.den .str) l (Int.toNat 0) (Ty.dflt .str) = wOk := c0
    have c1 : @List.getD (Ty.den .str) l (Int.toNat 1) (Ty.dflt .str) = wData := c1
    have c2 : ¬ (@List.getD (Ty.den .str) l (Int.toNat 2) (Ty.dflt .str) = ⟨#[]⟩) := c2
    subst hq
    repeat' first
      | (refine vif_split (fun h => ?_) (fun h => ?_) <;> (try rw [h]) <;> (try first | replace h := sT h | replace h := sF h | replace h := nsT h | replace h := nsF h | simp only [beq_iff_eq, beq_eq_false_iff_ne, bne_iff_ne, bne_eq_false_iff_eq, ne_eq, decide_eq_true_eq, decide_eq_false_iff_not] at h) <;> (try first | (exfalso; omega) | exact absurd c0 h | exact absurd c1 h | exact absurd h c2))
      | (refine vand_k (show (0 : Int) ≤ 0 ∧ (0 : Int) < (l.length : Int) by omega) ?_)
      | (refine vand_k (show (0 : Int) ≤ 1 ∧ (1 : Int) < (l.length : Int) by omega) ?_)
      | (refine vand_k (show (0 : Int) ≤ 2 ∧ (2 : Int) < (l.length : Int) by omega) ?_)
      | (refine vcall_intro [] [] (and_i (number_s (atL l 1) hs1 (v := (numP (atL l 1)).1) (e := (numP (atL l 1)).2) rfl) ?_); rintro o rfl)
    all_goals
      refine ends ?_
      exact Eq.refl _
  rw [if_neg hC] at hq
  have nC : ¬ (l.length = 3 ∧ @List.getD (Ty.den .str) l (Int.toNat 0) (Ty.dflt .str) = wOk ∧ @List.getD (Ty.den .str) l (Int.toNat 1) (Ty.dflt .str) = wData ∧ ¬ (@List.getD (Ty.den .str) l (Int.toNat 2) (Ty.dflt .str) = ⟨#[]⟩)) := hC
  by_cases hD : l.length = 3 ∧ atL l 0 = wOk ∧ atL l 1 = wText ∧ atL l 2 ≠ ⟨#[]⟩
  · rw [if_pos hD] at hq
    obtain ⟨hl3, c0, c1, c2⟩ := hD
    have c0 : @List.getD (Ty.den .str) l (Int.toNat 0) (Ty.dflt .str) = wOk := c0
    have c1 : @List.getD (Ty.den .str) l (Int.toNat 1) (Ty.dflt .str) = wText := c1
    have c2 : ¬ (@List.getD (Ty.den .str) l (Int.toNat 2) (Ty.dflt .str) = ⟨#[]⟩) := c2
    subst hq
    repeat' first
      | (refine vif_split (fun h => ?_) (fun h => ?_) <;> (try rw [h]) <;> (try first | replace h := sT h | replace h := sF h | replace h := nsT h | replace h := nsF h | simp only [beq_iff_eq, beq_eq_false_iff_ne, bne_iff_ne, bne_eq_false_iff_eq, ne_eq, decide_eq_true_eq, decide_eq_false_iff_not] at h) <;> (try first | (exfalso; omega) | exact absurd c0 h | exact absurd c1 h | exact absurd h c2 | exact absurd (show wText = wData from c1.symm.trans h) (by decide)))
      | (refine vand_k (show (0 : Int) ≤ 0 ∧ (0 : Int) < (l.length : Int) by omega) ?_)
      | (refine vand_k (show (0 : Int) ≤ 1 ∧ (1 : Int) < (l.length : Int) by omega) ?_)
      | (refine vand_k (show (0 : Int) ≤ 2 ∧ (2 : Int) < (l.length : Int) by omega) ?_)
      | (refine vcall_intro [] [] (and_i (number_s (atL l 1) hs1 (v := (numP (atL l 1)).1) (e := (numP (atL l 1)).2) rfl) ?_); rintro o rfl)
    all_goals
      refine ends ?_
      exact Eq.refl _
  · rw [if_neg hD] at hq
    have nD : ¬ (l.length = 3 ∧ @List.getD (Ty.den .str) l (Int.toNat 0) (Ty.dflt .str) = wOk ∧ @List.getD (Ty.den .str) l (Int.toNat 1) (Ty.dflt .str) = wText ∧ ¬ (@List.getD (Ty.den .str) l (Int.toNat 2) (Ty.dflt .str) = ⟨#[]⟩)) := hD
    subst hq
    repeat' first
      | (refine vif_split (fun h => ?_) (fun h => ?_) <;> (try rw [h]) <;> (try first | replace h := sT h | replace h := sF h | replace h := nsT h | replace h := nsF h | simp only [beq_iff_eq, beq_eq_false_iff_ne, bne_iff_ne, bne_eq_false_iff_eq, ne_eq, decide_eq_true_eq, decide_eq_false_iff_not] at h) <;> (try first | (exfalso; omega) | exact (nB ⟨by omega, by assumption⟩).elim | exact (nC ⟨by omega, by assumption, by assumption, by assumption⟩).elim | exact (nD ⟨by omega, by assumption, by assumption, by assumption⟩).elim))
      | (refine vand_k (show (0 : Int) ≤ 0 ∧ (0 : Int) < (l.length : Int) by omega) ?_)
      | (refine vand_k (show (0 : Int) ≤ 1 ∧ (1 : Int) < (l.length : Int) by omega) ?_)
      | (refine vand_k (show (0 : Int) ≤ 2 ∧ (2 : Int) < (l.length : Int) by omega) ?_)
      | (refine vcall_intro [] [] (and_i (number_s (atL l 1) hs1 (v := (numP (atL l 1)).1) (e := (numP (atL l 1)).2) rfl) ?_); rintro o rfl)
    all_goals
      refine ends ?_
      exact Eq.refl _

end Go.Proofs.YtimhjbihhchieaaDoor.Q

namespace Go.Proofs.YtimhjbihhchieaaDoor.Q
open Go Go.V
set_option linter.unusedVariables false
set_option linter.unusedSimpArgs false
set_option maxRecDepth 100000
variable {N : Nat} {WL : World}

def readW (l : List ByteArray) : Ans × Int := if properA (answerP l) = true then (answerP l, 0) else (Ans.zero, 5)
def readS (s : ByteArray) : Ans × Int := if (splitP s).2 ≠ 0 then (Ans.zero, (splitP s).2) else readW (splitP s).1
def guessA (l : List ByteArray) : Ans :=
  if atL l 0 = wErr then ⟨numR (atL l 1), [], ⟨#[]⟩⟩ else if atL l 1 = wData then ⟨0, bytesOf (atL l 2), ⟨#[]⟩⟩ else if atL l 1 = wText then ⟨0, [], atL l 2⟩ else Ans.zero
def readV (l : List ByteArray) : Ans × Int := if properA (guessA l) = true ∧ repliesA (guessA l) = l then (guessA l, 0) else (Ans.zero, 5)
def readRef (s : ByteArray) : Ans × Int := if (splitP s).2 ≠ 0 then (Ans.zero, (splitP s).2) else readV (splitP s).1

theorem replies_len (a : Ans) : (repliesA a).length ≤ 1000000 := by
  unfold repliesA
  repeat' split
  all_goals simp
theorem ite_pair' {α : Type} {A B : Prop} [Decidable A] [Decidable B] {q g z : α} (h : A ↔ B) (hq : A → q = g) : (if A then q else z) = if B then g else z := by
  by_cases ha : A
  · rw [if_pos ha, if_pos (h.1 ha), hq ha]
  · rw [if_neg ha, if_neg (fun hb => ha (h.2 hb))]
theorem answer_size (l : List ByteArray) (h : ∀ w ∈ l, w.size ≤ 1000000) : (answerP l).data.length ≤ 1000000 ∧ (answerP l).text.size ≤ 1000000 := by
  have h2 := atL_small h 2
  unfold answerP
  repeat' split
  all_goals first
    | exact ⟨Nat.zero_le _, h2⟩
    | (refine ⟨?_, by show ByteArray.size ⟨#[]⟩ ≤ 1000000; decide⟩; show (bytesOf _).length ≤ 1000000; rw [bytesOf_length]; exact h2)
    | exact ⟨Nat.zero_le _, by show ByteArray.size ⟨#[]⟩ ≤ 1000000; decide⟩

set_option maxHeartbeats 8000000 in
theorem read_p (s : ByteArray) {q : Ans} {e : Int} (hp : readS s = (q, e)) : Sound P N WL 10 [.lf (vS s)] [] (· = .ret (.tup [q.v, vI e]) []) := by
  refine Sound.of mix [] Go.Proofs.Tryd.func10 rfl rfl ?_
  unfold readS at hp
  have hsz : ∀ w ∈ (splitP s).1, w.size ≤ 1000000 := split_small s
  generalize hsp : splitP s = sp at hp hsz
  obtain ⟨l, e0⟩ := sp
  simp only at hp hsz
  refine vcall_intro [] [] (and_i (split_s s hsp) ?_)
  rintro o rfl
  refine vif_split (fun h => ?_) (fun h => ?_) <;> (try rw [h])
  · have h : (e0 != 0) = true := h
    rw [if_pos (bne_iff_ne.1 h)] at hp
    cases hp
    refine ends ?_
    exact Eq.refl _
  have h : (e0 != 0) = false := h
  rw [if_neg (by simpa using h)] at hp
  have hll : l.length ≤ 1000000 := by
    have : e0 = 0 := by simpa using h
    subst this
    have := (join_split s l hsp).1
    omega
  unfold readW at hp
  obtain ⟨z1, z2⟩ := answer_size l hsz
  refine vcall_intro [] [] (and_i (answer_s l hll hsz (answerP l) rfl) ?_)
  rintro o rfl
  generalize answerP l = g at hp z1 z2 ⊢
  refine vcall_intro [] [] (and_i (proper_s g z1 z2) ?_)
  rintro o rfl
  refine vif_split (fun h2 => ?_) (fun h2 => ?_) <;> (try rw [h2])
  · have h2 : (!properA g) = true := h2
    rw [if_neg (by simp at h2; simp [h2])] at hp
    cases hp
    refine ends ?_
    exact Eq.refl _
  · have h2 : (!properA g) = false := h2
    rw [Bool.not_eq_false'] at h2
    rw [if_pos h2] at hp
    cases hp
    refine ends ?_
    exact Eq.refl _

set_option maxHeartbeats 8000000 in
theorem read35_s (s : ByteArray) {q : Ans} {e : Int} (hp : readRef s = (q, e)) : Sound P N WL 11 [.lf (vS s)] [] (· = .ret (.tup [q.v, vI e]) []) := by
  refine Sound.of mix [] Go.Proofs.Tryd.func11 rfl rfl ?_
  unfold readRef at hp
  have hsz : ∀ w ∈ (splitP s).1, w.size ≤ 1000000 := split_small s
  generalize hsp : splitP s = sp at hp hsz
  obtain ⟨l, e0⟩ := sp
  simp only at hp hsz
  refine vcall_intro [] [] (and_i (split02_s s hsp) ?_)
  rintro o rfl
  refine vif_split (fun h => ?_) (fun h => ?_) <;> (try rw [h])
  · have h : (e0 != 0) = true := h
    rw [if_pos (bne_iff_ne.1 h)] at hp
    cases hp
    refine ends ?_
    exact Eq.refl _
  have h : (e0 != 0) = false := h
  rw [if_neg (by simpa using h)] at hp
  unfold readV at hp
  by_cases e1 : atL l 0 = wErr
  · have hg : guessA l = ⟨numR (atL l 1), [], ⟨#[]⟩⟩ := by unfold guessA; rw [if_pos e1]
    rw [hg] at hp
    repeat' first
      | (refine vif_split (fun h => ?_) (fun h => ?_) <;> (try rw [h]) <;> (try simp only [beq_iff_eq, beq_eq_false_iff_ne, ne_eq, toList_inj] at h) <;> (try contradiction))
      | (refine vcall_intro [] [] (and_i (at_s l 0) ?_); rintro o rfl)
      | (refine vcall_intro [] [] (and_i (at_s l 1) ?_); rintro o rfl)
      | (refine vcall_intro [] [] (and_i (at_s l 2) ?_); rintro o rfl)
      | (refine vcall_intro [] [] (and_i (number35_s _ (atL_small hsz _)) ?_); rintro o rfl)
    refine vcall_intro [] [] (and_i (validAnswer_s ⟨numR (atL l 1), [], ⟨#[]⟩⟩) ?_)
    rintro o rfl
    refine vif_split (fun h2 => ?_) (fun h2 => ?_) <;> (try rw [h2])
    · have h2 : (!properA ⟨numR (atL l 1), [], ⟨#[]⟩⟩) = true := h2
      rw [if_neg (by simp at h2; simp [h2])] at hp
      cases hp
      refine ends ?_
      exact Eq.refl _
    have h2 : (!properA ⟨numR (atL l 1), [], ⟨#[]⟩⟩) = false := h2
    rw [Bool.not_eq_false'] at h2
    obtain ⟨p1, p2, p3, p4, -, -⟩ := proper_iff.1 h2
    refine vcall_intro [] [] (and_i (replies_s ⟨numR (atL l 1), [], ⟨#[]⟩⟩ (by constructor <;> omega)) ?_)
    rintro o rfl
    refine vcall_intro [] [] (and_i (same_s (repliesA ⟨numR (atL l 1), [], ⟨#[]⟩⟩) l (replies_len _)) ?_)
    rintro o rfl
    refine vif_split (fun h3 => ?_) (fun h3 => ?_) <;> (try rw [h3])
    · have h3 : (!sameL (repliesA ⟨numR (atL l 1), [], ⟨#[]⟩⟩) l) = true := h3
      rw [if_neg (by
        rintro ⟨_, e⟩
        rw [sameL_iff.2 e] at h3
        cases h3)] at hp
      cases hp
      refine ends ?_
      exact Eq.refl _
    · have h3 : (!sameL (repliesA ⟨numR (atL l 1), [], ⟨#[]⟩⟩) l) = false := h3
      rw [Bool.not_eq_false', sameL_iff] at h3
      rw [if_pos ⟨h2, h3⟩] at hp
      cases hp
      refine ends ?_
      exact Eq.refl _
  by_cases e2 : atL l 1 = wData
  · have hg : guessA l = ⟨0, bytesOf (atL l 2), ⟨#[]⟩⟩ := by unfold guessA; rw [if_neg e1, if_pos e2]
    rw [hg] at hp
    repeat' first
      | (refine vif_split (fun h => ?_) (fun h => ?_) <;> (try rw [h]) <;> (try simp only [beq_iff_eq, beq_eq_false_iff_ne, ne_eq, toList_inj] at h) <;> (try contradiction))
      | (refine vcall_intro [] [] (and_i (at_s l 0) ?_); rintro o rfl)
      | (refine vcall_intro [] [] (and_i (at_s l 1) ?_); rintro o rfl)
      | (refine vcall_intro [] [] (and_i (at_s l 2) ?_); rintro o rfl)
      | (refine vcall_intro [] [] (and_i (number35_s _ (atL_small hsz _)) ?_); rintro o rfl)
    refine vcall_intro [] [] (and_i (validAnswer_s ⟨0, bytesOf (atL l 2), ⟨#[]⟩⟩) ?_)
    rintro o rfl
    refine vif_split (fun h2 => ?_) (fun h2 => ?_) <;> (try rw [h2])
    · have h2 : (!properA ⟨0, bytesOf (atL l 2), ⟨#[]⟩⟩) = true := h2
      rw [if_neg (by simp at h2; simp [h2])] at hp
      cases hp
      refine ends ?_
      exact Eq.refl _
    have h2 : (!properA ⟨0, bytesOf (atL l 2), ⟨#[]⟩⟩) = false := h2
    rw [Bool.not_eq_false'] at h2
    obtain ⟨p1, p2, p3, p4, -, -⟩ := proper_iff.1 h2
    refine vcall_intro [] [] (and_i (replies_s ⟨0, bytesOf (atL l 2), ⟨#[]⟩⟩ (by constructor <;> omega)) ?_)
    rintro o rfl
    refine vcall_intro [] [] (and_i (same_s (repliesA ⟨0, bytesOf (atL l 2), ⟨#[]⟩⟩) l (replies_len _)) ?_)
    rintro o rfl
    refine vif_split (fun h3 => ?_) (fun h3 => ?_) <;> (try rw [h3])
    · have h3 : (!sameL (repliesA ⟨0, bytesOf (atL l 2), ⟨#[]⟩⟩) l) = true := h3
      rw [if_neg (by
        rintro ⟨_, e⟩
        rw [sameL_iff.2 e] at h3
        cases h3)] at hp
      cases hp
      refine ends ?_
      exact Eq.refl _
    · have h3 : (!sameL (repliesA ⟨0, bytesOf (atL l 2), ⟨#[]⟩⟩) l) = false := h3
      rw [Bool.not_eq_false', sameL_iff] at h3
      rw [if_pos ⟨h2, h3⟩] at hp
      cases hp
      refine ends ?_
      exact Eq.refl _
  by_cases e3 : atL l 1 = wText
  · have hg : guessA l = ⟨0, [], atL l 2⟩ := by unfold guessA; rw [if_neg e1, if_neg e2, if_pos e3]
    rw [hg] at hp
    repeat' first
      | (refine vif_split (fun h => ?_) (fun h => ?_) <;> (try rw [h]) <;> (try simp only [beq_iff_eq, beq_eq_false_iff_ne, ne_eq, toList_inj] at h) <;> (try contradiction))
      | (refine vcall_intro [] [] (and_i (at_s l 0) ?_); rintro o rfl)
      | (refine vcall_intro [] [] (and_i (at_s l 1) ?_); rintro o rfl)
      | (refine vcall_intro [] [] (and_i (at_s l 2) ?_); rintro o rfl)
      | (refine vcall_intro [] [] (and_i (number35_s _ (atL_small hsz _)) ?_); rintro o rfl)
    refine vcall_intro [] [] (and_i (validAnswer_s ⟨0, [], atL l 2⟩) ?_)
    rintro o rfl
    refine vif_split (fun h2 => ?_) (fun h2 => ?_) <;> (try rw [h2])
    · have h2 : (!properA ⟨0, [], atL l 2⟩) = true := h2
      rw [if_neg (by simp at h2; simp [h2])] at hp
      cases hp
      refine ends ?_
      exact Eq.refl _
    have h2 : (!properA ⟨0, [], atL l 2⟩) = false := h2
    rw [Bool.not_eq_false'] at h2
    obtain ⟨p1, p2, p3, p4, -, -⟩ := proper_iff.1 h2
    refine vcall_intro [] [] (and_i (replies_s ⟨0, [], atL l 2⟩ (by constructor <;> omega)) ?_)
    rintro o rfl
    refine vcall_intro [] [] (and_i (same_s (repliesA ⟨0, [], atL l 2⟩) l (replies_len _)) ?_)
    rintro o rfl
    refine vif_split (fun h3 => ?_) (fun h3 => ?_) <;> (try rw [h3])
    · have h3 : (!sameL (repliesA ⟨0, [], atL l 2⟩) l) = true := h3
      rw [if_neg (by
        rintro ⟨_, e⟩
        rw [sameL_iff.2 e] at h3
        cases h3)] at hp
      cases hp
      refine ends ?_
      exact Eq.refl _
    · have h3 : (!sameL (repliesA ⟨0, [], atL l 2⟩) l) = false := h3
      rw [Bool.not_eq_false', sameL_iff] at h3
      rw [if_pos ⟨h2, h3⟩] at hp
      cases hp
      refine ends ?_
      exact Eq.refl _
  · have hg : guessA l = Ans.zero := by unfold guessA; rw [if_neg e1, if_neg e2, if_neg e3]
    rw [hg] at hp
    repeat' first
      | (refine vif_split (fun h => ?_) (fun h => ?_) <;> (try rw [h]) <;> (try simp only [beq_iff_eq, beq_eq_false_iff_ne, ne_eq, toList_inj] at h) <;> (try contradiction))
      | (refine vcall_intro [] [] (and_i (at_s l 0) ?_); rintro o rfl)
      | (refine vcall_intro [] [] (and_i (at_s l 1) ?_); rintro o rfl)
      | (refine vcall_intro [] [] (and_i (at_s l 2) ?_); rintro o rfl)
      | (refine vcall_intro [] [] (and_i (number35_s _ (atL_small hsz _)) ?_); rintro o rfl)
    have h2 : properA Ans.zero = true := by decide
    have c1 : Sound P N WL 25 [.lf Ans.zero.v] [] (· = .ret (.lf (vB true)) []) := by
      have := validAnswer_s (N := N) (WL := WL) Ans.zero
      rw [h2] at this
      exact this
    refine vcall_intro [] [] (and_i c1 ?_)
    rintro o rfl
    obtain ⟨p1, p2, p3, p4, -, -⟩ := proper_iff.1 h2
    refine vcall_intro [] [] (and_i (replies_s Ans.zero (by constructor <;> omega)) ?_)
    rintro o rfl
    refine vcall_intro [] [] (and_i (same_s (repliesA Ans.zero) l (replies_len _)) ?_)
    rintro o rfl
    refine vif_split (fun h3 => ?_) (fun h3 => ?_) <;> (try rw [h3])
    · have h3 : (!sameL (repliesA Ans.zero) l) = true := h3
      rw [if_neg (by
        rintro ⟨_, e⟩
        rw [sameL_iff.2 e] at h3
        cases h3)] at hp
      cases hp
      refine ends ?_
      exact Eq.refl _
    · have h3 : (!sameL (repliesA Ans.zero) l) = false := h3
      rw [Bool.not_eq_false', sameL_iff] at h3
      rw [if_pos ⟨h2, h3⟩] at hp
      cases hp
      refine ends ?_
      exact Eq.refl _

theorem len3' {l : List ByteArray} (h : l.length = 3) : ∃ a b c, l = [a, b, c] := by
  match l, h with
  | [a, b, c], _ => exact ⟨a, b, c, rfl⟩
theorem len2' {l : List ByteArray} (h : l.length = 2) : ∃ a b, l = [a, b] := by
  match l, h with
  | [a, b], _ => exact ⟨a, b, rfl⟩
theorem readW_wrong {l : List ByteArray} (h : answerP l = Ans.wrong) : readW l = (Ans.zero, 5) := by
  unfold readW
  rw [h, if_neg]
  decide
theorem readV_wrong {l : List ByteArray} (h : ¬ (properA (guessA l) = true ∧ repliesA (guessA l) = l)) : readV l = (Ans.zero, 5) := by
  unfold readV
  rw [if_neg h]
theorem size0 {s : ByteArray} : s.size = 0 ↔ s = ⟨#[]⟩ := by
  constructor
  · intro h
    apply ba_ext
    have : s.data.toList.length = 0 := by simpa using h
    rw [List.length_eq_zero_iff.1 this]
  · rintro rfl; rfl

theorem read_agree (l : List ByteArray) : readW l = readV l := by
  by_cases h1 : l = [wOk]
  · subst h1
    have a1 : answerP [wOk] = Ans.zero := by unfold answerP; rw [if_pos rfl]
    have g1 : guessA [wOk] = Ans.zero := by unfold guessA; rw [if_neg (by decide), if_neg (by decide), if_neg (by decide)]
    unfold readW readV
    rw [a1, g1, if_pos (by decide), if_pos ⟨by decide, by decide +kernel⟩]
  by_cases e1 : atL l 0 = wErr
  · have hg : guessA l = ⟨numR (atL l 1), [], ⟨#[]⟩⟩ := by unfold guessA; rw [if_pos e1]
    by_cases h2 : l.length = 2
    · obtain ⟨w0, w1, rfl⟩ := len2' h2
      have e1 : w0 = wErr := e1
      have ha : answerP [w0, w1] = if (numP w1).2 ≠ 0 ∨ (numP w1).1 = 0 ∨ 999 < (numP w1).1 then Ans.wrong else ⟨(numP w1).1, [], ⟨#[]⟩⟩ := by
        unfold answerP
        rw [if_neg h1, if_pos ⟨rfl, e1⟩]
        rfl
      have hg : guessA [w0, w1] = ⟨numR w1, [], ⟨#[]⟩⟩ := hg
      by_cases hn : (numP w1).2 = 0
      · have hp : numP w1 = ((numP w1).1, 0) := by rw [← hn]
        obtain ⟨hc, c1, c2⟩ := num_canon hp
        have hR : numR w1 = (numP w1).1 := by unfold numR; rw [if_pos hn]
        rw [hR] at hg
        generalize (numP w1).1 = n at *
        by_cases hbad : n = 0 ∨ 999 < n
        · rw [if_pos (.inr hbad)] at ha
          rw [readW_wrong ha, readV_wrong]
          rw [hg]
          rintro ⟨p, r⟩
          have p := proper_iff.1 p
          simp only at p
          rcases hbad with rfl | hbad
          · have e : repliesA ⟨0, [], ⟨#[]⟩⟩ = [wOk] := by decide +kernel
            rw [e] at r
            simp at r
          · omega
        · rw [if_neg (by rintro (h | h); exact h hn; exact hbad h)] at ha
          unfold readW readV
          rw [ha, hg]
          refine ite_pair' ?_ (fun _ => rfl)
          refine ⟨fun p => ⟨p, ?_⟩, fun p => p.1⟩
          unfold repliesA
          rw [if_pos (by simp only; omega)]
          simp only [hc, e1]
      · rw [if_pos (.inl hn)] at ha
        rw [readW_wrong ha, readV_wrong]
        rw [hg]
        have hR : numR w1 = -1 := by unfold numR; rw [if_neg hn]
        rintro ⟨p, -⟩
        have p := proper_iff.1 p
        simp only [hR] at p
        omega
    · have ha : answerP l = Ans.wrong := by
        unfold answerP
        rw [if_neg h1, if_neg (fun hh => h2 hh.1), if_neg, if_neg]
        · rintro ⟨_, hh, _⟩; rw [e1] at hh; exact absurd hh (by decide)
        · rintro ⟨_, hh, _⟩; rw [e1] at hh; exact absurd hh (by decide)
      rw [readW_wrong ha, readV_wrong]
      rw [hg]
      rintro ⟨-, r⟩
      unfold repliesA at r
      simp only at r
      split at r
      · exact h2 (by rw [← r]; rfl)
      · simp only [List.length_nil, Nat.lt_irrefl, if_false] at r
        rw [if_neg (by decide)] at r
        exact h1 r.symm
  have herr : ¬ (l.length = 2 ∧ atL l 0 = wErr) := fun hh => e1 hh.2
  by_cases e2 : atL l 1 = wData
  · have hg : guessA l = ⟨0, bytesOf (atL l 2), ⟨#[]⟩⟩ := by unfold guessA; rw [if_neg e1, if_pos e2]
    by_cases hgood : l.length = 3 ∧ atL l 0 = wOk ∧ atL l 1 = wData ∧ atL l 2 ≠ ⟨#[]⟩
    · have ha : answerP l = ⟨0, bytesOf (atL l 2), ⟨#[]⟩⟩ := by
        unfold answerP
        rw [if_neg h1, if_neg herr, if_pos hgood]
      obtain ⟨g1, g2, g3, g4⟩ := hgood
      unfold readW readV
      rw [ha, hg]
      refine ite_pair' ?_ (fun _ => rfl)
      refine ⟨fun p => ⟨p, ?_⟩, fun p => p.1⟩
      obtain ⟨w0, w1, w2, rfl⟩ := len3' g1
      have g2 : w0 = wOk := g2
      have g3 : w1 = wData := g3
      have g4 : w2 ≠ ⟨#[]⟩ := g4
      have hs : w2.size ≠ 0 := fun e => g4 (size0.1 e)
      show repliesA ⟨0, bytesOf w2, ⟨#[]⟩⟩ = _
      unfold repliesA
      simp only
      rw [if_neg (by simp), if_pos (by rw [bytesOf_length]; omega), strOf_bytesOf, g2, g3]
    · have ha : answerP l = Ans.wrong := by
        unfold answerP
        rw [if_neg h1, if_neg herr, if_neg hgood, if_neg]
        rintro ⟨_, _, hh, _⟩; rw [e2] at hh; exact absurd hh (by decide)
      rw [readW_wrong ha, readV_wrong]
      rw [hg]
      rintro ⟨-, r⟩
      unfold repliesA at r
      simp only [ne_eq, not_true_eq_false, if_false] at r
      split at r
      · rename_i hl
        rw [strOf_bytesOf] at r
        refine hgood ⟨by rw [← r]; rfl, by rw [← r]; rfl, e2, ?_⟩
        intro hh
        rw [hh] at hl
        exact absurd hl (by decide)
      · rw [if_neg (by decide)] at r
        exact h1 r.symm
  have hdat : ¬ (l.length = 3 ∧ atL l 0 = wOk ∧ atL l 1 = wData ∧ atL l 2 ≠ ⟨#[]⟩) := fun hh => e2 hh.2.2.1
  by_cases e3 : atL l 1 = wText
  · have hg : guessA l = ⟨0, [], atL l 2⟩ := by unfold guessA; rw [if_neg e1, if_neg e2, if_pos e3]
    by_cases hgood : l.length = 3 ∧ atL l 0 = wOk ∧ atL l 1 = wText ∧ atL l 2 ≠ ⟨#[]⟩
    · have ha : answerP l = ⟨0, [], atL l 2⟩ := by
        unfold answerP
        rw [if_neg h1, if_neg herr, if_neg hdat, if_pos hgood]
      obtain ⟨g1, g2, g3, g4⟩ := hgood
      unfold readW readV
      rw [ha, hg]
      refine ite_pair' ?_ (fun _ => rfl)
      refine ⟨fun p => ⟨p, ?_⟩, fun p => p.1⟩
      obtain ⟨w0, w1, w2, rfl⟩ := len3' g1
      have g2 : w0 = wOk := g2
      have g3 : w1 = wText := g3
      have g4 : w2 ≠ ⟨#[]⟩ := g4
      have hs : w2.size ≠ 0 := fun e => g4 (size0.1 e)
      show repliesA ⟨0, [], w2⟩ = _
      unfold repliesA
      simp only
      rw [if_neg (by simp), if_neg (by simp), if_pos hs, g2, g3]
    · have ha : answerP l = Ans.wrong := by
        unfold answerP
        rw [if_neg h1, if_neg herr, if_neg hdat, if_neg hgood]
      rw [readW_wrong ha, readV_wrong]
      rw [hg]
      rintro ⟨-, r⟩
      unfold repliesA at r
      simp only [ne_eq, not_true_eq_false, if_false, List.length_nil, Nat.lt_irrefl] at r
      split at r
      · rename_i hl
        refine hgood ⟨by rw [← r]; rfl, by rw [← r]; rfl, e3, fun hh => hl ?_⟩
        rw [hh]; rfl
      · exact h1 r.symm
  · have hg : guessA l = Ans.zero := by unfold guessA; rw [if_neg e1, if_neg e2, if_neg e3]
    have ha : answerP l = Ans.wrong := by
      unfold answerP
      rw [if_neg h1, if_neg herr, if_neg hdat, if_neg (fun hh => e3 hh.2.2.1)]
    rw [readW_wrong ha, readV_wrong]
    rw [hg]
    rintro ⟨-, r⟩
    have e : repliesA Ans.zero = [wOk] := by decide +kernel
    rw [e] at r
    exact h1 r.symm

theorem readRef_eq (s : ByteArray) : readRef s = readS s := by
  unfold readRef readS
  rw [read_agree]

end Go.Proofs.YtimhjbihhchieaaDoor.Q

namespace Go.Proofs.YtimhjbihhchieaaDoor.Q
open Go Go.V
set_option linter.unusedVariables false
set_option linter.unusedSimpArgs false
set_option maxRecDepth 100000
variable {N : Nat} {WL : World}

structure Fair (r : Req) : Prop where
  byte : InR r.data
  data : r.data.length ≤ 1000
  role : r.role.size ≤ 1000
  text : r.text.size ≤ 1000

set_option maxHeartbeats 4000000 in
theorem formatRef_s (r : Req) (f : Fair r) {w : ByteArray} {e : Int} (hp : formatR r = (w, e)) : Sound P N WL 17 [.lf r.v] [] (· = .ret (.tup [vS w, vI e]) []) := by
  have h1 := f.role
  have h2 := f.data
  have h3 := f.text
  refine Sound.of mix [] Go.Proofs.Tryd.func17 rfl rfl ?_
  unfold formatR at hp
  refine vcall_intro [] [] (and_i (valid35_s r (by omega)) ?_)
  rintro o rfl
  refine vif_split (fun h => ?_) (fun h => ?_) <;> (try rw [h])
  · have h : (!validR r) = true := h
    rw [if_neg (by simp at h; simp [h])] at hp
    cases hp
    refine ends ?_
    exact Eq.refl _
  · have h : (!validR r) = false := h
    rw [Bool.not_eq_false'] at h
    rw [if_pos h] at hp
    have g := valid_rng f.byte h
    refine vcall_intro [] [] (and_i (words35_s r g) ?_)
    rintro o rfl
    refine vcall_intro [] [] (and_i (join02_s (wordsR r) (wordsR_size r (by omega) (by omega) (by omega) g) hp) ?_)
    rintro o rfl
    refine ends ?_
    exact Eq.refl _

abbrev saneA : ByteArray := ⟨#[111, 112, 101, 110, 32, 51, 32, 109, 117, 115, 105, 99, 32, 112, 108, 97, 121, 98, 97, 99, 107, 32, 50, 32, 52, 56, 48, 48, 48, 32, 57, 54, 48]⟩
abbrev saneB : ByteArray := ⟨#[109, 117, 116, 101, 32, 51, 32, 111, 110]⟩
theorem sane_a : (parseP saneA).2 = 0 ∧ (parseP saneA).1.kind = 1 ∧ (parseP saneA).1.id = 3 ∧ (parseP saneA).1.lat = 960 ∧ (parseP saneA).1.dir = 1 := by decide +kernel
theorem sane_b : (parseP saneB).2 = 0 ∧ (parseP saneB).1.n = 1 := by decide +kernel

set_option maxHeartbeats 4000000 in
theorem sane35_s : Sound P N WL 6 [] [] (· = .ret (.lf (vB true)) []) := by
  refine Sound.of mix [] Go.Proofs.Tryd.func6 rfl rfl ?_
  obtain ⟨a1, a2, a3, a4, a5⟩ := sane_a
  obtain ⟨b1, b2⟩ := sane_b
  refine vcall_intro [] [] (and_i (parse_s saneA (q := (parseP saneA).1) (e := (parseP saneA).2) rfl) ?_)
  rintro o rfl
  generalize parseP saneA = pa at *
  refine vcall_intro [] [] (and_i (parse_s saneB (q := (parseP saneB).1) (e := (parseP saneB).2) rfl) ?_)
  rintro o rfl
  generalize parseP saneB = pb at *
  obtain ⟨⟨k, id, role, dir, ch, rate, lat, n, dev, data, text⟩, e⟩ := pa
  obtain ⟨⟨k', id', role', dir', ch', rate', lat', n', dev', data', text'⟩, e'⟩ := pb
  simp only at a1 a2 a3 a4 a5 b1 b2
  subst a1 a2 a3 a4 a5 b1 b2
  repeat' (refine vif_split (fun h => ?_) (fun h => ?_) <;> (try rw [h]) <;> (try exact absurd h (by decide)))
  all_goals
    refine ends ?_
    exact Eq.refl _

set_option maxHeartbeats 8000000 in
theorem bad_s (r : Req) (what : Int) (hb : InR r.data) (h1 : r.data.length ≤ 500) (h2 : r.role.size ≤ 500) (h3 : r.text.size ≤ 500) : Sound P N WL 15 [.lf r.v, .lf (vI what)] [] (fun o => ∃ q : Req, Fair q ∧ o = .ret (.lf q.v) []) := by
  obtain ⟨kind, id, role, dir, ch, rate, lat, n, dev, data, text⟩ := r
  simp only at hb h1 h2 h3
  refine Sound.of mix [] Go.Proofs.Tryd.func15 rfl rfl ?_
  refine vcall_intro [] [] (and_i (mod_s what 9 (by decide) (by decide)) ?_)
  rintro o rfl
  repeat' first
    | (refine vif_split (fun h => ?_) (fun h => ?_) <;> (try rw [h]) <;> (try simp only [beq_iff_eq, beq_eq_false_iff_ne, ne_eq] at h))
    | (refine vcall_intro [] [] (and_i (mod_s what 15 (by decide) (by decide)) ?_); rintro o rfl)
    | (refine vand_k (show text.size + (⟨#[120]⟩ : ByteArray).size ≤ 9223372036854775807 by have e : (⟨#[120]⟩ : ByteArray).size = 1 := rfl; omega) ?_)
    | (refine vand_k (fits_i (n := 0 + data.length) 1 rfl ⟨by omega, by omega⟩) ?_)
    | (refine vand_k (fits_i (n := (([] : List Int) ++ data).length + 1) 1 rfl ⟨by simp; omega, by simp; omega⟩) ?_)
  all_goals
    refine ⟨⟨_, _, _, _, _, _, _, _, _, _, _⟩, ?_, Eq.refl _⟩
    refine ⟨?_, ?_, ?_, ?_⟩
    · first
        | exact hb
        | exact InR.append (InR.append InR.nil hb) (fun z hz => by
            have hz : z ∈ ([0] : List Int) := hz
            simp only [List.mem_cons, List.not_mem_nil, or_false] at hz
            subst hz
            exact ⟨by decide, by decide⟩)
    · first
        | exact Nat.le_trans h1 (by decide)
        | (show ((([] : List Int) ++ data) ++ ([0] : List Int)).length ≤ 1000; simp; omega)
    · first
        | exact Nat.le_trans h2 (by decide)
        | (show ByteArray.size ⟨#[51]⟩ ≤ 1000; decide)
    · first
        | exact Nat.le_trans h3 (by decide)
        | (show (text ++ (⟨#[120]⟩ : ByteArray)).size ≤ 1000; rw [ByteArray.size_append]; have e : (⟨#[120]⟩ : ByteArray).size = 1 := rfl; omega)

abbrev Req.t (r : Req) : reqT.den := (r.kind, r.id, r.role, r.dir, r.ch, r.rate, r.lat, r.n, r.dev, r.data, r.text, ())
def ofT (t : reqT.den) : Req := match t with | (kind, id, role, dir, ch, rate, lat, n, dev, data, text, _) => ⟨kind, id, role, dir, ch, rate, lat, n, dev, data, text⟩
theorem Milled.fair {r : Req} (h : Milled r) : Fair r := ⟨h.byte, by have := h.data; omega, by have := h.role; omega, by have := h.text; omega⟩

set_option maxHeartbeats 16000000 in
theorem law_formats (hG : Glob N WL) (L : List Int) (hL : L.length ≤ 4611686018427387904) (raw : Req) (hby : InR raw.data) (hd : raw.data.length ≤ 140737488351232) (hr : raw.role.size ≤ 140737488351232) (ht : raw.text.size ≤ 140737488351232) (what : Int) :
    Sound P N WL 4 [.lf (vIs L), .lf raw.v, .lf (vI what)] [] (· = .ret (.lf (vB true)) []) := by
  refine Sound.of mix [] Go.Proofs.Tryd.func4 rfl rfl ?_
  refine vcall_intro [] [] (and_i sane35_s ?_)
  rintro o rfl
  refine vif_split (fun h => ?_) (fun h => ?_) <;> (try rw [h])
  · refine ends ?_
    exact Eq.refl _
  have h : decide (IntKind.i64.wrap (IntKind.i64.wrap ((raw.data.length : Int) + (raw.text.size : Int)) + (raw.role.size : Int)) > 400) = false := h
  have h := of_decide_eq_false h
  rw [wrap_in (n := (raw.data.length : Int) + (raw.text.size : Int)) (by omega) (by omega), wrap_in (by omega) (by omega)] at h
  refine vcall_intro [] [] (and_i (new_s L) ?_)
  rintro o rfl
  refine vcall_intro [3029] [] (and_i (request_a L hL 0) ?_)
  rintro o ⟨q, p, hq, rfl⟩
  have hq1 := hq.data
  have hq2 := hq.role
  have hq3 := hq.text
  refine draw_i true [4, 7] [(1, 1), (2, 1), (0, 2), (4, 2), (7, 2), (3, 0), (5, 1), (6, 1)] (by decide +kernel) ?_
  refine vcall_intro [] [] (and_i ⟨rfl, bad_s q what hq.byte (by omega) (by omega) (by omega)⟩ ?_)
  rintro o ⟨q2, hq2, rfl⟩
  refine vloop_i [36, 37, 38] [] (fun n r m => ∃ (l : List reqT.den) (i : Nat), r = regs 68 [(36, .lf (.val (.slice reqT) l)), (37, .lf (vI l.length)), (38, .lf (vI i))] ∧ m = [] ∧ l.length ≤ 3 ∧ (∀ t ∈ l, Fair (ofT t)) ∧ i + n = l.length) ⟨3, ([q.t, q2.t, raw.t] : List reqT.den), 0, rfl, rfl, Nat.le_refl 3, (by
    intro t ht
    simp only [List.mem_cons, List.not_mem_nil, or_false] at ht
    rcases ht with rfl | rfl | rfl
    · exact hq.fair
    · exact hq2
    · exact ⟨hby, by show raw.data.length ≤ 1000; omega, by show raw.role.size ≤ 1000; omega, by show raw.text.size ≤ 1000; omega⟩), rfl⟩ ?_
  rintro n r m ⟨l, i, rfl, rfl, h7, hf, hn⟩
  refine vif_split (fun h3 => ?_) (fun h3 => ?_) <;> (try rw [h3])
  · have h3 : decide ((i : Int) < (l.length : Int)) = true := h3
    have hlt : i < l.length := by have := of_decide_eq_true h3; omega
    have hi1 : IntKind.i64.wrap ((i : Int) + 1) = ((i + 1 : Nat) : Int) := by rw [wrap_in (by omega) (by omega)]; omega
    refine vand_k (show (0 : Int) ≤ (i : Int) ∧ (i : Int) < (l.length : Int) by omega) ?_
    have hx : Fair (ofT (List.getD l (Int.toNat (i : Int)) (Ty.dflt reqT))) := by
      have e : List.getD l (Int.toNat (i : Int)) (Ty.dflt reqT) = l[i] := getD_in hlt
      rw [e]
      exact hf _ (List.getElem_mem hlt)
    generalize List.getD l (Int.toNat (i : Int)) (Ty.dflt reqT) = x at hx ⊢
    obtain ⟨(kind : Int), (id : Int), (role : ByteArray), (dir : Int), (ch : Int), (rate : Int), (lat : Int), (nn : Int), (dev : Int), (data : List Int), (text : ByteArray), (u : Unit)⟩ := x
    have hx : Fair ⟨kind, id, role, dir, ch, rate, lat, nn, dev, data, text⟩ := hx
    have hx1 : data.length ≤ 1000 := hx.data
    have hx2 : role.size ≤ 1000 := hx.role
    have hv := validP_eq hx.byte
    generalize hp : formatP ⟨kind, id, role, dir, ch, rate, lat, nn, dev, data, text⟩ = we
    obtain ⟨w, e⟩ := we
    refine vcall_intro [] [] (and_i (format_p hG ⟨kind, id, role, dir, ch, rate, lat, nn, dev, data, text⟩ hx.byte (Nat.le_trans hx2 (by decide)) (Nat.le_trans hx1 (by decide)) hp) ?_)
    rintro o rfl
    refine vcall_intro [] [] (and_i (formatRef_s ⟨kind, id, role, dir, ch, rate, lat, nn, dev, data, text⟩ hx ((formats_agree hx.byte).symm.trans hp)) ?_)
    rintro o rfl
    refine draw_i true [9] [(0, 1), (1, 1), (2, 1), (3, 1), (4, 1), (5, 1), (6, 1), (7, 1), (8, 1), (9, 1), (11, 2), (10, 0), (12, 0), (13, 1), (14, 1)] (by decide +kernel) ?_
    refine vif_split (fun h4 => ?_) (fun h4 => ?_) <;> (try rw [h4])
    · have h4 : (!(ByteArray.toList w == ByteArray.toList w)) = true := h4
      simp at h4
    refine vif_split (fun h5 => ?_) (fun h5 => ?_) <;> (try rw [h5])
    · have h5 : (e != e) = true := h5
      simp at h5
    refine vcall_intro [] [] (and_i ⟨rfl, valid_p ⟨kind, id, role, dir, ch, rate, lat, nn, dev, data, text⟩ (Nat.le_trans hx2 (by decide)) (Nat.le_trans hx1 (by decide))⟩ ?_)
    rintro o rfl
    refine vcall_intro [] [] (and_i ⟨rfl, valid35_s ⟨kind, id, role, dir, ch, rate, lat, nn, dev, data, text⟩ (Nat.le_trans hx2 (by decide))⟩ ?_)
    rintro o rfl
    refine vif_split (fun h6 => ?_) (fun h6 => ?_) <;> (try rw [h6])
    · have h6 : (!(validP ⟨kind, id, role, dir, ch, rate, lat, nn, dev, data, text⟩ == validR ⟨kind, id, role, dir, ch, rate, lat, nn, dev, data, text⟩)) = true := h6
      rw [hv] at h6
      simp at h6
    · exact next_i (n - 1) (by omega) ⟨l, i + 1, congrArg (fun x => regs 68 [(36, .lf (.val (.slice reqT) l)), (37, .lf (vI l.length)), (38, .lf (vI x))]) hi1, rfl, h7, hf, by omega⟩
  · refine ends ?_
    exact Eq.refl _

end Go.Proofs.YtimhjbihhchieaaDoor.Q

namespace Go.Proofs.YtimhjbihhchieaaDoor.Q
open Go Go.V
set_option linter.unusedVariables false
set_option linter.unusedSimpArgs false
set_option maxRecDepth 100000

theorem line_len : ∀ (L : List (List Int)), (wlineL L).length ≤ (L.map fun w => 2 * w.length + 3).sum
  | [] => by simp [wlineL]
  | [w] => by
    have := (wordL_len w).2
    simp [wlineL]
    omega
  | w :: v :: l => by
    have := (wordL_len w).2
    have ih := line_len (v :: l)
    rw [wlineL, List.length_append, List.length_cons, List.map_cons, List.sum_cons]
    omega
theorem jline_len (l : List ByteArray) : (jline l).length ≤ (l.map fun w => 2 * w.size + 3).sum := by
  have := line_len (Bts l)
  unfold jline
  refine Nat.le_trans this ?_
  rw [Bts, List.map_map]
  refine Nat.le_of_eq (congrArg List.sum ?_)
  refine List.map_congr_left fun w _ => ?_
  simp only [Function.comp, bytesOf_length]
theorem join_of {l : List ByteArray} (h : l.length ≤ 64) (hs : (l.map fun w => 2 * w.size + 3).sum ≤ 4096) : joinP l = (V.strOfNums (jline l), 0) ∧ splitP (V.strOfNums (jline l)) = (l, 0) ∧ (V.strOfNums (jline l)).size ≤ 4096 := by
  have hj := jline_len l
  refine ⟨?_, split_join l h (by omega), ?_⟩
  · rw [joinP_eq, if_neg (by omega)]
  · rw [strOf_size]; omega

theorem numR_itoa {n : Int} (h0 : -9007199254740992 ≤ n) (h1 : n ≤ 9007199254740992) : numR (itoaB n) = n := by
  unfold numR
  rw [num_itoa n h0 h1]
  simp
theorem name_size {s : ByteArray} (h : nameP s = true) : s.size ≤ 64 := by
  unfold nameP nameL at h
  simp only [Bool.and_eq_true, decide_eq_true_eq] at h
  rw [← bytesOf_length]
  exact h.2

theorem back_words {r : Req} (hb : InR r.data) (hdev : 0 ≤ r.dev) (hv : validR r = true) : guessR (wordsR r) = r ∧ (wordsR r).length ≤ 64 ∧ ((wordsR r).map fun w => 2 * w.size + 3).sum ≤ 4096 := by
  obtain ⟨⟨k0, k1⟩, hc, hid, hf⟩ := (validR_iff hb).1 hv
  have g := valid_rng hb hv
  have e1 := itoaB_size g.id
  have e2 := itoaB_size g.ch
  have e3 := itoaB_size g.rate
  have e4 := itoaB_size g.lat
  have e5 := itoaB_size g.n
  have e6 := itoaB_size (wrap_64 r.dev)
  have e7 := wordR_size r.kind
  have e8 := strOf_size r.data
  obtain ⟨kind, id, role, dir, ch, rate, lat, n, dev, data, text⟩ := r
  simp only at k0 k1 hdev hid e1 e2 e3 e4 e5 e6 e7 e8
  have : kind = 1 ∨ kind = 2 ∨ kind = 3 ∨ kind = 4 ∨ kind = 5 ∨ kind = 6 ∨ kind = 7 ∨ kind = 8 ∨ kind = 9 ∨ kind = 10 ∨ kind = 11 ∨ kind = 12 := by omega
  rcases this with rfl | rfl | rfl | rfl | rfl | rfl | rfl | rfl | rfl | rfl | rfl | rfl
  · simp [cleanR] at hc
    have hrec : (⟨1, id, role, dir, ch, rate, lat, n, dev, data, text⟩ : Req) = ⟨1, id, role, dir, ch, rate, lat, 0, 0, [], ⟨#[]⟩⟩ := by simp [hc]
    simp [fieldsR, opensR_iff] at hf
    obtain ⟨f1, f2, f3, f4, f5⟩ := hf
    have hn := name_size f1
    have hd2 : (if dir = 2 then wCapt else wPlay).size ≤ 8 := by split <;> decide
    have n1 := numR_itoa (n := id) (by omega) (by omega)
    have n2 := numR_itoa (n := ch) (by omega) (by omega)
    have n3 := numR_itoa (n := rate) (by omega) (by omega)
    have n4 := numR_itoa (n := lat) (by omega) (by omega)
    have hw : wordsR ⟨1, id, role, dir, ch, rate, lat, 0, 0, [], ⟨#[]⟩⟩ = [wordR 1, itoaB id, role, if dir = 2 then wCapt else wPlay, itoaB ch, itoaB rate, itoaB lat] := by simp [wordsR]
    rw [hrec, hw]
    refine ⟨?_, by simp, ?_⟩
    · unfold guessR
      rw [show atL [wordR 1, itoaB id, role, if dir = 2 then wCapt else wPlay, itoaB ch, itoaB rate, itoaB lat] 0 = wordR 1 from rfl, show kindUpto (wordR 1) 12 = 1 from by decide]
      simp [atL, n1, n2, n3, n4]
      rcases f2 with rfl | rfl <;> rfl
    · simp only [List.map_cons, List.map_nil, List.sum_cons, List.sum_nil]
      omega
  · simp [cleanR] at hc
    have hrec : (⟨2, id, role, dir, ch, rate, lat, n, dev, data, text⟩ : Req) = ⟨2, id, ⟨#[]⟩, 0, 0, 0, 0, 0, 0, [], ⟨#[]⟩⟩ := by simp [hc]
    have n1 := numR_itoa (n := id) (by omega) (by omega)
    have hw : wordsR ⟨2, id, ⟨#[]⟩, 0, 0, 0, 0, 0, 0, [], ⟨#[]⟩⟩ = [wordR 2, itoaB id] := by simp [wordsR]
    rw [hrec, hw]
    refine ⟨?_, by simp, ?_⟩
    · unfold guessR
      rw [show atL [wordR 2, itoaB id] 0 = wordR 2 from rfl, show kindUpto (wordR 2) 12 = 2 from by decide]
      simp [atL, n1]
    · simp only [List.map_cons, List.map_nil, List.sum_cons, List.sum_nil]
      omega
  · simp [cleanR] at hc
    have hrec : (⟨3, id, role, dir, ch, rate, lat, n, dev, data, text⟩ : Req) = ⟨3, id, ⟨#[]⟩, 0, 0, 0, 0, 0, 0, [], ⟨#[]⟩⟩ := by simp [hc]
    have n1 := numR_itoa (n := id) (by omega) (by omega)
    have hw : wordsR ⟨3, id, ⟨#[]⟩, 0, 0, 0, 0, 0, 0, [], ⟨#[]⟩⟩ = [wordR 3, itoaB id] := by simp [wordsR]
    rw [hrec, hw]
    refine ⟨?_, by simp, ?_⟩
    · unfold guessR
      rw [show atL [wordR 3, itoaB id] 0 = wordR 3 from rfl, show kindUpto (wordR 3) 12 = 3 from by decide]
      simp [atL, n1]
    · simp only [List.map_cons, List.map_nil, List.sum_cons, List.sum_nil]
      omega
  · simp [cleanR] at hc
    have hrec : (⟨4, id, role, dir, ch, rate, lat, n, dev, data, text⟩ : Req) = ⟨4, id, ⟨#[]⟩, 0, 0, 0, 0, 0, 0, [], ⟨#[]⟩⟩ := by simp [hc]
    have n1 := numR_itoa (n := id) (by omega) (by omega)
    have hw : wordsR ⟨4, id, ⟨#[]⟩, 0, 0, 0, 0, 0, 0, [], ⟨#[]⟩⟩ = [wordR 4, itoaB id] := by simp [wordsR]
    rw [hrec, hw]
    refine ⟨?_, by simp, ?_⟩
    · unfold guessR
      rw [show atL [wordR 4, itoaB id] 0 = wordR 4 from rfl, show kindUpto (wordR 4) 12 = 4 from by decide]
      simp [atL, n1]
    · simp only [List.map_cons, List.map_nil, List.sum_cons, List.sum_nil]
      omega
  · simp [cleanR] at hc
    have hrec : (⟨5, id, role, dir, ch, rate, lat, n, dev, data, text⟩ : Req) = ⟨5, id, ⟨#[]⟩, 0, 0, 0, 0, 0, 0, [], ⟨#[]⟩⟩ := by simp [hc]
    have n1 := numR_itoa (n := id) (by omega) (by omega)
    have hw : wordsR ⟨5, id, ⟨#[]⟩, 0, 0, 0, 0, 0, 0, [], ⟨#[]⟩⟩ = [wordR 5, itoaB id] := by simp [wordsR]
    rw [hrec, hw]
    refine ⟨?_, by simp, ?_⟩
    · unfold guessR
      rw [show atL [wordR 5, itoaB id] 0 = wordR 5 from rfl, show kindUpto (wordR 5) 12 = 5 from by decide]
      simp [atL, n1]
    · simp only [List.map_cons, List.map_nil, List.sum_cons, List.sum_nil]
      omega
  · simp [cleanR] at hc
    have hrec : (⟨6, id, role, dir, ch, rate, lat, n, dev, data, text⟩ : Req) = ⟨6, id, ⟨#[]⟩, 0, 0, 0, 0, n, 0, [], ⟨#[]⟩⟩ := by simp [hc]
    simp [fieldsR, inR_iff] at hf
    have n1 := numR_itoa (n := id) (by omega) (by omega)
    have n2 := numR_itoa (n := n) (by omega) (by omega)
    have hw : wordsR ⟨6, id, ⟨#[]⟩, 0, 0, 0, 0, n, 0, [], ⟨#[]⟩⟩ = [wordR 6, itoaB id, itoaB n] := by simp [wordsR]
    rw [hrec, hw]
    refine ⟨?_, by simp, ?_⟩
    · unfold guessR
      rw [show atL [wordR 6, itoaB id, itoaB n] 0 = wordR 6 from rfl, show kindUpto (wordR 6) 12 = 6 from by decide]
      simp [atL, n1, n2]
    · simp only [List.map_cons, List.map_nil, List.sum_cons, List.sum_nil]
      omega
  · simp [cleanR] at hc
    have hrec : (⟨7, id, role, dir, ch, rate, lat, n, dev, data, text⟩ : Req) = ⟨7, id, ⟨#[]⟩, 0, 0, 0, 0, n, 0, [], ⟨#[]⟩⟩ := by simp [hc]
    simp [fieldsR, inR_iff] at hf
    have hd2 : (if n = 1 then wOn else wOff).size ≤ 8 := by split <;> decide
    have n1 := numR_itoa (n := id) (by omega) (by omega)
    have hw : wordsR ⟨7, id, ⟨#[]⟩, 0, 0, 0, 0, n, 0, [], ⟨#[]⟩⟩ = [wordR 7, itoaB id, if n = 1 then wOn else wOff] := by simp [wordsR]
    rw [hrec, hw]
    refine ⟨?_, by simp, ?_⟩
    · unfold guessR
      rw [show atL [wordR 7, itoaB id, if n = 1 then wOn else wOff] 0 = wordR 7 from rfl, show kindUpto (wordR 7) 12 = 7 from by decide]
      simp [atL, n1]
      have : n = 0 ∨ n = 1 := by omega
      rcases this with rfl | rfl <;> rfl
    · simp only [List.map_cons, List.map_nil, List.sum_cons, List.sum_nil]
      omega
  · simp [cleanR] at hc
    have hrec : (⟨8, id, role, dir, ch, rate, lat, n, dev, data, text⟩ : Req) = ⟨8, id, ⟨#[]⟩, 0, 0, 0, 0, 0, 0, data, ⟨#[]⟩⟩ := by simp [hc]
    simp [fieldsR] at hf
    have n1 := numR_itoa (n := id) (by omega) (by omega)
    have hw : wordsR ⟨8, id, ⟨#[]⟩, 0, 0, 0, 0, 0, 0, data, ⟨#[]⟩⟩ = [wordR 8, itoaB id, V.strOfNums data] := by simp [wordsR]
    rw [hrec, hw]
    refine ⟨?_, by simp, ?_⟩
    · unfold guessR
      rw [show atL [wordR 8, itoaB id, V.strOfNums data] 0 = wordR 8 from rfl, show kindUpto (wordR 8) 12 = 8 from by decide]
      simp [atL, n1, bytesOf_strOf data hb]
    · simp only [List.map_cons, List.map_nil, List.sum_cons, List.sum_nil]
      omega
  · simp [cleanR] at hc
    have hrec : (⟨9, id, role, dir, ch, rate, lat, n, dev, data, text⟩ : Req) = ⟨9, id, ⟨#[]⟩, 0, 0, 0, 0, n, 0, [], ⟨#[]⟩⟩ := by simp [hc]
    simp [fieldsR, inR_iff] at hf
    have n1 := numR_itoa (n := id) (by omega) (by omega)
    have n2 := numR_itoa (n := n) (by omega) (by omega)
    have hw : wordsR ⟨9, id, ⟨#[]⟩, 0, 0, 0, 0, n, 0, [], ⟨#[]⟩⟩ = [wordR 9, itoaB id, itoaB n] := by simp [wordsR]
    rw [hrec, hw]
    refine ⟨?_, by simp, ?_⟩
    · unfold guessR
      rw [show atL [wordR 9, itoaB id, itoaB n] 0 = wordR 9 from rfl, show kindUpto (wordR 9) 12 = 9 from by decide]
      simp [atL, n1, n2]
    · simp only [List.map_cons, List.map_nil, List.sum_cons, List.sum_nil]
      omega
  · simp [cleanR] at hc
    have hrec : (⟨10, id, role, dir, ch, rate, lat, n, dev, data, text⟩ : Req) = ⟨10, id, ⟨#[]⟩, 0, 0, 0, 0, 0, dev, [], ⟨#[]⟩⟩ := by simp [hc]
    simp [fieldsR] at hf
    have hw64 : IntKind.i64.wrap dev = dev := wrap_in (by omega) (by omega)
    have hwu : IntKind.u64.wrap dev = dev := u64_id _ (by omega) (by omega)
    have n9 := numR_itoa (n := dev) (by omega) (by omega)
    have n1 := numR_itoa (n := id) (by omega) (by omega)
    have hw : wordsR ⟨10, id, ⟨#[]⟩, 0, 0, 0, 0, 0, dev, [], ⟨#[]⟩⟩ = [wordR 10, itoaB id, itoaB (IntKind.i64.wrap dev)] := by simp [wordsR]
    rw [hrec, hw]
    refine ⟨?_, by simp, ?_⟩
    · unfold guessR
      rw [show atL [wordR 10, itoaB id, itoaB (IntKind.i64.wrap dev)] 0 = wordR 10 from rfl, show kindUpto (wordR 10) 12 = 10 from by decide]
      simp [atL, n1, hw64, hwu, n9]
    · simp only [List.map_cons, List.map_nil, List.sum_cons, List.sum_nil]
      omega
  · simp [cleanR] at hc
    have hrec : (⟨11, id, role, dir, ch, rate, lat, n, dev, data, text⟩ : Req) = ⟨11, 0, ⟨#[]⟩, 0, 0, 0, 0, 0, 0, [], text⟩ := by simp [hc]
    simp [fieldsR] at hf
    have hw : wordsR ⟨11, 0, ⟨#[]⟩, 0, 0, 0, 0, 0, 0, [], text⟩ = [wordR 11, text] := by simp [wordsR]
    rw [hrec, hw]
    refine ⟨?_, by simp, ?_⟩
    · unfold guessR
      rw [show atL [wordR 11, text] 0 = wordR 11 from rfl, show kindUpto (wordR 11) 12 = 11 from by decide]
      simp [atL]
    · simp only [List.map_cons, List.map_nil, List.sum_cons, List.sum_nil]
      omega
  · simp [cleanR] at hc
    have hrec : (⟨12, id, role, dir, ch, rate, lat, n, dev, data, text⟩ : Req) = ⟨12, 0, ⟨#[]⟩, 0, 0, 0, 0, 0, 0, [], ⟨#[]⟩⟩ := by simp [hc]
    have hw : wordsR ⟨12, 0, ⟨#[]⟩, 0, 0, 0, 0, 0, 0, [], ⟨#[]⟩⟩ = [wordR 12] := by simp [wordsR]
    rw [hrec, hw]
    refine ⟨?_, by simp, ?_⟩
    · unfold guessR
      rw [show atL [wordR 12] 0 = wordR 12 from rfl, show kindUpto (wordR 12) 12 = 12 from by decide]
      simp [atL]
    · simp only [List.map_cons, List.map_nil, List.sum_cons, List.sum_nil]
      omega

theorem format_back {r : Req} (hb : InR r.data) (hdev : 0 ≤ r.dev) (hv : validR r = true) : ∃ w : ByteArray, formatP r = (w, 0) ∧ parseP w = (r, 0) ∧ w.size ≤ 4096 := by
  obtain ⟨h1, h2, h3⟩ := back_words hb hdev hv
  obtain ⟨j1, j2, j3⟩ := join_of h2 h3
  refine ⟨_, ?_, ?_, j3⟩
  · rw [formats_agree hb]
    unfold formatR
    rw [if_pos hv, j1]
  · unfold parseP
    rw [j2]
    simp only [ne_eq, not_true_eq_false, if_false]
    rw [parse_agree]
    unfold parseG
    rw [h1, if_pos ⟨hv, rfl⟩]

theorem reply_back {a : Ans} (hb : InR a.data) (hp : properA a = true) : ∃ w : ByteArray, replyA a = (w, 0) ∧ readS w = (a, 0) ∧ w.size ≤ 4096 := by
  obtain ⟨p1, p2, p3, p4, p5, p6⟩ := proper_iff.1 hp
  obtain ⟨code, data, text⟩ := a
  simp only at p1 p2 p3 p4 p5 p6
  have e1 := itoaB_size (n := code) (by constructor <;> omega)
  have e2 := strOf_size data
  have hl : (repliesA ⟨code, data, text⟩).length ≤ 64 ∧ ((repliesA ⟨code, data, text⟩).map fun w => 2 * w.size + 3).sum ≤ 4096 := by
    have o1 : wOk.size = 2 := rfl
    have o2 : wErr.size = 5 := rfl
    have o3 : wData.size = 4 := rfl
    have o4 : wText.size = 4 := rfl
    unfold repliesA
    repeat' split
    all_goals
      refine ⟨by simp, ?_⟩
      simp only [List.map_cons, List.map_nil, List.sum_cons, List.sum_nil]
      omega
  obtain ⟨j1, j2, j3⟩ := join_of hl.1 hl.2
  refine ⟨_, ?_, ?_, j3⟩
  · unfold replyA
    rw [if_pos hp, j1]
  · unfold readS
    rw [j2]
    simp only [ne_eq, not_true_eq_false, if_false]
    rw [read_agree]
    have hg : guessA (repliesA ⟨code, data, text⟩) = ⟨code, data, text⟩ := by
      unfold repliesA
      simp only
      by_cases h1 : code = 0
      · subst h1
        rw [if_neg (by simp)]
        by_cases h2 : 0 < data.length
        · have ht : text.size = 0 := by omega
          rw [if_pos h2]
          show (if wOk = wErr then _ else if wData = wData then (⟨0, bytesOf (V.strOfNums data), ⟨#[]⟩⟩ : Ans) else _) = _
          rw [if_neg (by decide), if_pos rfl, bytesOf_strOf data hb, size0.1 ht]
        · have hd : data = [] := List.length_eq_zero_iff.1 (by omega)
          subst hd
          rw [if_neg h2]
          by_cases h3 : text.size ≠ 0
          · rw [if_pos h3]
            show (if wOk = wErr then _ else if wText = wData then _ else if wText = wText then (⟨0, [], text⟩ : Ans) else _) = _
            rw [if_neg (by decide), if_neg (by decide), if_pos rfl]
          · rw [if_neg h3]
            have ht : text = ⟨#[]⟩ := size0.1 (by omega)
            subst ht
            unfold guessA
            rw [if_neg (by decide), if_neg (by decide), if_neg (by decide)]
      · have ht : text = ⟨#[]⟩ := size0.1 (by omega)
        have hd : data = [] := List.length_eq_zero_iff.1 (by omega)
        subst ht hd
        rw [if_pos h1]
        show (if wErr = wErr then (⟨numR (itoaB code), [], ⟨#[]⟩⟩ : Ans) else _) = _
        rw [if_pos rfl, numR_itoa (by omega) (by omega)]
    unfold readV
    rw [hg, if_pos ⟨hp, rfl⟩]

end Go.Proofs.YtimhjbihhchieaaDoor.Q

namespace Go.Proofs.YtimhjbihhchieaaDoor.Q
open Go Go.V
set_option linter.unusedVariables false
set_option linter.unusedSimpArgs false
set_option maxRecDepth 100000
variable {N : Nat} {WL : World}

def sameA (a b : Ans) : Bool := (a.code == b.code) && ((V.strOfNums a.data).toList == (V.strOfNums b.data).toList) && (a.text.toList == b.text.toList)
theorem sameA_self (a : Ans) : sameA a a = true := by simp [sameA]
set_option maxHeartbeats 4000000 in
theorem sameAnswer_s (a b : Ans) : Sound P N WL 12 [.lf a.v, .lf b.v] [] (· = .ret (.lf (vB (sameA a b))) []) := by
  refine Sound.of mix [] Go.Proofs.Tryd.func12 rfl rfl ?_
  repeat' (refine vif_split (fun h => ?_) (fun h => ?_) <;> (try rw [h]))
  all_goals (refine ends (ret1 (aB ?_)); unfold sameA; simp_all)

structure FairA (a : Ans) : Prop where
  data : a.data.length ≤ 1000
  text : a.text.size ≤ 1000
abbrev Ans.t (a : Ans) : ansT.den := (a.code, a.data, a.text, ())
def ansOf (t : ansT.den) : Ans := match t with | (code, data, text, _) => ⟨code, data, text⟩
def cOK (d : A0) (l : List Int) : Prop := d = vBs l ∨ d = .al (.ce 7 1) (.int .u8) l

theorem joinP_size {l : List ByteArray} {w : ByteArray} {e : Int} (h : joinP l = (w, e)) : w.size ≤ 4096 := by
  rw [joinP_eq] at h
  split at h
  · cases h; decide
  · cases h
    rw [strOf_size]
    omega

set_option maxHeartbeats 32000000 in
theorem law_answers (hG : Glob N WL) (a : Ans) (hd : a.data.length ≤ 140737488351232) (ht : a.text.size ≤ 140737488351232) (raw : ByteArray) (n : Int) :
    Sound P N WL 3 [.lf a.v, .lf (vS raw), .lf (vI n)] [] (· = .ret (.lf (vB true)) []) := by
  refine Sound.of mix [] Go.Proofs.Tryd.func3 rfl rfl ?_
  refine vcall_intro [] [] (and_i sane35_s ?_)
  rintro o rfl
  refine vif_split (fun h => ?_) (fun h => ?_) <;> (try rw [h])
  · refine ends ?_
    exact Eq.refl _
  have h : decide (IntKind.i64.wrap ((a.data.length : Int) + (a.text.size : Int)) > 400) = false := h
  have h := of_decide_eq_false h
  rw [wrap_in (by omega) (by omega)] at h
  refine vif_split (fun h2 => ?_) (fun h2 => ?_) <;> (try rw [h2])
  · refine ends ?_
    exact Eq.refl _
  have h2 : decide ((raw.size : Int) > 300) = false := h2
  have h2 := of_decide_eq_false h2
  have hfa : FairA a := ⟨by omega, by omega⟩
  refine vcall_intro [] [] (and_i (mod_s n 4 (by decide) (by decide)) ?_)
  rintro o rfl
  repeat' first
    | (refine vif_split (fun h => ?_) (fun h => ?_) <;> (try rw [h]))
    | (refine vcall_intro [] [] (and_i (mod_s n 1100 (by decide) (by decide)) ?_); rintro o rfl)
  all_goals
    refine vloop_i [1, 2, 7, 55, 56, 57] [7] (fun k r m => ∃ (l : List ansT.den) (i : Nat) (b : Ans), r = regs 126 [(1, .lf (vS raw)), (2, .lf (vI n)), (7, .lf (.ptr 7 0)), (55, .lf (.val (.slice ansT) l)), (56, .lf (vI l.length)), (57, .lf (vI i))] ∧
      m = [(7, [vI b.code, vBs b.data, vS b.text])] ∧ FairA b ∧ l.length ≤ 2 ∧ (∀ t ∈ l, FairA (ansOf t)) ∧ i + k = l.length) (by
        have key : ∀ (b : Ans), FairA b → ∀ t ∈ ([a.t, b.t] : List ansT.den), FairA (ansOf t) := by
          intro b hb t ht
          simp only [List.mem_cons, List.not_mem_nil, or_false] at ht
          rcases ht with rfl | rfl
          · exact hfa
          · exact hb
        have b0 : FairA ⟨0, a.data, ⟨#[]⟩⟩ := ⟨hfa.data, by show ByteArray.size ⟨#[]⟩ ≤ 1000; decide⟩
        have b1 : FairA ⟨0, [], a.text⟩ := ⟨Nat.zero_le _, hfa.text⟩
        have b2 : FairA ⟨mod n 1100, [], ⟨#[]⟩⟩ := ⟨Nat.zero_le _, by show ByteArray.size ⟨#[]⟩ ≤ 1000; decide⟩
        first
          | exact ⟨2, _, 0, ⟨0, a.data, ⟨#[]⟩⟩, rfl, rfl, b0, Nat.le_refl 2, key _ b0, rfl⟩
          | exact ⟨2, _, 0, ⟨0, [], a.text⟩, rfl, rfl, b1, Nat.le_refl 2, key _ b1, rfl⟩
          | exact ⟨2, _, 0, ⟨mod n 1100, [], ⟨#[]⟩⟩, rfl, rfl, b2, Nat.le_refl 2, key _ b2, rfl⟩
          | exact ⟨2, _, 0, a, rfl, rfl, hfa, Nat.le_refl 2, key _ hfa, rfl⟩) ?_
    rintro k r m ⟨l, i, b, rfl, rfl, hb, h7, hf, hn⟩
    refine vif_split (fun h3 => ?_) (fun h3 => ?_) <;> (try rw [h3])
    · have h3 : decide ((i : Int) < (l.length : Int)) = true := h3
      have hlt : i < l.length := by have := of_decide_eq_true h3; omega
      have hi1 : IntKind.i64.wrap ((i : Int) + 1) = ((i + 1 : Nat) : Int) := by rw [wrap_in (by omega) (by omega)]; omega
      refine vand_k (show (0 : Int) ≤ (i : Int) ∧ (i : Int) < (l.length : Int) by omega) ?_
      have hx : FairA (ansOf (List.getD l (Int.toNat (i : Int)) (Ty.dflt ansT))) := by
        have e : List.getD l (Int.toNat (i : Int)) (Ty.dflt ansT) = l[i] := getD_in hlt
        rw [e]
        exact hf _ (List.getElem_mem hlt)
      generalize List.getD l (Int.toNat (i : Int)) (Ty.dflt ansT) = x at hx ⊢
      obtain ⟨(code : Int), (data : List Int), (text : ByteArray), (u : Unit)⟩ := x
      have hx : FairA ⟨code, data, text⟩ := hx
      have hx1 : data.length ≤ 1000 := hx.data
      have hx2 : text.size ≤ 1000 := hx.text
      generalize hp : replyA ⟨code, data, text⟩ = we
      obtain ⟨w, e⟩ := we
      refine vcall_intro [] [] (and_i (reply_s hG ⟨code, data, text⟩ (Nat.le_trans hx1 (by decide)) (Nat.le_trans hx2 (by decide)) hp) ?_)
      rintro o rfl
      refine vcall_intro [] [] (and_i (reply35_s ⟨code, data, text⟩ hp) ?_)
      rintro o rfl
      refine vif_split (fun h4 => ?_) (fun h4 => ?_) <;> (try rw [h4])
      · have h4 : (!(ByteArray.toList w == ByteArray.toList w)) = true := h4
        simp at h4
      refine vif_split (fun h5 => ?_) (fun h5 => ?_) <;> (try rw [h5])
      · have h5 : (e != e) = true := h5
        simp at h5
      exact next_i (k - 1) (by omega) ⟨l, i + 1, b, congrArg (fun x => regs 126 [(1, .lf (vS raw)), (2, .lf (vI n)), (7, .lf (.ptr 7 0)), (55, .lf (.val (.slice ansT) l)), (56, .lf (vI l.length)), (57, .lf (vI x))]) hi1, rfl, hb, h7, hf, by omega⟩
    · have hb1 := hb.data
      have hb2 := hb.text
      generalize hp : replyA b = we
      obtain ⟨s, e⟩ := we
      have hs : s.size ≤ 4096 := by
        unfold replyA at hp
        split at hp
        · exact joinP_size hp
        · cases hp; decide
      refine vcall_intro [] [] (and_i (reply35_s b hp) ?_)
      rintro o rfl
      have hw : IntKind.i64.wrap ((s.size : Int) + 1) = ((s.size + 1 : Nat) : Int) := by rw [wrap_in (by omega) (by omega)]; omega
      refine vand_k (show (⟨#[111, 107, 32]⟩ : ByteArray).size + raw.size ≤ 9223372036854775807 by have e : (⟨#[111, 107, 32]⟩ : ByteArray).size = 3 := rfl; omega) ?_
      refine vand_k (show (⟨#[101, 114, 114, 111, 114, 32]⟩ : ByteArray).size + raw.size ≤ 9223372036854775807 by have e : (⟨#[101, 114, 114, 111, 114, 32]⟩ : ByteArray).size = 6 := rfl; omega) ?_
      refine vand_k (show (⟨#[111, 107, 32, 100, 97, 116, 97, 32]⟩ : ByteArray).size + raw.size ≤ 9223372036854775807 by have e : (⟨#[111, 107, 32, 100, 97, 116, 97, 32]⟩ : ByteArray).size = 8 := rfl; omega) ?_
      refine vcall_intro [] [] (and_i (mod_s n (IntKind.i64.wrap ((s.size : Int) + 1)) (by rw [hw]; omega) (by rw [hw]; omega)) ?_)
      rintro o rfl
      have hk := mod_in (v := n) (n := IntKind.i64.wrap ((s.size : Int) + 1)) (by rw [hw]; omega)
      generalize mod n (IntKind.i64.wrap ((s.size : Int) + 1)) = kk at hk ⊢
      rw [hw] at hk
      refine vand_k (show (0 : Int) ≤ 0 ∧ 0 ≤ kk ∧ kk ≤ (s.size : Int) by omega) ?_
      refine vloop_i [100, 101, 102] [] (fun n r m => ∃ (ws : List ByteArray) (i : Nat), r = regs 126 [(100, .lf (vSs ws)), (101, .lf (vI ws.length)), (102, .lf (vI i))] ∧ m = [] ∧ ws.length ≤ 6 ∧ i + n = ws.length) ⟨6, _, 0, rfl, rfl, Nat.le_refl 6, rfl⟩ ?_
      rintro n r m ⟨ws, i, rfl, rfl, h7, hn⟩
      refine vif_split (fun h3 => ?_) (fun h3 => ?_) <;> (try rw [h3])
      · have h3 : decide ((i : Int) < (ws.length : Int)) = true := h3
        have hlt : i < ws.length := by have := of_decide_eq_true h3; omega
        have hi1 : IntKind.i64.wrap ((i : Int) + 1) = ((i + 1 : Nat) : Int) := by rw [wrap_in (by omega) (by omega)]; omega
        refine vand_k (show (0 : Int) ≤ (i : Int) ∧ (i : Int) < (ws.length : Int) by omega) ?_
        generalize hp : readS (List.getD ws (Int.toNat (i : Int)) ByteArray.empty) = pe
        obtain ⟨q2, e2⟩ := pe
        refine vcall_intro [] [] (and_i (read_p _ hp) ?_)
        rintro o rfl
        refine vcall_intro [] [] (and_i (read35_s _ ((readRef_eq _).trans hp)) ?_)
        rintro o rfl
        refine vif_split (fun h4 => ?_) (fun h4 => ?_) <;> (try rw [h4])
        · have h4 : (e2 != e2) = true := h4
          simp at h4
        refine vcall_intro [] [] (and_i (sameAnswer_s q2 q2) ?_)
        rintro o rfl
        refine vif_split (fun h5 => ?_) (fun h5 => ?_)
        · have h5 : (!sameA q2 q2) = true := h5
          rw [sameA_self] at h5
          cases h5
        · exact next_i (n - 1) (by omega) ⟨ws, i + 1, congrArg (fun x => regs 126 [(100, .lf (vSs ws)), (101, .lf (vI ws.length)), (102, .lf (vI x))]) hi1, rfl, h7, by omega⟩
      · refine ends ?_
        exact Eq.refl _

end Go.Proofs.YtimhjbihhchieaaDoor.Q

namespace Go.Proofs.YtimhjbihhchieaaDoor.Q
open Go Go.V
set_option linter.unusedVariables false
set_option linter.unusedSimpArgs false
set_option maxRecDepth 100000
variable {N : Nat} {WL : World}

theorem inR_of {l : List Int} (h : ∀ n ∈ l, (Lit.int .u8 n).wf = true) : InR l := fun x hx => by
  have := h x hx
  simp only [Lit.wf, Bool.and_eq_true, decide_eq_true_eq] at this
  have e1 : IntKind.u8.min = 0 := rfl
  have e2 : IntKind.u8.max = 255 := rfl
  omega
theorem min_i (n k : Nat) : (vpure.minI (n : Int) (k : Int)) = ((min n k : Nat) : Int) := by
  unfold vpure.minI
  split <;> omega
structure OkR (r : Req) : Prop where
  byte : InR r.data
  dev : 0 ≤ r.dev
  valid : validR r = true
structure OkA (a : Ans) : Prop where
  byte : InR a.data
  valid : properA a = true
abbrev reqW (data : List Int) : Req := ⟨8, 7, ⟨#[]⟩, 0, 0, 0, 0, 0, 0, (data.take (vpure.minI (data.length : Int) 1024).toNat).drop (Int.toNat 0), ⟨#[]⟩⟩
abbrev reqX (text : ByteArray) : Req := ⟨11, 0, ⟨#[]⟩, 0, 0, 0, 0, 0, 0, [], text.extract (Int.toNat 0) (vpure.minI (text.size : Int) 1500).toNat⟩
theorem cut_data (data : List Int) : ((data.take (vpure.minI (data.length : Int) 1024).toNat).drop (Int.toNat 0)).length ≤ 1024 := by
  have := min_i data.length 1024
  rw [List.length_drop, List.length_take]
  have e : (vpure.minI (data.length : Int) 1024) = ((min data.length 1024 : Nat) : Int) := this
  rw [e]
  omega
theorem cut_byte {data : List Int} (h : InR data) : InR ((data.take (vpure.minI (data.length : Int) 1024).toNat).drop (Int.toNat 0)) := fun x hx => h x (List.mem_of_mem_take (List.mem_of_mem_drop hx))
theorem cut_text (text : ByteArray) : (text.extract (Int.toNat 0) (vpure.minI (text.size : Int) 1500).toNat).size ≤ 1500 := by
  have e : (vpure.minI (text.size : Int) 1500) = ((min text.size 1500 : Nat) : Int) := min_i text.size 1500
  rw [ByteArray.size_extract, e]
  omega
theorem okW {data : List Int} (h : InR data) : OkR (reqW data) := by
  refine ⟨cut_byte h, Int.le_refl 0, (validR_iff (cut_byte h)).2 ⟨⟨by simp only; omega, by simp only; omega⟩, ?_, ?_, ?_⟩⟩
  · simp [cleanR]
  · simp
  · have := cut_data data
    unfold fieldsR
    simp only
    rw [if_neg (by decide), if_neg (by decide), if_neg (by decide), if_pos (by decide)]
    exact decide_eq_true (by omega)
theorem okX (text : ByteArray) : OkR (reqX text) := by
  refine ⟨InR.nil, Int.le_refl 0, (validR_iff InR.nil).2 ⟨⟨by simp only; omega, by simp only; omega⟩, ?_, ?_, ?_⟩⟩
  · simp [cleanR]
  · simp
  · have := cut_text text
    unfold fieldsR
    simp only
    rw [if_neg (by decide), if_neg (by decide), if_neg (by decide), if_neg (by decide), if_neg (by decide), if_neg (by decide), if_pos (by decide)]
    exact decide_eq_true (by omega)
theorem okA0 (code : Int) : OkA ⟨mod code 1000, [], ⟨#[]⟩⟩ := by
  have := mod_in (v := code) (n := 1000) (by decide)
  refine ⟨InR.nil, proper_iff.2 ⟨by simp, by simp only; decide, this.1, by simp only; omega, .inl rfl, .inr ⟨rfl, rfl⟩⟩⟩
theorem okA1 {data : List Int} (h : InR data) : OkA ⟨0, (data.take (vpure.minI (data.length : Int) 1024).toNat).drop (Int.toNat 0), ⟨#[]⟩⟩ :=
  ⟨cut_byte h, proper_iff.2 ⟨cut_data data, by simp only; decide, Int.le_refl 0, by simp only; omega, .inr rfl, .inl rfl⟩⟩
theorem okA2 (text : ByteArray) : OkA ⟨0, [], text.extract (Int.toNat 0) (vpure.minI (text.size : Int) 1500).toNat⟩ :=
  ⟨InR.nil, proper_iff.2 ⟨by simp, cut_text text, Int.le_refl 0, by simp only; omega, .inl rfl, .inl rfl⟩⟩
theorem valid_small {r : Req} (h : OkR r) : r.role.size ≤ 1000000 ∧ r.data.length ≤ 1000000 ∧ r.text.size ≤ 1000000 := by
  obtain ⟨⟨k0, k1⟩, hc, hid, hf⟩ := (validR_iff h.byte).1 h.valid
  obtain ⟨kind, id, role, dir, ch, rate, lat, n, dev, data, text⟩ := r
  simp only [cleanR, Req.mk.injEq] at hc k0 k1
  obtain ⟨-, -, c3, -, -, -, -, -, -, c10, c11⟩ := hc
  have z : ByteArray.size ⟨#[]⟩ = 0 := rfl
  unfold fieldsR at hf
  simp only at hf ⊢
  refine ⟨?_, ?_, ?_⟩
  · by_cases h1 : kind = 1
    · rw [if_pos h1] at hf
      have := name_size (opensR_iff.1 hf).1
      omega
    · rw [if_neg h1] at c3; rw [c3]; omega
  · by_cases h8 : kind = 8
    · rw [if_neg (by omega), if_neg (by omega), if_neg (by omega), if_pos h8] at hf
      have := of_decide_eq_true hf
      omega
    · rw [if_neg h8] at c10; rw [c10]; exact Nat.zero_le _
  · by_cases h11 : kind = 11
    · rw [if_neg (by omega), if_neg (by omega), if_neg (by omega), if_neg (by omega), if_neg (by omega), if_neg (by omega), if_pos h11] at hf
      have := of_decide_eq_true hf
      omega
    · rw [if_neg h11] at c11; rw [c11]; omega
theorem sameR_self (q : Req) : sameR q q = true := by simp [sameR]

set_option maxHeartbeats 32000000 in
theorem law_back (hG : Glob N WL) (L : List Int) (hL : L.length ≤ 4611686018427387904) (data : List Int) (hby : InR data) (text : ByteArray) (code : Int) :
    Sound P N WL 5 [.lf (vIs L), .lf (vBs data), .lf (vS text), .lf (vI code)] [] (· = .ret (.lf (vB true)) []) := by
  refine Sound.of mix [] Go.Proofs.Tryd.func5 rfl rfl ?_
  refine vcall_intro [] [] (and_i sane35_s ?_)
  rintro o rfl
  refine vcall_intro [] [] (and_i (new_s L) ?_)
  rintro o rfl
  refine vcall_intro [3025] [] (and_i (request_a L hL 0) ?_)
  rintro o ⟨q, p, hq, rfl⟩
  have md : vpure.minI (data.length : Int) 1024 = ((min data.length 1024 : Nat) : Int) := min_i data.length 1024
  have mt : vpure.minI (text.size : Int) 1500 = ((min text.size 1500 : Nat) : Int) := min_i text.size 1500
  refine draw_i true [] [(0, 1), (1, 1), (2, 1), (3, 1), (4, 1), (5, 1), (6, 1), (7, 1), (8, 1), (9, 1), (10, 1), (11, 1), (12, 1), (13, 1), (14, 1), (15, 1)] (by decide +kernel) ?_
  refine vand_k (show (0 : Int) ≤ 0 ∧ 0 ≤ vpure.minI (data.length : Int) 1024 ∧ vpure.minI (data.length : Int) 1024 ≤ (data.length : Int) by rw [md]; omega) ?_
  refine vand_k (show (0 : Int) ≤ 0 ∧ 0 ≤ vpure.minI (text.size : Int) 1500 ∧ vpure.minI (text.size : Int) 1500 ≤ (text.size : Int) by rw [mt]; omega) ?_
  refine vloop_i [1, 2, 3, 40, 41, 42] [] (fun n r m => ∃ (l : List reqT.den) (i : Nat), r = regs 123 [(1, .lf (vBs data)), (2, .lf (vS text)), (3, .lf (vI code)), (40, .lf (.val (.slice reqT) l)), (41, .lf (vI l.length)), (42, .lf (vI i))] ∧ m = [] ∧ l.length ≤ 3 ∧ (∀ t ∈ l, OkR (ofT t)) ∧ i + n = l.length) ⟨3, ([q.t, (reqW data).t, (reqX text).t] : List reqT.den), 0, rfl, rfl, Nat.le_refl 3, (by
    intro t ht
    simp only [List.mem_cons, List.not_mem_nil, or_false] at ht
    rcases ht with rfl | rfl | rfl
    · exact ⟨hq.byte, hq.dev, hq.valid⟩
    · exact okW hby
    · exact okX text), rfl⟩ ?_
  rintro n r m ⟨l, i, rfl, rfl, h7, hf, hn⟩
  refine vif_split (fun h3 => ?_) (fun h3 => ?_) <;> (try rw [h3])
  · have h3 : decide ((i : Int) < (l.length : Int)) = true := h3
    have hlt : i < l.length := by have := of_decide_eq_true h3; omega
    have hi1 : IntKind.i64.wrap ((i : Int) + 1) = ((i + 1 : Nat) : Int) := by rw [wrap_in (by omega) (by omega)]; omega
    refine vand_k (show (0 : Int) ≤ (i : Int) ∧ (i : Int) < (l.length : Int) by omega) ?_
    have hx : OkR (ofT (List.getD l (Int.toNat (i : Int)) (Ty.dflt reqT))) := by
      have e : List.getD l (Int.toNat (i : Int)) (Ty.dflt reqT) = l[i] := getD_in hlt
      rw [e]
      exact hf _ (List.getElem_mem hlt)
    generalize List.getD l (Int.toNat (i : Int)) (Ty.dflt reqT) = x at hx ⊢
    obtain ⟨(kind : Int), (id : Int), (role : ByteArray), (dir : Int), (ch : Int), (rate : Int), (lat : Int), (nn : Int), (dev : Int), (dat : List Int), (tex : ByteArray), (u : Unit)⟩ := x
    have hx : OkR ⟨kind, id, role, dir, ch, rate, lat, nn, dev, dat, tex⟩ := hx
    obtain ⟨z1, z2, z3⟩ := valid_small hx
    obtain ⟨w, hp, hpp, hws⟩ := format_back hx.byte hx.dev hx.valid
    refine vcall_intro [] [] (and_i (format_p hG ⟨kind, id, role, dir, ch, rate, lat, nn, dev, dat, tex⟩ hx.byte z1 z2 hp) ?_)
    rintro o rfl
    refine vcall_intro [] [] (and_i (parse_s w hpp) ?_)
    rintro o rfl
    refine vcall_intro [] [] (and_i (same35_s ⟨kind, id, role, dir, ch, rate, lat, nn, dev, dat, tex⟩ ⟨kind, id, role, dir, ch, rate, lat, nn, dev, dat, tex⟩) ?_)
    rintro o rfl
    refine vif_split (fun h5 => ?_) (fun h5 => ?_) <;> (try rw [h5])
    · have h5 : (!sameR ⟨kind, id, role, dir, ch, rate, lat, nn, dev, dat, tex⟩ ⟨kind, id, role, dir, ch, rate, lat, nn, dev, dat, tex⟩) = true := h5
      rw [sameR_self] at h5
      cases h5
    refine vif_split (fun h6 => ?_) (fun h6 => ?_) <;> (try rw [h6])
    · have h6 : decide ((w.size : Int) > 4096) = true := h6
      have h6 := of_decide_eq_true h6
      omega
    · exact next_i (n - 1) (by omega) ⟨l, i + 1, congrArg (fun x => regs 123 [(1, .lf (vBs data)), (2, .lf (vS text)), (3, .lf (vI code)), (40, .lf (.val (.slice reqT) l)), (41, .lf (vI l.length)), (42, .lf (vI x))]) hi1, rfl, h7, hf, by omega⟩
  · refine draw_i false [] [(0, 1), (3, 2), (4, 2), (5, 2), (6, 2), (7, 2), (8, 2), (9, 2), (10, 2), (11, 2), (12, 2), (13, 2), (14, 2), (17, 2), (1, 0), (2, 1), (15, 1), (16, 1)] (by decide +kernel) ?_
    refine vand_k (show (0 : Int) ≤ 0 ∧ 0 ≤ vpure.minI (data.length : Int) 1024 ∧ vpure.minI (data.length : Int) 1024 ≤ (data.length : Int) by rw [md]; omega) ?_
    refine vand_k (show (0 : Int) ≤ 0 ∧ 0 ≤ vpure.minI (text.size : Int) 1500 ∧ vpure.minI (text.size : Int) 1500 ≤ (text.size : Int) by rw [mt]; omega) ?_
    refine vcall_intro [] [] (and_i (mod_s code 1000 (by decide) (by decide)) ?_)
    rintro o rfl
    refine vloop_i [89, 90, 91] [] (fun n r m => ∃ (l : List ansT.den) (i : Nat), r = regs 123 [(89, .lf (.val (.slice ansT) l)), (90, .lf (vI l.length)), (91, .lf (vI i))] ∧ m = [] ∧ l.length ≤ 3 ∧ (∀ t ∈ l, OkA (ansOf t)) ∧ i + n = l.length) ⟨3, ([Ans.t ⟨mod code 1000, [], ⟨#[]⟩⟩, Ans.t ⟨0, (data.take (vpure.minI (data.length : Int) 1024).toNat).drop (Int.toNat 0), ⟨#[]⟩⟩, Ans.t ⟨0, [], text.extract (Int.toNat 0) (vpure.minI (text.size : Int) 1500).toNat⟩] : List ansT.den), 0, rfl, rfl, Nat.le_refl 3, (by
      intro t ht
      simp only [List.mem_cons, List.not_mem_nil, or_false] at ht
      rcases ht with rfl | rfl | rfl
      · exact okA0 code
      · exact okA1 hby
      · exact okA2 text), rfl⟩ ?_
    clear hf hn h7
    rintro n r m ⟨l, i, rfl, rfl, h7, hf, hn⟩
    refine vif_split (fun h3 => ?_) (fun h3 => ?_) <;> (try rw [h3])
    · have h3 : decide ((i : Int) < (l.length : Int)) = true := h3
      have hlt : i < l.length := by have := of_decide_eq_true h3; omega
      have hi1 : IntKind.i64.wrap ((i : Int) + 1) = ((i + 1 : Nat) : Int) := by rw [wrap_in (by omega) (by omega)]; omega
      refine vand_k (show (0 : Int) ≤ (i : Int) ∧ (i : Int) < (l.length : Int) by omega) ?_
      have hx : OkA (ansOf (List.getD l (Int.toNat (i : Int)) (Ty.dflt ansT))) := by
        have e : List.getD l (Int.toNat (i : Int)) (Ty.dflt ansT) = l[i] := getD_in hlt
        rw [e]
        exact hf _ (List.getElem_mem hlt)
      generalize List.getD l (Int.toNat (i : Int)) (Ty.dflt ansT) = x at hx ⊢
      obtain ⟨(cod : Int), (dat : List Int), (tex : ByteArray), (u : Unit)⟩ := x
      have hx : OkA ⟨cod, dat, tex⟩ := hx
      obtain ⟨p1, p2, -⟩ := proper_iff.1 hx.valid
      obtain ⟨w, hp, hpp, hws⟩ := reply_back hx.byte hx.valid
      refine vcall_intro [] [] (and_i (reply_s hG ⟨cod, dat, tex⟩ (Nat.le_trans p1 (by decide)) (Nat.le_trans p2 (by decide)) hp) ?_)
      rintro o rfl
      refine vcall_intro [] [] (and_i (read_p w hpp) ?_)
      rintro o rfl
      refine vcall_intro [] [] (and_i (sameAnswer_s ⟨cod, dat, tex⟩ ⟨cod, dat, tex⟩) ?_)
      rintro o rfl
      refine vif_split (fun h5 => ?_) (fun h5 => ?_) <;> (try rw [h5])
      · have h5 : (!sameA ⟨cod, dat, tex⟩ ⟨cod, dat, tex⟩) = true := h5
        rw [sameA_self] at h5
        cases h5
      refine vif_split (fun h6 => ?_) (fun h6 => ?_) <;> (try rw [h6])
      · have h6 : decide ((w.size : Int) > 4096) = true := h6
        have h6 := of_decide_eq_true h6
        omega
      · exact next_i (n - 1) (by omega) ⟨l, i + 1, congrArg (fun x => regs 123 [(89, .lf (.val (.slice ansT) l)), (90, .lf (vI l.length)), (91, .lf (vI x))]) hi1, rfl, h7, hf, by omega⟩
    · refine ends ?_
      exact Eq.refl _

end Go.Proofs.YtimhjbihhchieaaDoor.Q
