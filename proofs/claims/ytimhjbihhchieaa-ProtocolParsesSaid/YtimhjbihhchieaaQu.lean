/- The protocol's right, set, Valid over V. Conditions: as each states. -/
import Derived.Test.YtimhjbihhchieaaQt
namespace Go.Proofs.Ytimhjbihhchieaa.Q
open Go Go.V
set_option linter.unusedVariables false
set_option linter.unusedSimpArgs false
set_option maxRecDepth 100000
variable {N : Nat} {WL : World}

abbrev Req.cells (r : Req) : List A0 := [vI r.kind, vI r.id, vS r.role, vI r.dir, vI r.ch, vI r.rate, vI r.lat, vI r.n, vU r.dev, vBs r.data, vS r.text]

def rightP (r : Req) (c : Int) : Bool :=
  if c = 73 then inR r.id 1 9007199254740992
  else if c = 82 then nameP r.role
  else if c = 68 then (r.dir == 1 || r.dir == 2)
  else if c = 67 then inR r.ch 1 8
  else if c = 83 then inR r.rate 1000 768000
  else if c = 76 then inR r.lat 0 1099511627776
  else if c = 86 then inR r.n 0 100
  else if c = 77 then inR r.n 0 1
  else if c = 66 then decide ((r.data.length : Int) ≤ 1024)
  else if c = 70 then inR r.n 0 65536
  else if c = 71 then decide (r.dev ≤ 9007199254740992)
  else decide ((r.text.size : Int) ≤ 1500)

def setP (a r : Req) (c : Int) : Req :=
  if c = 73 then { a with id := r.id }
  else if c = 82 then { a with role := r.role }
  else if c = 68 then { a with dir := r.dir }
  else if c = 67 then { a with ch := r.ch }
  else if c = 83 then { a with rate := r.rate }
  else if c = 76 then { a with lat := r.lat }
  else if c = 86 ∨ c = 77 ∨ c = 70 then { a with n := r.n }
  else if c = 66 then { a with data := r.data }
  else if c = 71 then { a with dev := r.dev }
  else if c = 84 then { a with text := r.text }
  else a

set_option maxHeartbeats 4000000 in
theorem right_s (r : Req) (c : Int) (hr : r.role.size ≤ 1000000) : Sound P N WL 36 [.lf r.v, .lf (v8 c)] [] (· = .ret (.lf (vB (rightP r c))) []) := by
  refine Sound.of mix [] Go.Proofs.Try.func36 rfl rfl ?_
  repeat' first
    | (refine vif_split (fun h => ?_) (fun h => ?_) <;> (try rw [h]) <;> (try simp only [beq_iff_eq, beq_eq_false_iff_ne, ne_eq] at h))
    | (refine vcall_intro [] [] (and_i (within_s _ _ _) ?_); rintro o rfl)
    | (refine vcall_intro [] [] (and_i (name_s _ hr) ?_); rintro o rfl)
  all_goals (refine ends (ret1 (aB ?_)); simp [rightP, *] <;> rfl)

abbrev Req.cellsD (r : Req) (d : A0) : List A0 := [vI r.kind, vI r.id, vS r.role, vI r.dir, vI r.ch, vI r.rate, vI r.lat, vI r.n, vU r.dev, d, vS r.text]
/-- the row of the data, as a value, or owned -/
def dOK (k : Nat) (d : A0) (l : List Int) : Prop := d = vBs l ∨ d = .al (.ce k 9) (.int .u8) l

set_option maxHeartbeats 4000000 in
theorem set_s (a r : Req) (c : Int) (d : A0) (hd : dOK 1000 d a.data) : Sound P N WL 37 [.lf (.ptr 1000 0), .lf r.v, .lf (v8 c)] [(1000, a.cellsD d)]
    (fun o => ∃ d', dOK 1000 d' (setP a r c).data ∧ o = .ret (.tup []) [(1000, (setP a r c).cellsD d')]) := by
  obtain ⟨kind, id, role, dir, ch, rate, lat, n, dev, data, text⟩ := a
  rcases hd with rfl | rfl
  all_goals
    refine Sound.of mix [] Go.Proofs.Try.func37 rfl rfl ?_
    repeat' (refine vif_split (fun h => ?_) (fun h => ?_) <;> (try rw [h]) <;> (try simp only [beq_iff_eq, beq_eq_false_iff_ne, ne_eq] at h))
    all_goals
      simp only [setP, *]
      first
        | (refine ⟨_, .inl (Eq.refl _), ?_⟩; refine ends ?_; simp <;> rfl)
        | (refine ⟨_, .inr (Eq.refl _), ?_⟩; refine ends ?_; simp <;> rfl)

theorem setP_len (a r : Req) (c : Int) (M : Nat) (h1 : a.data.length ≤ M) (h2 : r.data.length ≤ M) : (setP a r c).data.length ≤ M := by
  unfold setP
  repeat' split
  all_goals assumption

/-- a request of a kind alone -/
abbrev Req.zero (k : Int) : Req := ⟨k, 0, ⟨#[]⟩, 0, 0, 0, 0, 0, 0, [], ⟨#[]⟩⟩
def validIn (r a : Req) : List Int → Bool
  | [] => sameP a r
  | c :: l => rightP r c && validIn r (setP a r c) l
def validFrom (r : Req) : List (Int × ByteArray × ByteArray × Unit) → Bool
  | [] => false
  | f :: l => if f.1 = r.kind then validIn r (Req.zero r.kind) (bytesOf f.2.2.1) else validFrom r l
def validP (r : Req) : Bool := validFrom r formsL

theorem getD_form {i : Nat} (h : i < formsL.length) : formsL.getD i (Ty.dflt formT) = formsL[i] := by simp [List.getD, h]; rfl
theorem drop_form {i : Nat} (h : i < formsL.length) : formsL.drop i = formsL.getD i (Ty.dflt formT) :: formsL.drop (i + 1) := by
  rw [getD_form h, List.drop_eq_getElem_cons h]

theorem forms_all : formsL.all (fun f => decide (f.2.2.1.size ≤ 6)) = true := by decide
theorem forms_small {i : Nat} (h : i < formsL.length) : (formsL.getD i (Ty.dflt formT)).2.2.1.size ≤ 6 := by
  rw [getD_form h]
  exact of_decide_eq_true (List.all_eq_true.1 forms_all _ (List.getElem_mem h))

set_option maxHeartbeats 8000000 in
theorem valid_p (r : Req) (hr : r.role.size ≤ 1000000) (hd : r.data.length ≤ 1000000) : Sound P N WL 21 [.lf r.v] [] (· = .ret (.lf (vB (validP r))) []) := by
  refine Sound.of mix [] Go.Proofs.Try.func21 rfl rfl ?_
  refine vcall_intro [] [] (and_i forms_s ?_)
  rintro o rfl
  refine vloop_i [1, 7, 8, 9] [1] (fun n s m => ∃ i : Nat, i + n = formsL.length ∧ validP r = validFrom r (formsL.drop i) ∧
    s = regs 45 [(1, .lf (.ptr 1 0)), (7, .lf (.val (.slice formT) formsL)), (8, .lf (vI formsL.length)), (9, .lf (vI i))] ∧ m = [(1, r.cells)]) ⟨formsL.length, 0, by omega, rfl, rfl, rfl⟩ ?_
  rintro n s m ⟨i, hn, hq, rfl, rfl⟩
  refine vif_split (fun h3 => ?_) (fun h3 => ?_) <;> (try rw [h3])
  · have h3 : decide ((i : Int) < ((formsL.length : Nat) : Int)) = true := h3
    have hlt : i < formsL.length := by have := of_decide_eq_true h3; omega
    refine vand_i (show (0 : Int) ≤ (i : Int) ∧ (i : Int) < ((formsL.length : Nat) : Int) by omega) (fun _ => ?_)
    rw [drop_form hlt] at hq
    have hq : validP r = validFrom r (@List.getD formT.den formsL (Int.toNat (i : Int)) (Ty.dflt formT) :: formsL.drop (i + 1)) := hq
    have hsz : ByteArray.size (@List.getD formT.den formsL (Int.toNat (i : Int)) (Ty.dflt formT)).2.2.1 ≤ 6 := forms_small hlt
    generalize @List.getD formT.den formsL (Int.toNat (i : Int)) (Ty.dflt formT) = f at hq hsz ⊢
    obtain ⟨(fk : Int), (fw : ByteArray), (ff : ByteArray), (fu : Unit)⟩ := f
    have hsz : ff.size ≤ 6 := hsz
    have hq : validP r = validFrom r ((fk, fw, ff, fu) :: formsL.drop (i + 1)) := hq
    refine vif_split (fun h4 => ?_) (fun h4 => ?_) <;> (try rw [h4])
    · have h4 : (fk != r.kind) = true := h4
      have hk1 : IntKind.i64.wrap ((i : Int) + 1) = ((i + 1 : Nat) : Int) := by rw [wrap_in (by omega) (by have : formsL.length = 12 := rfl; omega)]; omega
      refine next_i (n - 1) (by omega) ⟨i + 1, by omega, ?_, congrArg (fun x => regs 45 [(1, .lf (.ptr 1 0)), (7, .lf (.val (.slice formT) formsL)), (8, .lf (vI formsL.length)), (9, .lf (vI x))]) hk1, rfl⟩
      rw [hq, validFrom, if_neg (bne_iff_ne.1 h4)]
    · have h4 : (fk != r.kind) = false := h4
      rw [validFrom, if_pos (bne_eq_false_iff_eq.1 h4)] at hq
      refine vloop_i [1, 4, 5, 23, 24] [1, 4, 5] (fun n s m => ∃ (j : Nat) (a : Req) (d : A0), j + n = ff.size ∧ dOK 5 d a.data ∧ a.data.length ≤ 1000000 ∧ validP r = validIn r a ((bytesOf ff).drop j) ∧
        s = regs 45 [(1, .lf (.ptr 1 0)), (4, .lf (.ptr 4 0)), (5, .lf (.ptr 5 0)), (23, .lf (vI ff.size)), (24, .lf (vI j))] ∧ m = [(1, r.cells), (4, [vI fk, vS fw, vS ff]), (5, a.cellsD d)]) ⟨ff.size, 0, Req.zero r.kind, _, by omega, .inr rfl, by simp, hq, rfl, rfl⟩ ?_
      rintro n s m ⟨j, a, d, hj, hdo, had, hq, rfl, rfl⟩
      rcases hdo with rfl | rfl
      all_goals
        refine vif_split (fun h5 => ?_) (fun h5 => ?_) <;> (try rw [h5])
        · have h5 : decide ((j : Int) < ((ff.size : Nat) : Int)) = true := h5
          have hlt : j < ff.size := by have := of_decide_eq_true h5; omega
          rw [drop_cons ff j hlt, validIn] at hq
          refine draw_i false [] [(0, 1), (1, 1), (2, 1), (3, 1), (4, 1), (5, 0), (6, 1)] (by decide +kernel) ?_
          refine vand_i (show (0 : Int) ≤ (j : Int) ∧ (j : Int) < ((ff.size : Nat) : Int) by omega) (fun _ => ?_)
          refine vcall_intro [] [] (and_i (right_s r (bt ff j) hr) ?_)
          rintro o rfl
          refine vif_split (fun h6 => ?_) (fun h6 => ?_) <;> (try rw [h6])
          · have h6 : (!rightP r (bt ff j)) = true := h6
            refine ends (ret1 (aB ?_))
            rw [Bool.not_eq_true'] at h6
            rw [hq, h6]
            rfl
          · have h6 : (!rightP r (bt ff j)) = false := h6
            rw [Bool.not_eq_false'] at h6
            rw [h6, Bool.true_and] at hq
            refine draw_i false [] [(0, 1), (1, 1), (2, 1), (3, 1), (4, 1), (5, 0)] (by decide +kernel) ?_
            refine vand_i (show (0 : Int) ≤ (j : Int) ∧ (j : Int) < ((ff.size : Nat) : Int) by omega) (fun _ => ?_)
            refine vcall_intro [5] [] (and_i (set_s a r (bt ff j) _ (by first | exact .inl rfl | exact .inr rfl)) ?_)
            rintro o ⟨d', hd', rfl⟩
            rcases hd' with rfl | rfl
            all_goals
              have hk1 : IntKind.i64.wrap ((j : Int) + 1) = ((j + 1 : Nat) : Int) := by rw [wrap_in (by omega) (by omega)]; omega
              exact next_i (n - 1) (by omega) ⟨j + 1, setP a r (bt ff j), _, by omega, (by first | exact .inl rfl | exact .inr rfl), setP_len _ _ _ _ had hd, hq, congrArg (fun x => regs 45 [(1, .lf (.ptr 1 0)), (4, .lf (.ptr 4 0)), (5, .lf (.ptr 5 0)), (23, .lf (vI ff.size)), (24, .lf (vI x))]) hk1, rfl⟩
        · have hge : ff.size ≤ j := by have := h5; simp at this; omega
          rw [drop_end ff j hge, validIn] at hq
          refine vcall_intro [] [] (and_i (same_p a r had) ?_)
          rintro o rfl
          refine ends (ret1 (aB ?_))
          exact hq.symm
  · have h3 : decide ((i : Int) < ((formsL.length : Nat) : Int)) = false := h3
    have hge : formsL.length ≤ i := by have := of_decide_eq_false h3; omega
    refine ends (ret1 (aB ?_))
    rw [hq, List.drop_eq_nil_of_le hge]
    rfl

end Go.Proofs.Ytimhjbihhchieaa.Q
