/- The protocol's Parse over V. Conditions: as each states. -/
import Derived.Test.YtimhjbihhchieaaRa
namespace Go.Proofs.Ytimhjbihhchieaa.Q
open Go Go.V
set_option linter.unusedVariables false
set_option linter.unusedSimpArgs false
set_option maxRecDepth 100000
variable {N : Nat} {WL : World}

theorem split_small (s : ByteArray) : ∀ w ∈ (splitP s).1, w.size ≤ 1000000 := by
  intro w hw
  by_cases h : (splitP s).2 = 0
  · have hsp : splitP s = ((splitP s).1, 0) := by rw [← h]
    obtain ⟨h1, h2, h3⟩ := join_split s _ hsp
    have := wlineL_len (Bts (splitP s).1) (bytesOf w) (List.mem_map.2 ⟨w, hw, rfl⟩)
    rw [bytesOf_length] at this
    have : (jline (splitP s).1).length = (wlineL (Bts (splitP s).1)).length := rfl
    omega
  · rw [split_err s h] at hw
    cases hw

/-- the fields of a form, read -/
def readIn : List Int → List ByteArray → Bool → Req → Bool × Req
  | [], _, ok, q => (ok, q)
  | c :: cs, ws, ok, q => if ok = true then readIn cs (ws.drop 1) (readP q c (atL ws 0)).1 (readP q c (atL ws 0)).2 else readIn cs (ws.drop 1) false q
def parseFrom (l : List ByteArray) : List (Int × ByteArray × ByteArray × Unit) → Req × Int
  | [] => (Req.zero 0, 5)
  | f :: fs => if l.length = f.2.2.1.size + 1 ∧ atL l 0 = f.2.1 then
      (if (readIn (bytesOf f.2.2.1) (l.drop 1) true (Req.zero f.1)).1 = true ∧ validP (readIn (bytesOf f.2.2.1) (l.drop 1) true (Req.zero f.1)).2 = true then ((readIn (bytesOf f.2.2.1) (l.drop 1) true (Req.zero f.1)).2, 0) else parseFrom l fs)
    else parseFrom l fs
def parseP (s : ByteArray) : Req × Int := if (splitP s).2 ≠ 0 then (Req.zero 0, (splitP s).2) else parseFrom (splitP s).1 formsL

theorem readP_len (q : Req) (c : Int) (w : ByteArray) (M : Nat) (h1 : q.data.length ≤ M ∧ q.role.size ≤ M) (h2 : w.size ≤ M) : (readP q c w).2.data.length ≤ M ∧ (readP q c w).2.role.size ≤ M := by
  unfold readP
  repeat' split
  all_goals (simp only [bytesOf_length]; omega)
theorem atL_drop (l : List ByteArray) (j i : Nat) : atL (l.drop j) i = atL l (j + i) := by
  unfold atL
  simp [List.getD]

set_option maxHeartbeats 16000000 in
theorem parse_s (s : ByteArray) {q : Req} {e : Int} (hp : parseP s = (q, e)) : Sound P N WL 9 [.lf (vS s)] [] (· = .ret (.tup [q.v, vI e]) []) := by
  refine Sound.of mix [] Go.Proofs.Try.func9 rfl rfl ?_
  unfold parseP at hp
  have hsz : ∀ w ∈ (splitP s).1, w.size ≤ 1000000 := split_small s
  generalize hsp : splitP s = sp at hp hsz
  obtain ⟨l, e0⟩ := sp
  simp only at hp hsz
  refine vcall_intro [] [] (and_i (split_s s hsp) ?_)
  rintro o rfl
  refine vif_split (fun h => ?_) (fun h => ?_) <;> (try rw [h])
  · have h : (e0 != 0) = true := h
    rw [if_pos (bne_iff_ne.1 h)] at hp
    cases hp
    refine ends ?_
    exact Eq.refl _
  have h : (e0 != 0) = false := h
  rw [if_neg (by simpa using h)] at hp
  have hll : l.length ≤ 100000 := by
    have : e0 = 0 := by simpa using h
    subst this
    have := (join_split s l hsp).1
    omega
  refine vcall_intro [] [] (and_i forms_s ?_)
  rintro o rfl
  refine vloop_i [2, 4, 20, 21, 22] [2] (fun n r m => ∃ i : Nat, i + n = formsL.length ∧ parseFrom l (formsL.drop i) = (q, e) ∧
    r = regs 72 [(2, .lf (.ptr 2 0)), (4, .lf (vSs l)), (20, .lf (.val (.slice formT) formsL)), (21, .lf (vI formsL.length)), (22, .lf (vI i))] ∧ m = [(2, (Req.zero 0).cellsD (.al (.ce 2 9) (.int .u8) []))]) ⟨formsL.length, 0, by omega, hp, rfl, rfl⟩ ?_
  rintro n r m ⟨i, hn, hq, rfl, rfl⟩
  refine vif_split (fun h3 => ?_) (fun h3 => ?_) <;> (try rw [h3])
  · have h3 : decide ((i : Int) < ((formsL.length : Nat) : Int)) = true := h3
    have hlt : i < formsL.length := by have := of_decide_eq_true h3; omega
    have hk1 : IntKind.i64.wrap ((i : Int) + 1) = ((i + 1 : Nat) : Int) := by rw [wrap_in (by omega) (by have : formsL.length = 12 := rfl; omega)]; omega
    have hnext : parseFrom l (formsL.drop (i + 1)) = (q, e) → ∃ n', n' < n ∧ ∃ k : Nat, k + n' = formsL.length ∧ parseFrom l (formsL.drop k) = (q, e) ∧ regs 72 [(2, .lf (.ptr 2 0)), (4, .lf (vSs l)), (20, .lf (.val (.slice formT) formsL)), (21, .lf (vI formsL.length)), (22, .lf (vI (IntKind.i64.wrap ((i : Int) + 1))))] = regs 72 [(2, .lf (.ptr 2 0)), (4, .lf (vSs l)), (20, .lf (.val (.slice formT) formsL)), (21, .lf (vI formsL.length)), (22, .lf (vI k))] ∧ [(2, (Req.zero 0).cellsD (.al (.ce 2 9) (.int .u8) []))] = [(2, (Req.zero 0).cellsD (.al (.ce 2 9) (.int .u8) []))] := fun hh =>
      ⟨n - 1, by omega, i + 1, by omega, hh, by rw [hk1], rfl⟩
    refine vand_i (show (0 : Int) ≤ (i : Int) ∧ (i : Int) < ((formsL.length : Nat) : Int) by omega) (fun _ => ?_)
    rw [drop_form hlt] at hq
    have hq : parseFrom l (@List.getD formT.den formsL (Int.toNat (i : Int)) (Ty.dflt formT) :: formsL.drop (i + 1)) = (q, e) := hq
    have hsz2 : ByteArray.size (@List.getD formT.den formsL (Int.toNat (i : Int)) (Ty.dflt formT)).2.2.1 ≤ 6 := forms_small hlt
    generalize @List.getD formT.den formsL (Int.toNat (i : Int)) (Ty.dflt formT) = f at hq hsz2 ⊢
    obtain ⟨(fk : Int), (fw : ByteArray), (ff : ByteArray), (fu : Unit)⟩ := f
    have hsz2 : ff.size ≤ 6 := hsz2
    have hq : parseFrom l ((fk, fw, ff, fu) :: formsL.drop (i + 1)) = (q, e) := hq
    have hw1 : IntKind.i64.wrap ((ff.size : Int) + 1) = ((ff.size + 1 : Nat) : Int) := by rw [wrap_in (by omega) (by omega)]; omega
    rw [parseFrom] at hq
    simp only at hq
    refine draw_i false [] [(0, 1), (1, 1), (2, 1), (3, 1), (4, 1), (5, 1), (6, 1), (7, 1), (8, 1), (9, 1), (10, 1), (11, 1), (12, 1), (13, 1), (14, 1)] (by decide +kernel) ?_
    refine vif_split (fun h4 => ?_) (fun h4 => ?_) <;> (try rw [h4])
    · have h4 : ((l.length : Int) != IntKind.i64.wrap ((ff.size : Int) + 1)) = true := h4
      rw [hw1, bne_iff_ne] at h4
      rw [if_neg (by omega)] at hq
      exact hnext hq
    have h4 : ((l.length : Int) != IntKind.i64.wrap ((ff.size : Int) + 1)) = false := h4
    rw [hw1, bne_eq_false_iff_eq] at h4
    have h4 : l.length = ff.size + 1 := by omega
    refine vand_i (show (0 : Int) ≤ (0 : Int) ∧ (0 : Int) < (l.length : Int) by omega) (fun _ => ?_)
    refine vif_split (fun h5 => ?_) (fun h5 => ?_) <;> (try rw [h5])
    · have h5 : (!((atL l 0).toList == fw.toList)) = true := h5
      rw [if_neg (by
        rintro ⟨_, e⟩
        rw [e] at h5
        simp at h5)] at hq
      exact hnext hq
    have h5 : (!((atL l 0).toList == fw.toList)) = false := h5
    have h5 : atL l 0 = fw := by simpa [toList_inj] using h5
    rw [if_pos ⟨h4, h5⟩] at hq
    generalize hR : readIn (bytesOf ff) (l.drop 1) true (Req.zero fk) = R at hq
    refine vloop_i [2, 4, 7, 8, 9, 20, 21, 22, 46, 47] [2, 7, 8] (fun n r m => ∃ (j : Nat) (ok : Bool) (a : Req) (d : A0), j + n = ff.size ∧ dOK 8 d a.data ∧ (a.data.length ≤ 1000000 ∧ a.role.size ≤ 1000000) ∧ readIn ((bytesOf ff).drop j) (l.drop (j + 1)) ok a = R ∧
      r = regs 72 [(2, .lf (.ptr 2 0)), (4, .lf (vSs l)), (7, .lf (.ptr 7 0)), (8, .lf (.ptr 8 0)), (9, .lf (vB ok)), (20, .lf (.val (.slice formT) formsL)), (21, .lf (vI formsL.length)), (22, .lf (vI i)), (46, .lf (vI ff.size)), (47, .lf (vI j))] ∧
      m = [(2, (Req.zero 0).cellsD (.al (.ce 2 9) (.int .u8) [])), (7, [vI fk, vS fw, vS ff]), (8, a.cellsD d)]) ⟨ff.size, 0, true, Req.zero fk, _, by omega, .inr rfl, (by show ([] : List Int).length ≤ 1000000 ∧ ByteArray.size ⟨#[]⟩ ≤ 1000000; decide), hR, rfl, rfl⟩ ?_
    rintro n1 r m ⟨j, ok, a, d, hj, hdo, ⟨had, har⟩, hR, rfl, rfl⟩
    rcases hdo with rfl | rfl
    all_goals
      refine vif_split (fun h6 => ?_) (fun h6 => ?_) <;> (try rw [h6])
      · have h6 : decide ((j : Int) < ((ff.size : Nat) : Int)) = true := h6
        have hlt : j < ff.size := by have := of_decide_eq_true h6; omega
        have hj1 : IntKind.i64.wrap ((j : Int) + 1) = ((j + 1 : Nat) : Int) := by rw [wrap_in (by omega) (by omega)]; omega
        rw [drop_cons ff j hlt, readIn, List.drop_drop, atL_drop] at hR
        have hww : (atL l (j + 1)).size ≤ 1000000 := by
          unfold atL
          rw [getD_in (by omega)]
          exact hsz _ (List.getElem_mem _)
        refine draw_i false [] [(0, 1), (1, 1), (2, 1), (3, 1), (4, 1), (5, 1), (6, 1), (7, 1), (8, 1), (9, 1), (10, 1), (11, 0), (12, 1), (13, 0)] (by decide +kernel) ?_
        refine vif_split (fun h7 => ?_) (fun h7 => ?_) <;> (try rw [h7])
        · have h7 : ok = true := h7
          rw [if_pos h7] at hR
          refine vand_i (show (0 : Int) ≤ (j : Int) ∧ (j : Int) < ((ff.size : Nat) : Int) by omega) (fun _ => ?_)
          refine vand_i (show (0 : Int) ≤ IntKind.i64.wrap ((j : Int) + 1) ∧ IntKind.i64.wrap ((j : Int) + 1) < (l.length : Int) by rw [hj1]; omega) (fun _ => ?_)
          have eqw : List.getD l (IntKind.i64.wrap ((j : Int) + 1)).toNat ByteArray.empty = atL l (j + 1) := by rw [hj1]; rfl
          refine vcall_intro [8] [] (and_i (read_s a (bt ff j) (List.getD l (IntKind.i64.wrap ((j : Int) + 1)).toNat ByteArray.empty) (by rw [eqw]; exact hww) _ (by first | exact .inl rfl | exact .inr rfl) (b := (readP a (bt ff j) (atL l (j + 1))).1) (q' := (readP a (bt ff j) (atL l (j + 1))).2) (by rw [eqw])) ?_)
          rintro o ⟨d', hd', rfl⟩
          rcases hd' with rfl | rfl
          all_goals
            exact next_i (n1 - 1) (by omega) ⟨j + 1, _, _, _, by omega, (by first | exact .inl rfl | exact .inr rfl), readP_len a _ _ 1000000 ⟨had, har⟩ hww, hR, congrArg (fun x => regs 72 [(2, .lf (.ptr 2 0)), (4, .lf (vSs l)), (7, .lf (.ptr 7 0)), (8, .lf (.ptr 8 0)), (9, .lf (vB (readP a (bt ff j) (atL l (j + 1))).1)), (20, .lf (.val (.slice formT) formsL)), (21, .lf (vI formsL.length)), (22, .lf (vI i)), (46, .lf (vI ff.size)), (47, .lf (vI x))]) hj1, rfl⟩
        · have h7 : ok = false := h7
          subst h7
          rw [if_neg (by decide)] at hR
          exact next_i (n1 - 1) (by omega) ⟨j + 1, _, _, _, by omega, (by first | exact .inl rfl | exact .inr rfl), ⟨had, har⟩, hR, congrArg (fun x => regs 72 [(2, .lf (.ptr 2 0)), (4, .lf (vSs l)), (7, .lf (.ptr 7 0)), (8, .lf (.ptr 8 0)), (9, .lf (vB false)), (20, .lf (.val (.slice formT) formsL)), (21, .lf (vI formsL.length)), (22, .lf (vI i)), (46, .lf (vI ff.size)), (47, .lf (vI x))]) hj1, rfl⟩
      · have hge : ff.size ≤ j := by have := h6; simp at this; omega
        rw [drop_end ff j hge, readIn] at hR
        subst hR
        simp only at hq
        refine vif_split (fun h7 => ?_) (fun h7 => ?_) <;> (try rw [h7])
        · have h7 : ok = true := h7
          refine vcall_intro [] [] (and_i (valid_p a har had) ?_)
          rintro o rfl
          refine vif_split (fun h8 => ?_) (fun h8 => ?_) <;> (try rw [h8])
          · have h8 : validP a = true := h8
            rw [if_pos ⟨h7, h8⟩] at hq
            cases hq
            refine ends ?_
            exact Eq.refl _
          · have h8 : validP a = false := h8
            rw [if_neg (by simp [h8])] at hq
            exact hnext hq
        · have h7 : ok = false := h7
          rw [if_neg (by simp [h7])] at hq
          exact hnext hq
  · have h3 : decide ((i : Int) < ((formsL.length : Nat) : Int)) = false := h3
    have hge : formsL.length ≤ i := by have := of_decide_eq_false h3; omega
    rw [List.drop_eq_nil_of_le hge] at hq
    cases hq
    refine ends ?_
    exact Eq.refl _

end Go.Proofs.Ytimhjbihhchieaa.Q
