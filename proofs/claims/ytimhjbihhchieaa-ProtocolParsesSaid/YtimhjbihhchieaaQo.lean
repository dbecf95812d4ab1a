/- Small functions of the protocol and its reference over V. Conditions: as each states. -/
import Derived.Test.YtimhjbihhchieaaQn
namespace Go.Proofs.Ytimhjbihhchieaa.Q
open Go Go.V
set_option linter.unusedVariables false
set_option linter.unusedSimpArgs false
set_option maxRecDepth 100000
variable {N : Nat} {WL : World}

abbrev reqT : Ty := .cons (.int .i64) (.cons (.int .i64) (.cons .str (.cons (.int .i64) (.cons (.int .i64) (.cons (.int .i64) (.cons (.int .i64) (.cons (.int .i64) (.cons (.int .u64) (.cons (.slice (.int .u8)) (.cons .str .nil))))))))))
/-- a request -/
structure Req where
  kind : Int
  id : Int
  role : ByteArray
  dir : Int
  ch : Int
  rate : Int
  lat : Int
  n : Int
  dev : Int
  data : List Int
  text : ByteArray
abbrev Req.v (r : Req) : A0 := .val reqT (r.kind, r.id, r.role, r.dir, r.ch, r.rate, r.lat, r.n, r.dev, r.data, r.text, ())

def inR (n lo hi : Int) : Bool := decide (n ≥ lo) && decide (n ≤ hi)
def mod (v n : Int) : Int := if v.tmod n < 0 then v.tmod n + n else v.tmod n
def atL (l : List ByteArray) (i : Nat) : ByteArray := l.getD i ByteArray.empty
def numR (s : ByteArray) : Int := if (numP s).2 = 0 then (numP s).1 else -1
def opensR (role : ByteArray) (d c r l : Int) : Bool := nameP role && (d == 1 || d == 2) && inR c 1 8 && inR r 1000 768000 && inR l 0 1099511627776
def sameR (a b : Req) : Bool := a.kind == b.kind && a.id == b.id && a.role.toList == b.role.toList && a.dir == b.dir && a.ch == b.ch && a.rate == b.rate && a.lat == b.lat && a.n == b.n && a.dev == b.dev && (strOfNums a.data).toList == (strOfNums b.data).toList && a.text.toList == b.text.toList

theorem in_s (n lo hi : Int) : Sound P N WL 25 [.lf (vI n), .lf (vI lo), .lf (vI hi)] [] (· = .ret (.lf (vB (inR n lo hi))) []) := by
  refine Sound.of mix [] Go.Proofs.Try.func25 rfl rfl ?_
  repeat' (refine vif_split (fun h => ?_) (fun h => ?_) <;> (try rw [h]))
  all_goals (refine ends (ret1 (aB ?_)); simp [inR, *])
theorem within_s (n lo hi : Int) : Sound P N WL 46 [.lf (vI n), .lf (vI lo), .lf (vI hi)] [] (· = .ret (.lf (vB (inR n lo hi))) []) := by
  refine Sound.of mix [] Go.Proofs.Try.func46 rfl rfl ?_
  repeat' (refine vif_split (fun h => ?_) (fun h => ?_) <;> (try rw [h]))
  all_goals (refine ends (ret1 (aB ?_)); simp [inR, *])
theorem mod_in {v n : Int} (h : 0 < n) : 0 ≤ mod v n ∧ mod v n < n := by
  have h1 := Int.tmod_lt_of_pos v h
  have h2 : -n < v.tmod n := by
    have := Int.lt_tmod_of_pos v h
    omega
  unfold mod
  split <;> omega
theorem mod_s (v n : Int) (h0 : 0 < n) (h1 : n ≤ 4611686018427387904) : Sound P N WL 8 [.lf (vI v), .lf (vI n)] [] (· = .ret (.lf (vI (mod v n))) []) := by
  refine Sound.of mix [] Go.Proofs.Try.func8 rfl rfl ?_
  refine vand_i (show n ≠ 0 by omega) (fun _ => ?_)
  have hr := Int.tmod_lt_of_pos v h0
  refine vif_split (fun h => ?_) (fun h => ?_) <;> (try rw [h])
  · have h := of_decide_eq_true h
    refine ends (ret1 (aI ?_))
    have := mod_in (v := v) h0
    unfold mod at this ⊢
    rw [if_pos h] at this ⊢
    rw [wrap_in (by omega) (by omega)]
  · have h := of_decide_eq_false h
    refine ends (ret1 (aI ?_))
    unfold mod
    rw [if_neg h]
theorem at_s (l : List ByteArray) (i : Nat) : Sound P N WL 40 [.lf (vSs l), .lf (vI i)] [] (· = .ret (.lf (vS (atL l i))) []) := by
  refine Sound.of mix [] Go.Proofs.Try.func40 rfl rfl ?_
  refine vif_split (fun h => ?_) (fun h => ?_) <;> (try rw [h])
  · have h : decide ((i : Int) < (l.length : Int)) = true := h
    have h := of_decide_eq_true h
    refine vand_i (show (0 : Int) ≤ (i : Int) ∧ (i : Int) < (l.length : Int) by omega) (fun _ => ?_)
    refine ends (ret1 (aS ?_))
    rfl
  · have h : decide ((i : Int) < (l.length : Int)) = false := h
    have h := of_decide_eq_false h
    refine ends (ret1 (aS ?_))
    unfold atL
    have h2 : l[i]? = none := List.getElem?_eq_none (by omega)
    rw [List.getD, h2]
    rfl
theorem number35_s (s : ByteArray) (hs : s.size ≤ 1000000) : Sound P N WL 41 [.lf (vS s)] [] (· = .ret (.lf (vI (numR s))) []) := by
  refine Sound.of mix [] Go.Proofs.Try.func41 rfl rfl ?_
  refine vcall_intro [] [] (and_i (number02_s s hs (v := (numP s).1) (e := (numP s).2) rfl) ?_)
  rintro o rfl
  refine vif_split (fun h => ?_) (fun h => ?_) <;> (try rw [h])
  · have h : ((numP s).2 != 0) = true := h
    refine ends (ret1 (aI ?_))
    unfold numR
    rw [if_neg (by simpa using h)]
  · have h : ((numP s).2 != 0) = false := h
    refine ends (ret1 (aI ?_))
    unfold numR
    rw [if_pos (by simpa using h)]
theorem names_s (c : Int) : Sound P N WL 34 [.lf (v8 c)] [] (· = .ret (.tup [vS (if c = 68 then ⟨#[112, 108, 97, 121, 98, 97, 99, 107]⟩ else ⟨#[111, 110]⟩), vS (if c = 68 then ⟨#[99, 97, 112, 116, 117, 114, 101]⟩ else ⟨#[111, 102, 102]⟩)]) []) := by
  refine Sound.of mix [] Go.Proofs.Try.func34 rfl rfl ?_
  refine vif_split (fun h => ?_) (fun h => ?_) <;> (try rw [h])
  all_goals (refine ends (ret2 (aS ?_) (aS ?_)) <;> simp_all)
theorem opens_s (role : ByteArray) (hr : role.size ≤ 1000000) (d c r l : Int) : Sound P N WL 27 [.lf (vS role), .lf (vI d), .lf (vI c), .lf (vI r), .lf (vI l)] [] (· = .ret (.lf (vB (opensR role d c r l))) []) := by
  refine Sound.of mix [] Go.Proofs.Try.func27 rfl rfl ?_
  refine vcall_intro [] [] (and_i (name02_s role hr) ?_)
  rintro o rfl
  repeat' first
    | (refine vif_split (fun h => ?_) (fun h => ?_) <;> (try rw [h]))
    | (refine vcall_intro [] [] (and_i (in_s _ _ _) ?_); rintro o rfl)
  all_goals (refine ends (ret1 (aB ?_)); simp_all [opensR])
set_option maxHeartbeats 4000000 in
theorem same35_s (a b : Req) : Sound P N WL 11 [.lf a.v, .lf b.v] [] (· = .ret (.lf (vB (sameR a b))) []) := by
  refine Sound.of mix [] Go.Proofs.Try.func11 rfl rfl ?_
  repeat' (refine vif_split (fun h => ?_) (fun h => ?_) <;> (try rw [h]))
  all_goals (refine ends (ret1 (aB ?_)); unfold sameR; simp_all)

end Go.Proofs.Ytimhjbihhchieaa.Q
