/- The program's functions over V: how a proof ends, and small functions. Conditions: as each states. -/
import Derived.Test.YtimhjbihhchieaaVX
import Derived.Test.YtimhjbihhchieaaQa
import Derived.Test.YtimhjbihhchieaaChecked
namespace Go.Proofs.Ytimhjbihhchieaa.Q
open Go Go.V
set_option linter.unusedVariables false
set_option linter.unusedSimpArgs false
set_option maxRecDepth 100000

noncomputable abbrev P : Program := Go.Proofs.Try.prog
theorem mix : P.follows .mixedOrders = true := by rfl
theorem vif_split {b : Bool} {X Y : Prop} (h1 : b = true → X) (h2 : b = false → Y) : vif b X Y := by
  cases b with
  | true => exact h1 rfl
  | false => exact h2 rfl
theorem draw_i {Snd : SND} {all : List Oper} {r : Regs} {m : Mem} {K : Regs → Mem → Prop} {E : AV → Mem → Prop} (fl : Bool) (pr : List Nat) (plan : List (Nat × Nat)) (h : planOK all plan = true) (h' : vplan P (sndOf fl Snd) all fl pr plan r m K E) : vdraw P Snd all r m K E := .inl ⟨fl, pr, plan, h, h'⟩
theorem drawT_i {Snd : SND} {all : List Oper} {r : Regs} {m : Mem} {K : Regs → Mem → Prop} {E : AV → Mem → Prop} (fl : Bool) (pr : List Nat) (plan : PT) (h : planOKT all plan = true) (h' : vplanT P (sndOf fl Snd) all fl pr plan r m K E) : vdraw P Snd all r m K E := .inr ⟨fl, pr, plan, h, h'⟩
theorem vand_i {p k : Prop} (h1 : p) (h2 : p → k) : vand p k := ⟨h1, h2 h1⟩

abbrev vI (n : Int) : A0 := .val (.int .i64) n
abbrev vU (n : Int) : A0 := .val (.int .u64) n
abbrev v8 (n : Int) : A0 := .val (.int .u8) n
abbrev vB (b : Bool) : A0 := .val .bool b
abbrev vS (s : ByteArray) : A0 := .val .str s
abbrev vSs (l : List ByteArray) : A0 := .val (.slice .str) l
abbrev vBs (l : List Int) : A0 := .val (.slice (.int .u8)) l
abbrev vIs (l : List Int) : A0 := .val (.slice (.int .i64)) l

theorem ret1 {a b : A0} {m : Mem} (h : a = b) : Out.ret (ofResults [a]) m = Out.ret (.lf b) m := by rw [h]; rfl
theorem ret2 {a b c d : A0} {m : Mem} (h : a = b) (h' : c = d) : Out.ret (ofResults [a, c]) m = Out.ret (.tup [b, d]) m := by rw [h, h']; rfl
theorem ret3 {a b c d e f : A0} {m : Mem} (h : a = b) (h' : c = d) (h'' : e = f) : Out.ret (ofResults [a, c, e]) m = Out.ret (.tup [b, d, f]) m := by rw [h, h', h'']; rfl
theorem fits_i {el n : Nat} (b : Nat) (hb : P.bytesOf el = b) (h : n ≤ 4611686018427387904 ∧ n * b ≤ 140737488355328) : fits P el n := by unfold fits; rw [hb]; exact h
def mkR (l : List (Nat × AV)) : Nat → Nat → Regs
  | _, 0 => []
  | i, n + 1 => (match l.find? (fun p => Nat.beq p.1 i) with | some p => p.2 | none => .lf .undef) :: mkR l (i + 1) n
/-- registers, the named ones known -/
abbrev regs (n : Nat) (l : List (Nat × AV)) : Regs := mkR l 0 n
theorem vloop_i {body : Regs → Mem → (VX → Regs → Mem → Prop) → Prop} {r : Regs} {m : Mem} {K : VX → Regs → Mem → Prop} (ks kms : List Nat) (I : Nat → Regs → Mem → Prop) (h0 : ∃ n, I n (keepR ks 0 r) (keepM kms m))
    (h : ∀ n r m, I n r m → body r m fun x r m => match x with
      | .normal => ∃ n', n' < n ∧ I n' (keepR ks 0 r) (keepM kms m)
      | x => K x r m) : vloop body r m K := ⟨ks, kms, I, h0, h⟩
theorem next_i {n : Nat} {J : Nat → Prop} (n' : Nat) (h : n' < n) (h' : J n') : ∃ n', n' < n ∧ J n' := ⟨n', h, h'⟩
theorem and_i {p q : Prop} (h : p) (h' : q) : p ∧ q := ⟨h, h'⟩
theorem ends {o o' : Out} (h : o = o') : o = o' := h
theorem aI {k : IntKind} {x y : Int} (h : x = y) : A0.val (.int k) x = A0.val (.int k) y := by rw [h]
theorem aB {x y : Bool} (h : x = y) : A0.val .bool x = A0.val .bool y := by rw [h]
theorem aS {x y : ByteArray} (h : x = y) : A0.val .str x = A0.val .str y := by rw [h]
theorem aL {e : Ty} {x y : List e.den} (h : x = y) : A0.val (.slice e) x = A0.val (.slice e) y := by rw [h]

theorem wrap_eq (n : Int) : IntKind.i64.wrap n = wrap64 n := by
  unfold IntKind.wrap wrap64
  simp only [IntKind.signed, IntKind.bits]
  simp
  split <;> omega
theorem wrap_in {n : Int} (h : -9223372036854775808 ≤ n) (h' : n ≤ 9223372036854775807) : IntKind.i64.wrap n = n := by rw [wrap_eq, wrap_id n h h']

variable {N : Nat} {WL : World}

theorem simple_s (c : Int) : Sound P N WL 44 [.lf (v8 c)] [] (· = .ret (.lf (vB (wsimple c))) []) := by
  refine Sound.of mix [] Go.Proofs.Try.func44 rfl rfl ?_
  repeat' (refine vif_split (fun h => ?_) (fun h => ?_) <;> (try rw [h]))
  all_goals (refine ret1 (aB ?_); simp_all [wsimple] <;> omega)
theorem plainByte_s (c : Int) : Sound P N WL 49 [.lf (v8 c)] [] (· = .ret (.lf (vB (wsimple c))) []) := by
  refine Sound.of mix [] Go.Proofs.Try.func49 rfl rfl ?_
  repeat' (refine vif_split (fun h => ?_) (fun h => ?_) <;> (try rw [h]))
  all_goals (refine ret1 (aB ?_); simp_all [wsimple] <;> omega)
theorem meaning_s (c : Int) : Sound P N WL 45 [.lf (v8 c)] [] (· = .ret (.tup [v8 (wmeaning c).1, vB (wmeaning c).2]) []) := by
  refine Sound.of mix [] Go.Proofs.Try.func45 rfl rfl ?_
  repeat' (refine vif_split (fun h => ?_) (fun h => ?_) <;> (try rw [h]))
  all_goals (refine ret2 (aI ?_) (aB ?_) <;> simp_all [wmeaning])
theorem pair_s (c : Int) : Sound P N WL 50 [.lf (v8 c)] [] (· = .ret (.tup [v8 (wmeaning c).1, vB (wmeaning c).2]) []) := by
  refine Sound.of mix [] Go.Proofs.Try.func50 rfl rfl ?_
  repeat' (refine vif_split (fun h => ?_) (fun h => ?_) <;> (try rw [h]))
  all_goals (refine ret2 (aI ?_) (aB ?_) <;> simp_all [wmeaning])

end Go.Proofs.Ytimhjbihhchieaa.Q
