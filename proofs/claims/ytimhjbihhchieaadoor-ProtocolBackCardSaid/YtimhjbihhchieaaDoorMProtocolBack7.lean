/- Texts of this claim, one after the other: the calculus V and the functions' contracts. Conditions: as each states. -/
import Derived.Test.YtimhjbihhchieaaDoorMProtocolBack6
import Derived.Test.YtimhjbihhchieaaDoorChecked
namespace Go.Proofs.YtimhjbihhchieaaDoor.Q
open Go Go.V
set_option linter.unusedVariables false
set_option linter.unusedSimpArgs false
set_option maxRecDepth 100000

noncomputable abbrev P : Program := Go.Proofs.Tryd.prog
theorem mix : P.follows .mixedOrders = true := by rfl
theorem vif_split {b : Bool} {X Y : Prop} (h1 : b = true → X) (h2 : b = false → Y) : vif b X Y := by
  cases b with
  | true => exact h1 rfl
  | false => exact h2 rfl
theorem draw_i {Snd : SND} {all : List Oper} {r : Regs} {m : Mem} {K : Regs → Mem → Prop} {E : AV → Mem → Prop} (fl : Bool) (pr : List Nat) (plan : List (Nat × Nat)) (h : planOK all plan = true) (h' : vplan P (sndOf fl Snd) all fl pr plan r m K E) : vdraw P Snd all r m K E := .inl ⟨fl, pr, plan, h, h'⟩
theorem drawT_i {Snd : SND} {all : List Oper} {r : Regs} {m : Mem} {K : Regs → Mem → Prop} {E : AV → Mem → Prop} (fl : Bool) (pr : List Nat) (plan : PT) (h : planOKT all plan = true) (h' : vplanT P (sndOf fl Snd) all fl pr plan r m K E) : vdraw P Snd all r m K E := .inr ⟨fl, pr, plan, h, h'⟩
theorem vand_i {p k : Prop} (h1 : p) (h2 : p → k) : vand p k := ⟨h1, h2 h1⟩

abbrev vI (n : Int) : A0 := .val (.int .i64) n
abbrev vU (n : Int) : A0 := .val (.int .u64) n
abbrev v8 (n : Int) : A0 := .val (.int .u8) n
abbrev vB (b : Bool) : A0 := .val .bool b
abbrev vS (s : ByteArray) : A0 := .val .str s
abbrev vSs (l : List ByteArray) : A0 := .val (.slice .str) l
abbrev vBs (l : List Int) : A0 := .val (.slice (.int .u8)) l
abbrev vIs (l : List Int) : A0 := .val (.slice (.int .i64)) l

theorem ret1 {a b : A0} {m : Mem} (h : a = b) : Out.ret (ofResults [a]) m = Out.ret (.lf b) m := by rw [h]; rfl
theorem ret2 {a b c d : A0} {m : Mem} (h : a = b) (h' : c = d) : Out.ret (ofResults [a, c]) m = Out.ret (.tup [b, d]) m := by rw [h, h']; rfl
theorem ret3 {a b c d e f : A0} {m : Mem} (h : a = b) (h' : c = d) (h'' : e = f) : Out.ret (ofResults [a, c, e]) m = Out.ret (.tup [b, d, f]) m := by rw [h, h', h'']; rfl
theorem fits_i {el n : Nat} (b : Nat) (hb : P.bytesOf el = b) (h : n ≤ 4611686018427387904 ∧ n * b ≤ 140737488355328) : fits P el n := by unfold fits; rw [hb]; exact h
def mkR (l : List (Nat × AV)) : Nat → Nat → Regs
  | _, 0 => []
  | i, n + 1 => (match l.find? (fun p => Nat.beq p.1 i) with | some p => p.2 | none => .lf .undef) :: mkR l (i + 1) n
/-- registers, the named ones known -/
abbrev regs (n : Nat) (l : List (Nat × AV)) : Regs := mkR l 0 n
theorem vloop_i {body : Regs → Mem → (VX → Regs → Mem → Prop) → Prop} {r : Regs} {m : Mem} {K : VX → Regs → Mem → Prop} (ks kms : List Nat) (I : Nat → Regs → Mem → Prop) (h0 : ∃ n, I n (keepR ks 0 r) (keepM kms m))
    (h : ∀ n r m, I n r m → body r m fun x r m => match x with
      | .normal => ∃ n', n' < n ∧ I n' (keepR ks 0 r) (keepM kms m)
      | x => K x r m) : vloop body r m K := ⟨ks, kms, I, h0, h⟩
theorem next_i {n : Nat} {J : Nat → Prop} (n' : Nat) (h : n' < n) (h' : J n') : ∃ n', n' < n ∧ J n' := ⟨n', h, h'⟩
theorem and_i {p q : Prop} (h : p) (h' : q) : p ∧ q := ⟨h, h'⟩
theorem ends {o o' : Out} (h : o = o') : o = o' := h
theorem aI {k : IntKind} {x y : Int} (h : x = y) : A0.val (.int k) x = A0.val (.int k) y := by rw [h]
theorem aB {x y : Bool} (h : x = y) : A0.val .bool x = A0.val .bool y := by rw [h]
theorem aS {x y : ByteArray} (h : x = y) : A0.val .str x = A0.val .str y := by rw [h]
theorem aL {e : Ty} {x y : List e.den} (h : x = y) : A0.val (.slice e) x = A0.val (.slice e) y := by rw [h]

theorem wrap_eq (n : Int) : IntKind.i64.wrap n = wrap64 n := by
  unfold IntKind.wrap wrap64
  simp only [IntKind.signed, IntKind.bits]
  simp
  split <;> omega
theorem wrap_in {n : Int} (h : -9223372036854775808 ≤ n) (h' : n ≤ 9223372036854775807) : IntKind.i64.wrap n = n := by rw [wrap_eq, wrap_id n h h']

variable {N : Nat} {WL : World}

theorem simple_s (c : Int) : Sound P N WL 67 [.lf (v8 c)] [] (· = .ret (.lf (vB (wsimple c))) []) := by
  refine Sound.of mix [] Go.Proofs.Tryd.func67 rfl rfl ?_
  repeat' (refine vif_split (fun h => ?_) (fun h => ?_) <;> (try rw [h]))
  all_goals (refine ret1 (aB ?_); simp_all [wsimple] <;> omega)
theorem plainByte_s (c : Int) : Sound P N WL 69 [.lf (v8 c)] [] (· = .ret (.lf (vB (wsimple c))) []) := by
  refine Sound.of mix [] Go.Proofs.Tryd.func69 rfl rfl ?_
  repeat' (refine vif_split (fun h => ?_) (fun h => ?_) <;> (try rw [h]))
  all_goals (refine ret1 (aB ?_); simp_all [wsimple] <;> omega)
theorem meaning_s (c : Int) : Sound P N WL 68 [.lf (v8 c)] [] (· = .ret (.tup [v8 (wmeaning c).1, vB (wmeaning c).2]) []) := by
  refine Sound.of mix [] Go.Proofs.Tryd.func68 rfl rfl ?_
  repeat' (refine vif_split (fun h => ?_) (fun h => ?_) <;> (try rw [h]))
  all_goals (refine ret2 (aI ?_) (aB ?_) <;> simp_all [wmeaning])
theorem pair_s (c : Int) : Sound P N WL 70 [.lf (v8 c)] [] (· = .ret (.tup [v8 (wmeaning c).1, vB (wmeaning c).2]) []) := by
  refine Sound.of mix [] Go.Proofs.Tryd.func70 rfl rfl ?_
  repeat' (refine vif_split (fun h => ?_) (fun h => ?_) <;> (try rw [h]))
  all_goals (refine ret2 (aI ?_) (aB ?_) <;> simp_all [wmeaning])

end Go.Proofs.YtimhjbihhchieaaDoor.Q

namespace Go.Proofs.YtimhjbihhchieaaDoor.Q
open Go Go.V
set_option linter.unusedVariables false
set_option linter.unusedSimpArgs false
set_option maxRecDepth 100000
variable {N : Nat} {WL : World}

abbrev rdr (s : Int) (word : List Int) (words : List ByteArray) : Mem := [(1000, [vI s, .al (.ce 1000 1) (.int .u8) word, .al (.ce 1000 2) .str words])]

theorem push_s (s : Int) (word : List Int) (words : List ByteArray) (hl : words.length ≤ 9000) :
    Sound P N WL 52 [.lf (.ptr 1000 0)] (rdr s word words) (· = .ret (.tup []) (rdr 0 [] (words ++ [strOfNums word]))) := by
  refine Sound.of mix [] Go.Proofs.Tryd.func52 rfl rfl ?_
  refine draw_i true [] [(1, 1), (2, 1), (3, 1), (4, 1), (5, 1), (6, 1), (7, 1), (8, 1), (9, 1), (10, 1), (0, 2), (11, 0), (12, 1), (13, 1), (14, 0)] (by decide +kernel) ?_
  refine vand_i ?_ (fun _ => ?_)
  · exact fits_i (n := words.length + 1) 16 rfl ⟨by omega, by omega⟩
  · refine ends ?_
    exact Eq.refl _

set_option maxHeartbeats 4000000 in
theorem take_s (s c : Int) (word : List Int) (words : List ByteArray) (hs : 0 ≤ s ∧ s ≤ 4) (hl : words.length ≤ 9000) (hw : word.length ≤ 9000) {b : Bool} {s' : Int} {word' : List Int} {words' : List ByteArray} (ht : wtake s word words c = (b, s', word', words')) :
    Sound P N WL 51 [.lf (.ptr 1000 0), .lf (v8 c)] (rdr s word words) (· = .ret (.lf (vB b)) (rdr s' word' words')) := by
  have h5 : s = 0 ∨ s = 1 ∨ s = 2 ∨ s = 3 ∨ s = 4 := by omega
  rcases h5 with rfl | rfl | rfl | rfl | rfl
  all_goals
    refine Sound.of mix [] Go.Proofs.Tryd.func51 rfl rfl ?_
    repeat' first
      | (refine vif_split (fun h => ?_) (fun h => ?_) <;> (try rw [h]) <;> (try simp only [beq_iff_eq, beq_eq_false_iff_ne, ne_eq] at h))
      | (refine vand_i (fits_i (n := word.length + 1) 1 rfl ⟨by omega, by omega⟩) (fun _ => ?_))
      | (refine vcall_intro [] [] (and_i (simple_s c) ?_); rintro o rfl)
      | (refine vcall_intro [] [] (and_i (meaning_s c) ?_); rintro o rfl)
      | (refine vcall_intro [1000] [] (and_i (push_s _ _ _ hl) ?_); rintro o rfl)
    all_goals
      refine ends ?_
      simp [wtake, *] at ht
      obtain ⟨rfl, rfl, rfl, rfl⟩ := ht
      exact Eq.refl _

end Go.Proofs.YtimhjbihhchieaaDoor.Q

namespace Go.Proofs.YtimhjbihhchieaaDoor.Q
open Go Go.V
set_option linter.unusedVariables false
set_option linter.unusedSimpArgs false
set_option maxRecDepth 100000
variable {N : Nat} {WL : World}

theorem size_beq (s : ByteArray) : (ByteArray.toList s == ByteArray.toList ⟨#[]⟩) = decide (s.size = 0) := by
  have : ByteArray.toList ⟨#[]⟩ = ([] : List UInt8) := by rw [toList_data]
  rw [this]
  by_cases h : s.size = 0
  · rw [toList_nil.2 h]; simp [h]
  · have : ByteArray.toList s ≠ [] := fun e => h (toList_nil.1 e)
    simp [h, this]

theorem wtake_in {st c : Int} {word : List Int} {words : List ByteArray} (hst : 0 ≤ st ∧ st ≤ 4) {b : Bool} {st' : Int} {word' : List Int} {words' : List ByteArray} (h : wtake st word words c = (b, st', word', words')) :
    (0 ≤ st' ∧ st' ≤ 4) ∧ word'.length ≤ word.length + 1 ∧ words'.length ≤ words.length + 1 := by
  unfold wtake at h
  repeat' split at h
  all_goals
    simp only [Prod.mk.injEq] at h
    obtain ⟨-, rfl, rfl, rfl⟩ := h
    refine ⟨?_, ?_, ?_⟩ <;> simp

set_option maxHeartbeats 4000000 in
theorem split_s (s : ByteArray) {l : List ByteArray} {e : Int} (hp : splitP s = (l, e)) : Sound P N WL 28 [.lf (vS s)] [] (· = .ret (.tup [vSs l, vI e]) []) := by
  refine Sound.of mix [] Go.Proofs.Tryd.func28 rfl rfl ?_
  unfold splitP at hp
  refine vif_split (fun h => ?_) (fun h => ?_) <;> (try rw [h])
  · refine ends ?_
    rw [if_pos (by have := h; simp at this; omega)] at hp
    cases hp
    exact Eq.refl _
  rw [if_neg (by have := h; simp at this; omega)] at hp
  refine vif_split (fun h2 => ?_) (fun h2 => ?_) <;> (try rw [h2])
  · refine ends ?_
    rw [size_beq] at h2
    rw [if_pos (by simpa using h2)] at hp
    cases hp
    exact Eq.refl _
  rw [size_beq] at h2
  rw [if_neg (by simpa using h2)] at hp
  have hs : s.size ≤ 4096 := by have := h; simp at this; omega
  refine vloop_i [0, 4, 14, 15] [12] (fun n r m => ∃ (i : Nat) (st : Int) (word : List Int) (words : List ByteArray), i + n = s.size ∧ (0 ≤ st ∧ st ≤ 4) ∧ word.length ≤ i ∧ words.length ≤ i ∧ wsplit ((bytesOf s).drop i) st word words = (l, e) ∧
    r = regs 49 [(0, .lf (vS s)), (4, .lf (.ptr 12 0)), (14, .lf (vI s.size)), (15, .lf (vI i))] ∧ m = [(12, [vI st, .al (.ce 12 1) (.int .u8) word, .al (.ce 12 2) .str words])]) ⟨s.size, 0, 0, [], [], by omega, by omega, by simp, by simp, hp, rfl, rfl⟩ ?_
  rintro n r m ⟨i, st, word, words, hi, hst, hw, hws, hsp, rfl, rfl⟩
  refine vif_split (fun h3 => ?_) (fun h3 => ?_) <;> (try rw [h3])
  · have hlt : i < s.size := by simpa using h3
    rw [drop_cons s i hlt] at hsp
    refine vand_i (by simpa using h3) (fun _ => ?_)
    generalize ht : wtake st word words (bt s i) = t at hsp
    obtain ⟨b, st', word', words'⟩ := t
    refine vcall_intro [12] [] (and_i (take_s st (bt s i) word words hst (by omega) (by omega) ht) ?_)
    rintro o rfl
    refine vif_split (fun h4 => ?_) (fun h4 => ?_)
    · refine ends ?_
      rw [wsplit, ht] at hsp
      rw [if_neg (by simpa using h4)] at hsp
      cases hsp
      exact Eq.refl _
    · have hb : b = true := by simpa using h4
      subst hb
      rw [wsplit, ht, if_pos rfl] at hsp
      obtain ⟨g1, g2, g3⟩ := wtake_in hst ht
      have hi1 : IntKind.i64.wrap ((i : Int) + 1) = ((i + 1 : Nat) : Int) := by rw [wrap_in (by omega) (by omega)]; omega
      exact next_i (n - 1) (by omega) ⟨i + 1, st', word', words', by omega, g1, by omega, by omega, hsp,
        congrArg (fun x => regs 49 [(0, .lf (vS s)), (4, .lf (.ptr 12 0)), (14, .lf (vI s.size)), (15, .lf (vI x))]) hi1, rfl⟩
  · have hge : s.size ≤ i := by have := h3; simp at this; omega
    rw [drop_end s i hge] at hsp
    unfold wsplit at hsp
    refine vif_split (fun h5 => ?_) (fun h5 => ?_) <;> (try rw [h5])
    · refine vif_split (fun h6 => ?_) (fun h6 => ?_) <;> (try rw [h6])
      · refine ends ?_
        rw [if_neg (by have := h5; have := h6; simp_all)] at hsp
        cases hsp
        exact Eq.refl _
      · have hst4 : st = 4 := by simpa using h6
        rw [if_pos (.inr hst4)] at hsp
        refine vcall_intro [12] [] (and_i (push_s st word words (by omega)) ?_)
        rintro o rfl
        refine vif_split (fun h7 => ?_) (fun h7 => ?_) <;> (try rw [h7])
        · refine ends ?_
          have h8 : decide (((words ++ [strOfNums word]).length : Int) > 64) = true := h7
          rw [if_pos (by simp at h8; simp; omega)] at hsp
          cases hsp
          exact Eq.refl _
        · refine ends ?_
          have h8 : decide (((words ++ [strOfNums word]).length : Int) > 64) = false := h7
          rw [if_neg (by simp at h8; simp; omega)] at hsp
          cases hsp
          exact Eq.refl _
    · have hst1 : st = 1 := by simpa using h5
      rw [if_pos (.inl hst1)] at hsp
      refine vcall_intro [12] [] (and_i (push_s st word words (by omega)) ?_)
      rintro o rfl
      refine vif_split (fun h7 => ?_) (fun h7 => ?_) <;> (try rw [h7])
      · refine ends ?_
        have h8 : decide (((words ++ [strOfNums word]).length : Int) > 64) = true := h7
        rw [if_pos (by simp at h8; simp; omega)] at hsp
        cases hsp
        exact Eq.refl _
      · refine ends ?_
        have h8 : decide (((words ++ [strOfNums word]).length : Int) > 64) = false := h7
        rw [if_neg (by simp at h8; simp; omega)] at hsp
        cases hsp
        exact Eq.refl _

end Go.Proofs.YtimhjbihhchieaaDoor.Q

namespace Go.Proofs.YtimhjbihhchieaaDoor.Q
open Go Go.V
set_option linter.unusedVariables false
set_option linter.unusedSimpArgs false
set_option maxRecDepth 100000
variable {N : Nat} {WL : World}

def qres (s : ByteArray) : Option (List Int × List Int) → ByteArray × Int × Bool
  | none => (⟨#[]⟩, 0, false)
  | some (w, r) => (strOfNums w, ((s.size - r.length : Nat) : Int), true)
/-- where the plain bytes end -/
def wend (s : ByteArray) (k : Nat) : Nat := k + (((bytesOf s).drop k).takeWhile wsimple).length
theorem wend_step {s : ByteArray} {k : Nat} (h : k < s.size) (hc : wsimple (bt s k) = true) : wend s k = wend s (k + 1) := by
  unfold wend
  rw [drop_cons s k h]
  simp [hc]
  omega
theorem wend_stop {s : ByteArray} {k : Nat} (h : k < s.size → wsimple (bt s k) = false) : wend s k = k := by
  unfold wend
  by_cases hk : k < s.size
  · rw [drop_cons s k hk]
    simp [h hk]
  · rw [drop_end s k (by omega)]
    simp
def wres (s : ByteArray) (i : Nat) : ByteArray × Int × Bool :=
  if i < s.size ∧ bt s i = 34 then qres s (qword ((bytesOf s).drop (i + 1)) []) else (s.extract i (wend s i), (wend s i : Nat), decide (i < wend s i))

set_option maxHeartbeats 4000000 in
theorem word_s (s : ByteArray) (i : Nat) (hs : s.size ≤ 4096) (hi : i ≤ s.size) {w : ByteArray} {j : Int} {b : Bool} (hw : wres s i = (w, j, b)) :
    Sound P N WL 55 [.lf (vS s), .lf (vI i)] [] (· = .ret (.tup [vS w, vI j, vB b]) []) := by
  refine Sound.of mix [] Go.Proofs.Tryd.func55 rfl rfl ?_
  have key : ∀ {X : Prop}, (¬ (i < s.size ∧ bt s i = 34) → X) → (i < s.size ∧ bt s i = 34 → X) → X := fun h1 h2 => (Classical.em _).elim h2 h1
  unfold wres at hw
  refine key (fun hq => ?_) (fun hq => ?_)
  · rw [if_neg hq] at hw
    have hgo : ∀ {c : Bool} {X Y : Prop}, c = true → X → vif c X Y := fun e h => by rw [e]; exact h
    refine vif_split (fun h => ?_) (fun h => ?_) <;> (try rw [h])
    rotate_left
    · refine vand_i (by have := h; simp at this; omega) (fun _ => ?_)
      have h2 : (bt s i != 34) = true := by
        have := h
        simp at this
        simpa using fun e => hq ⟨this, e⟩
      refine hgo h2 ?_
      refine vloop_i [0, 1, 7] [] (fun n r m => ∃ k : Nat, k + n = s.size ∧ i ≤ k ∧ wend s i = wend s k ∧ r = regs 95 [(0, .lf (vS s)), (1, .lf (vI i)), (7, .lf (vI k))] ∧ m = []) ⟨s.size - i, i, by omega, by omega, rfl, rfl, rfl⟩ ?_
      rintro n r m ⟨k, hk, hik, hwe, rfl, rfl⟩
      have fin : wend s k = k → (s.extract (i : Int).toNat (k : Int).toNat, ((k : Int), decide ((k : Int) > (i : Int)))) = (w, j, b) := fun e => by
        rw [← hw, hwe, e]
        simp
      refine vif_split (fun h3 => ?_) (fun h3 => ?_) <;> (try rw [h3])
      · have hlt : k < s.size := by have := h3; simp at this; omega
        refine vand_i (by omega) (fun _ => ?_)
        refine vcall_intro [] [] (and_i (plainByte_s (bt s k)) ?_)
        rintro o rfl
        refine vif_split (fun h4 => ?_) (fun h4 => ?_)
        · have hk1 : IntKind.i64.wrap ((k : Int) + 1) = ((k + 1 : Nat) : Int) := by rw [wrap_in (by omega) (by omega)]; omega
          exact next_i (n - 1) (by omega) ⟨k + 1, by omega, by omega, by rw [hwe, wend_step hlt h4],
            congrArg (fun x => regs 95 [(0, .lf (vS s)), (1, .lf (vI i)), (7, .lf (vI x))]) hk1, rfl⟩
        · have hf := fin (wend_stop fun _ => h4)
          refine vand_i (by omega) (fun _ => ?_)
          cases hf
          exact ends (Eq.refl _)
      · have hf := fin (wend_stop fun hh => by have := h3; simp at this; omega)
        refine vand_i (by have := h3; simp at this; omega) (fun _ => ?_)
        cases hf
        exact ends (Eq.refl _)
    · refine vloop_i [0, 1, 7] [] (fun n r m => ∃ k : Nat, k + n = s.size ∧ i ≤ k ∧ wend s i = wend s k ∧ r = regs 95 [(0, .lf (vS s)), (1, .lf (vI i)), (7, .lf (vI k))] ∧ m = []) ⟨s.size - i, i, by omega, by omega, rfl, rfl, rfl⟩ ?_
      rintro n r m ⟨k, hk, hik, hwe, rfl, rfl⟩
      have fin : wend s k = k → (s.extract (i : Int).toNat (k : Int).toNat, ((k : Int), decide ((k : Int) > (i : Int)))) = (w, j, b) := fun e => by
        rw [← hw, hwe, e]
        simp
      refine vif_split (fun h3 => ?_) (fun h3 => ?_) <;> (try rw [h3])
      · have hlt : k < s.size := by have := h3; simp at this; omega
        refine vand_i (by omega) (fun _ => ?_)
        refine vcall_intro [] [] (and_i (plainByte_s (bt s k)) ?_)
        rintro o rfl
        refine vif_split (fun h4 => ?_) (fun h4 => ?_)
        · have hk1 : IntKind.i64.wrap ((k : Int) + 1) = ((k + 1 : Nat) : Int) := by rw [wrap_in (by omega) (by omega)]; omega
          exact next_i (n - 1) (by omega) ⟨k + 1, by omega, by omega, by rw [hwe, wend_step hlt h4],
            congrArg (fun x => regs 95 [(0, .lf (vS s)), (1, .lf (vI i)), (7, .lf (vI x))]) hk1, rfl⟩
        · have hf := fin (wend_stop fun _ => h4)
          refine vand_i (by omega) (fun _ => ?_)
          cases hf
          exact ends (Eq.refl _)
      · have hf := fin (wend_stop fun hh => by have := h3; simp at this; omega)
        refine vand_i (by have := h3; simp at this; omega) (fun _ => ?_)
        cases hf
        exact ends (Eq.refl _)
  · rw [if_pos hq] at hw
    obtain ⟨hlt, h34⟩ := hq
    refine vif_split (fun h => ?_) (fun h => ?_) <;> (try rw [h])
    · have := h; simp at this; omega
    refine vand_i (by omega) (fun _ => ?_)
    refine vif_split (fun h2 => ?_) (fun h2 => ?_) <;> (try rw [h2])
    · have h2 : (bt s i != 34) = true := h2
      simp [h34] at h2
    have hi1 : IntKind.i64.wrap ((i : Int) + 1) = ((i + 1 : Nat) : Int) := by rw [wrap_in (by omega) (by omega)]; omega
    refine vloop_i [0, 8, 9] [] (fun n r m => ∃ (k : Nat) (acc : List Int), k + n = s.size ∧ acc.length ≤ k ∧ qres s (qword ((bytesOf s).drop k) acc) = (w, j, b) ∧
      r = regs 95 [(0, .lf (vS s)), (8, .lf (.al (.sl 8) (.int .u8) acc)), (9, .lf (vI k))] ∧ m = [])
      ⟨s.size - (i + 1), i + 1, [], by omega, by simp, hw, congrArg (fun x => regs 95 [(0, .lf (vS s)), (8, .lf (.al (.sl 8) (.int .u8) [])), (9, .lf (vI x))]) hi1, rfl⟩ ?_
    rintro n r m ⟨k, acc, hk, hacc, hqr, rfl, rfl⟩
    refine vif_split (fun h3 => ?_) (fun h3 => ?_) <;> (try rw [h3])
    · have hlt : k < s.size := by have := h3; simp at this; omega
      have hk1 : IntKind.i64.wrap ((k : Int) + 1) = ((k + 1 : Nat) : Int) := by rw [wrap_in (by omega) (by omega)]; omega
      have hlen : ((bytesOf s).drop (k + 1)).length = s.size - (k + 1) := by rw [List.length_drop, bytesOf_length]
      rw [drop_cons s k hlt, qword.eq_def] at hqr
      simp only at hqr
      refine vand_i (by omega) (fun _ => ?_)
      refine vif_split (fun h4 => ?_) (fun h4 => ?_) <;> (try rw [h4])
      · have h4 : bt s k = 34 := by simpa using (show (bt s k == 34) = true from h4)
        rw [if_pos h4] at hqr
        simp only [qres, hlen] at hqr
        have e : s.size - (s.size - (k + 1)) = k + 1 := by omega
        rw [e, ← hk1] at hqr
        refine ends ?_
        cases hqr
        exact Eq.refl _
      have h4 : bt s k ≠ 34 := by simpa using (show (bt s k == 34) = false from h4)
      rw [if_neg h4] at hqr
      refine vif_split (fun h5 => ?_) (fun h5 => ?_) <;> (try rw [h5])
      · have h5 : bt s k = 10 := by simpa using (show (bt s k == 10) = true from h5)
        rw [if_pos h5] at hqr
        refine ends ?_
        cases hqr
        exact Eq.refl _
      have h5 : bt s k ≠ 10 := by simpa using (show (bt s k == 10) = false from h5)
      rw [if_neg h5] at hqr
      refine vif_split (fun h6 => ?_) (fun h6 => ?_) <;> (try rw [h6])
      · have h6 : bt s k = 13 := by simpa using (show (bt s k == 13) = true from h6)
        rw [if_pos h6] at hqr
        refine ends ?_
        cases hqr
        exact Eq.refl _
      have h6 : bt s k ≠ 13 := by simpa using (show (bt s k == 13) = false from h6)
      rw [if_neg h6] at hqr
      refine vif_split (fun h7 => ?_) (fun h7 => ?_) <;> (try rw [h7])
      · have h7 : bt s k = 92 := by simpa using (show (bt s k == 92) = true from h7)
        rw [if_pos h7] at hqr
        refine vif_split (fun h8 => ?_) (fun h8 => ?_) <;> (try rw [h8])
        · rw [hk1] at h8
          have h8 : k + 1 = s.size := by have := h8; simp at this; omega
          rw [drop_end s (k + 1) (by omega)] at hqr
          refine ends ?_
          cases hqr
          exact Eq.refl _
        · rw [hk1] at h8
          have h8 : k + 1 < s.size := by have := h8; simp at this; omega
          rw [drop_cons s (k + 1) h8] at hqr
          simp only at hqr
          rw [hk1]
          have hk2 : IntKind.i64.wrap (((k + 1 : Nat) : Int) + 1) = ((k + 2 : Nat) : Int) := by rw [wrap_in (by omega) (by omega)]; omega
          refine vand_i (by omega) (fun _ => ?_)
          refine vcall_intro [] [] (and_i (pair_s (bt s (k + 1 : Nat))) ?_)
          rintro o rfl
          refine vif_split (fun h9 => ?_) (fun h9 => ?_)
          · rw [if_neg (by simpa using h9)] at hqr
            refine ends ?_
            cases hqr
            exact Eq.refl _
          · rw [if_pos (by simpa using h9)] at hqr
            refine vand_i (fits_i (n := acc.length + 1) 1 rfl ⟨by omega, by omega⟩) (fun _ => ?_)
            exact next_i (n - 2) (by omega) ⟨k + 2, acc ++ [(wmeaning (bt s (k + 1 : Nat))).1], by omega, by simp; omega, hqr,
              congrArg (fun x => regs 95 [(0, .lf (vS s)), (8, .lf (.al (.sl 8) (.int .u8) (acc ++ [(wmeaning (bt s (k + 1 : Nat))).1]))), (9, .lf (vI x))]) hk2, rfl⟩
      · have h7 : bt s k ≠ 92 := by simpa using (show (bt s k == 92) = false from h7)
        rw [if_neg h7] at hqr
        refine vand_i (fits_i (n := acc.length + 1) 1 rfl ⟨by omega, by omega⟩) (fun _ => ?_)
        exact next_i (n - 1) (by omega) ⟨k + 1, acc ++ [bt s k], by omega, by simp; omega, hqr,
          congrArg (fun x => regs 95 [(0, .lf (vS s)), (8, .lf (.al (.sl 8) (.int .u8) (acc ++ [bt s k]))), (9, .lf (vI x))]) hk1, rfl⟩
    · have hge : s.size ≤ k := by have := h3; simp at this; omega
      rw [drop_end s k hge] at hqr
      refine ends ?_
      cases hqr
      exact Eq.refl _

end Go.Proofs.YtimhjbihhchieaaDoor.Q

namespace Go.Proofs.YtimhjbihhchieaaDoor.Q
open Go Go.V
set_option linter.unusedVariables false
set_option linter.unusedSimpArgs false
set_option maxRecDepth 100000
variable {N : Nat} {WL : World}

theorem extract_word (s : ByteArray) (i n : Nat) : strOfNums (((bytesOf s).drop i).take n) = s.extract i (i + n) := by
  apply bytesOf_inj
  rw [bytesOf_strOf _ (fun x hx => bytesOf_range s x (List.mem_of_mem_drop (List.mem_of_mem_take hx))), bytesOf_extract, List.drop_take]
  congr 1
  omega

theorem wsplit_wres (s : ByteArray) (i : Nat) (hi : i ≤ s.size) (acc : List ByteArray) {w : ByteArray} {j : Int} {b : Bool} (hw : wres s i = (w, j, b)) :
    (b = false → wsplit ((bytesOf s).drop i) 0 [] acc = ([], 5)) ∧ (b = true → ∃ k : Nat, j = k ∧ i < k ∧ k ≤ s.size ∧ wsplit ((bytesOf s).drop i) 0 [] acc = after ((bytesOf s).drop k) (acc ++ [w])) := by
  unfold wres at hw
  rw [wsplit_begin]
  by_cases hlt : i < s.size
  · rw [drop_cons s i hlt]
    simp only
    by_cases h34 : bt s i = 34
    · rw [if_pos ⟨hlt, h34⟩] at hw
      rw [if_pos h34]
      cases hq : qword ((bytesOf s).drop (i + 1)) [] with
      | none =>
        rw [hq] at hw
        cases hw
        exact ⟨fun _ => rfl, fun h => by cases h⟩
      | some p =>
        obtain ⟨w0, r⟩ := p
        rw [hq] at hw
        cases hw
        refine ⟨(fun h => by cases h), fun _ => ?_⟩
        obtain ⟨h1, h2⟩ := qword_len _ _ _ _ _ (Nat.le_refl _) hq
        have hrl : ((bytesOf s).drop (i + 1)).length = s.size - (i + 1) := by rw [List.length_drop, bytesOf_length]
        rw [hrl] at h1 h2
        rw [List.drop_drop] at h2
        have hj : i + 1 + (s.size - (i + 1) - r.length) = s.size - r.length := by omega
        rw [hj] at h2
        refine ⟨s.size - r.length, rfl, by omega, by omega, ?_⟩
        simp only
        rw [← h2]
    · rw [if_neg (fun h => h34 h.2)] at hw
      rw [if_neg h34]
      cases hc : wsimple (bt s i) with
      | false =>
        rw [wend_stop (fun _ => hc)] at hw
        simp only [Nat.lt_irrefl, decide_false] at hw
        cases hw
        exact ⟨fun _ => by simp, fun h => by cases h⟩
      | true =>
        have hpos : i < wend s i := by
          unfold wend
          rw [drop_cons s i hlt]
          simp [hc]
        have hle : wend s i ≤ s.size := by
          unfold wend
          have := (takeWhile_take wsimple ((bytesOf s).drop i)).1
          have h1 := congrArg List.length this
          rw [List.length_take, List.length_drop, bytesOf_length] at h1
          omega
        simp only [hpos, decide_true] at hw
        cases hw
        refine ⟨(fun h => by cases h), fun _ => ⟨wend s i, rfl, hpos, hle, ?_⟩⟩
        rw [if_pos rfl, ← drop_cons s i hlt]
        obtain ⟨t1, t2⟩ := takeWhile_take wsimple ((bytesOf s).drop i)
        rw [← t2, ← t1, List.drop_drop, List.length_take, extract_word]
        have hl : min (((bytesOf s).drop i).takeWhile wsimple).length ((bytesOf s).drop i).length = (((bytesOf s).drop i).takeWhile wsimple).length := by
          have h1 := congrArg List.length t1
          rw [List.length_take] at h1
          exact h1
        rw [hl]
        rfl
  · rw [if_neg (fun h => hlt h.1), wend_stop (fun h => (hlt h).elim)] at hw
    simp only [Nat.lt_irrefl, decide_false] at hw
    cases hw
    rw [drop_end s i (by omega)]
    exact ⟨fun _ => rfl, fun h => by cases h⟩

set_option maxHeartbeats 4000000 in
theorem split02_s (s : ByteArray) {l : List ByteArray} {e : Int} (hp : splitP s = (l, e)) : Sound P N WL 30 [.lf (vS s)] [] (· = .ret (.tup [vSs l, vI e]) []) := by
  refine Sound.of mix [] Go.Proofs.Tryd.func30 rfl rfl ?_
  unfold splitP at hp
  refine vif_split (fun h => ?_) (fun h => ?_) <;> (try rw [h])
  · refine ends ?_
    rw [if_pos (by have := h; simp at this; omega)] at hp
    cases hp
    exact Eq.refl _
  rw [if_neg (by have := h; simp at this; omega)] at hp
  refine vif_split (fun h2 => ?_) (fun h2 => ?_) <;> (try rw [h2])
  · refine ends ?_
    rw [size_beq] at h2
    rw [if_pos (by simpa using h2)] at hp
    cases hp
    exact Eq.refl _
  rw [size_beq] at h2
  rw [if_neg (by simpa using h2)] at hp
  have hs : s.size ≤ 4096 := by have := h; simp at this; omega
  refine vloop_i [0, 4, 5] [] (fun n r m => ∃ (i : Nat) (acc : List ByteArray), i + n = s.size + 1 ∧ i ≤ s.size ∧ acc.length ≤ i ∧ wsplit ((bytesOf s).drop i) 0 [] acc = (l, e) ∧
    r = regs 42 [(0, .lf (vS s)), (4, .lf (.al (.sl 4) .str acc)), (5, .lf (vI i))] ∧ m = []) ⟨s.size + 1, 0, [], by omega, by omega, by simp, hp, rfl, rfl⟩ ?_
  rintro n r m ⟨i, acc, hn, hi, hacc, hsp, rfl, rfl⟩
  generalize hw : wres s i = q
  obtain ⟨w, j, b⟩ := q
  obtain ⟨hf, ht⟩ := wsplit_wres s i hi acc hw
  refine vcall_intro [] [] (and_i (word_s s i hs hi hw) ?_)
  rintro o rfl
  refine vif_split (fun h3 => ?_) (fun h3 => ?_)
  · rw [hf (by simpa using h3)] at hsp
    cases hsp
    exact ends (Eq.refl _)
  · obtain ⟨k, rfl, hik, hk, hw2⟩ := ht (by simpa using h3)
    rw [hw2] at hsp
    refine vand_i (fits_i (n := acc.length + 1) 16 rfl ⟨by omega, by omega⟩) (fun _ => ?_)
    refine vif_split (fun h4 => ?_) (fun h4 => ?_) <;> (try rw [h4])
    · have h4 : k = s.size := by have := h4; simp at this; omega
      rw [drop_end s k (by omega)] at hsp
      unfold after fin at hsp
      refine vif_split (fun h7 => ?_) (fun h7 => ?_) <;> (try rw [h7])
      · refine ends ?_
        have h8 : decide (((acc ++ [w]).length : Int) > 64) = true := h7
        rw [if_pos (by simp at h8; simp; omega)] at hsp
        cases hsp
        exact Eq.refl _
      · refine ends ?_
        have h8 : decide (((acc ++ [w]).length : Int) > 64) = false := h7
        rw [if_neg (by simp at h8; simp; omega)] at hsp
        cases hsp
        exact Eq.refl _
    · have h4 : k < s.size := by have := h4; simp at this; omega
      rw [drop_cons s k h4] at hsp
      unfold after at hsp
      simp only at hsp
      refine vand_i (by omega) (fun _ => ?_)
      refine vif_split (fun h5 => ?_) (fun h5 => ?_) <;> (try rw [h5])
      · have h5 : bt s k ≠ 32 := by simpa using (show (bt s k != 32) = true from h5)
        rw [if_neg h5] at hsp
        refine ends ?_
        cases hsp
        exact Eq.refl _
      · have h5 : bt s k = 32 := by simpa using (show (bt s k != 32) = false from h5)
        rw [if_pos h5] at hsp
        have hk1 : IntKind.i64.wrap ((k : Int) + 1) = ((k + 1 : Nat) : Int) := by rw [wrap_in (by omega) (by omega)]; omega
        exact next_i (s.size - k) (by omega) ⟨k + 1, acc ++ [w], by omega, by omega, by simp; omega, hsp,
          congrArg (fun x => regs 42 [(0, .lf (vS s)), (4, .lf (.al (.sl 4) .str (acc ++ [w]))), (5, .lf (vI x))]) hk1, rfl⟩

end Go.Proofs.YtimhjbihhchieaaDoor.Q

namespace Go.Proofs.YtimhjbihhchieaaDoor.Q
open Go Go.V
set_option linter.unusedVariables false
set_option linter.unusedSimpArgs false
set_option maxRecDepth 100000
variable {N : Nat} {WL : World}

def sameL : List ByteArray → List ByteArray → Bool
  | [], [] => true
  | x :: a, y :: b => (x.toList == y.toList) && sameL a b
  | _, _ => false
theorem sameL_iff : ∀ {a b : List ByteArray}, sameL a b = true ↔ a = b
  | [], [] => by simp [sameL]
  | x :: a, y :: b => by
    simp only [sameL, Bool.and_eq_true, beq_iff_eq, toList_inj, sameL_iff, List.cons.injEq]
  | [], _ :: _ => by simp [sameL]
  | _ :: _, [] => by simp [sameL]
theorem sameL_len : ∀ {a b : List ByteArray}, a.length ≠ b.length → sameL a b = false := fun {a b} h => by
  cases e : sameL a b with
  | false => rfl
  | true => exact absurd (congrArg List.length (sameL_iff.1 e)) h
theorem drop_getD {a : List ByteArray} {i : Nat} (h : i < a.length) (d : ByteArray) : a.drop i = a.getD i d :: a.drop (i + 1) := by
  rw [List.drop_eq_getElem_cons h]
  simp [List.getD, h]

set_option maxHeartbeats 4000000 in
theorem same_s (a b : List ByteArray) (ha : a.length ≤ 1000000) : Sound P N WL 33 [.lf (vSs a), .lf (vSs b)] [] (· = .ret (.lf (vB (sameL a b))) []) := by
  refine Sound.of mix [] Go.Proofs.Tryd.func33 rfl rfl ?_
  refine vif_split (fun h => ?_) (fun h => ?_) <;> (try rw [h])
  · refine ends (ret1 (aB ?_))
    rw [sameL_len (by have h : ((a.length : Int) != (b.length : Int)) = true := h; simp at h; omega)]
  have hl : a.length = b.length := by have h : ((a.length : Int) != (b.length : Int)) = false := h; simp at h; omega
  refine vloop_i [0, 1, 12, 13] [] (fun n r m => ∃ i : Nat, i + n = a.length ∧ sameL a b = sameL (a.drop i) (b.drop i) ∧
    r = regs 26 [(0, .lf (vSs a)), (1, .lf (vSs b)), (12, .lf (vI a.length)), (13, .lf (vI i))] ∧ m = []) ⟨a.length, 0, by omega, rfl, rfl, rfl⟩ ?_
  rintro n r m ⟨i, hn, hs, rfl, rfl⟩
  refine vif_split (fun h3 => ?_) (fun h3 => ?_) <;> (try rw [h3])
  · have hlt : i < a.length := by have := h3; simp at this; omega
    refine draw_i true [] [(0, 1), (1, 1), (2, 1), (3, 1), (4, 1), (5, 1), (6, 1), (7, 1), (8, 1)] (by decide +kernel) ?_
    refine vand_i (show (0 : Int) ≤ (i : Int) ∧ (i : Int) < (a.length : Int) by omega) (fun _ => ?_)
    refine vand_i (show (0 : Int) ≤ (i : Int) ∧ (i : Int) < (b.length : Int) by omega) (fun _ => ?_)
    rw [drop_getD hlt ByteArray.empty, drop_getD (by omega : i < b.length) ByteArray.empty] at hs
    refine vif_split (fun h4 => ?_) (fun h4 => ?_) <;> (try rw [h4])
    · have h4 : (!((a.getD i ByteArray.empty).toList == (b.getD i ByteArray.empty).toList)) = true := h4
      refine ends (ret1 (aB ?_))
      rw [hs]
      simp only [sameL]
      rw [Bool.not_eq_true'] at h4
      rw [h4]
      rfl
    · have h4 : (!((a.getD i ByteArray.empty).toList == (b.getD i ByteArray.empty).toList)) = false := h4
      have hk1 : IntKind.i64.wrap ((i : Int) + 1) = ((i + 1 : Nat) : Int) := by rw [wrap_in (by omega) (by omega)]; omega
      refine next_i (n - 1) (by omega) ⟨i + 1, by omega, ?_, congrArg (fun x => regs 26 [(0, .lf (vSs a)), (1, .lf (vSs b)), (12, .lf (vI a.length)), (13, .lf (vI x))]) hk1, rfl⟩
      rw [hs]
      simp only [sameL]
      rw [Bool.not_eq_false'] at h4
      rw [h4, Bool.true_and]
  · have hge : a.length ≤ i := by have := h3; simp at this; omega
    refine ends (ret1 (aB ?_))
    rw [hs, List.drop_eq_nil_of_le hge, List.drop_eq_nil_of_le (by omega)]
    rfl

set_option maxHeartbeats 4000000 in
theorem plain_s (s : ByteArray) (hs : s.size ≤ 1000000) : Sound P N WL 66 [.lf (vS s)] [] (· = .ret (.lf (vB (bareL (bytesOf s)))) []) := by
  refine Sound.of mix [] Go.Proofs.Tryd.func66 rfl rfl ?_
  have he : (bytesOf s).isEmpty = decide (s.size = 0) := by
    by_cases h : s.size = 0
    · rw [(bytesOf_nil_iff s).2 h]; simp [h]
    · have : bytesOf s ≠ [] := fun e => h ((bytesOf_nil_iff s).1 e)
      simp [h, this]
  refine vloop_i [0, 3] [] (fun n r m => ∃ i : Nat, i + n = s.size ∧ (bytesOf s).all wsimple = ((bytesOf s).drop i).all wsimple ∧ r = regs 17 [(0, .lf (vS s)), (3, .lf (vI i))] ∧ m = []) ⟨s.size, 0, by omega, rfl, rfl, rfl⟩ ?_
  rintro n r m ⟨i, hn, ha, rfl, rfl⟩
  refine vif_split (fun h3 => ?_) (fun h3 => ?_) <;> (try rw [h3])
  · have hlt : i < s.size := by have := h3; simp at this; omega
    rw [drop_cons s i hlt, List.all_cons] at ha
    refine vand_i (by omega) (fun _ => ?_)
    refine vcall_intro [] [] (and_i (plainByte_s (bt s i)) ?_)
    rintro o rfl
    refine vif_split (fun h4 => ?_) (fun h4 => ?_)
    · refine ends (ret1 (aB ?_))
      unfold bareL
      rw [ha]
      rw [Bool.not_eq_true'] at h4
      rw [h4]
      rfl
    · rw [Bool.not_eq_false'] at h4
      rw [h4, Bool.true_and] at ha
      have hk1 : IntKind.i64.wrap ((i : Int) + 1) = ((i + 1 : Nat) : Int) := by rw [wrap_in (by omega) (by omega)]; omega
      exact next_i (n - 1) (by omega) ⟨i + 1, by omega, ha, congrArg (fun x => regs 17 [(0, .lf (vS s)), (3, .lf (vI x))]) hk1, rfl⟩
  · have hge : s.size ≤ i := by have := h3; simp at this; omega
    refine ends (ret1 (aB ?_))
    unfold bareL
    rw [ha, drop_end s i hge, he]
    show (!(ByteArray.toList s == ByteArray.toList ⟨#[]⟩)) = _
    rw [size_beq]
    rfl

end Go.Proofs.YtimhjbihhchieaaDoor.Q

namespace Go.Proofs.YtimhjbihhchieaaDoor.Q
open Go Go.V
set_option linter.unusedVariables false
set_option linter.unusedSimpArgs false
set_option maxRecDepth 100000
variable {N : Nat} {WL : World}

theorem u8_in {n : Int} (h : 0 ≤ n) (h' : n < 256) : IntKind.u8.wrap n = n := by
  unfold IntKind.wrap
  simp only [IntKind.signed, IntKind.bits]
  simp
  omega
theorem congr2 {α β γ : Type} (f : α → β → γ) {a a' : α} {b b' : β} (h : a = a') (h' : b = b') : f a b = f a' b' := by rw [h, h']

set_option maxHeartbeats 8000000 in
theorem number_s (s : ByteArray) (hs : s.size ≤ 1000000) {v e : Int} (hp : numP s = (v, e)) : Sound P N WL 54 [.lf (vS s)] [] (· = .ret (.tup [vI v, vI e]) []) := by
  refine Sound.of mix [] Go.Proofs.Tryd.func54 rfl rfl ?_
  unfold numP at hp
  refine vif_split (fun h => ?_) (fun h => ?_) <;> (try rw [h])
  · have h : 0 < s.size := by have := h; simp at this; omega
    refine vand_i (by omega) (fun _ => ?_)
    refine vif_split (fun h2 => ?_) (fun h2 => ?_) <;> (try rw [h2])
    · have h2 : bt s 0 = 45 := by simpa using (show (bt s 0 == 45) = true from h2)
      refine vand_i ⟨by omega, by omega, by omega⟩ (fun _ => ?_)
      have hd : bytesOf (s.extract (Int.toNat 1) (Int.toNat (s.size : Int))) = (bytesOf s).drop 1 := by
        rw [bytesOf_extract, List.take_of_length_le (by rw [bytesOf_length]; simp)]
        rfl
      generalize s.extract (Int.toNat 1) (Int.toNat (s.size : Int)) = d at hd ⊢
      have hds : d.size ≤ s.size := by
        rw [← bytesOf_length d, hd, List.length_drop, bytesOf_length]; omega
      rw [bytes_cons s h, h2] at hp
      change numS true ((bytesOf s).drop 1) = (v, e) at hp
      rw [← hd] at hp
      have hdl : (bytesOf d).length = d.size := bytesOf_length _
      refine vif_split (fun h4 => ?_) (fun h4 => ?_) <;> (try rw [h4])
      · have h4 : d.size = 0 := by
          have h5 : (d.toList == ByteArray.toList ⟨#[]⟩) = true := h4
          rw [size_beq] at h5
          simpa using h5
        rw [(bytesOf_nil_iff _).2 h4] at hp
        refine ends ?_
        cases hp
        exact Eq.refl _
      have h4 : 0 < d.size := by
        have h5 : (d.toList == ByteArray.toList ⟨#[]⟩) = false := h4
        rw [size_beq] at h5
        have : d.size ≠ 0 := by simpa using h5
        omega
      have hcons := drop_cons d 0 h4
      rw [List.drop_zero] at hcons
      rw [hcons, numS_cons] at hp
      have hnil : (bytesOf d).drop (0 + 1) = [] ↔ d.size = 1 := by
        rw [← List.length_eq_zero_iff, List.length_drop, hdl]
        omega
      have hloop : (if (bt d 0 = 48 ∧ ((bytesOf d).drop (0 + 1) ≠ [] ∨ true = true)) then ((0, 5) : Int × Int) else numD true (bytesOf d)) = (v, e) := by
        rw [← hp, hcons]
        rfl
      have go : ¬ (bt d 0 = 48 ∧ ((bytesOf d).drop (0 + 1) ≠ [] ∨ true = true)) → (if (bytesOf d).all digit = true then numEnd true (numLoop (bytesOf d) 0) else (0, 5)) = (v, e) := fun h => by
        rw [if_neg h] at hloop
        exact hloop
      refine vand_i (by omega) (fun _ => ?_)
      refine vif_split (fun h5 => ?_) (fun h5 => ?_) <;> (try rw [h5])
      · have h5 : bt d 0 = 48 := by simpa using (show (bt d 0 == 48) = true from h5)
        refine vif_split (fun h6 => ?_) (fun h6 => ?_) <;> (try rw [h6])
        · have h6 : 1 < d.size := by have := h6; simp at this; omega
          rw [if_pos ⟨h5, .inl fun h => by have := hnil.1 h; omega⟩] at hloop
          refine ends ?_
          cases hloop
          exact Eq.refl _
        · have h6 : d.size = 1 := by have := h6; simp at this; omega
          rw [if_pos ⟨h5, .inr rfl⟩] at hloop
          refine ends ?_
          cases hloop
          exact Eq.refl _
      · have h5 : bt d 0 ≠ 48 := by simpa using (show (bt d 0 == 48) = false from h5)
        have hgo := go (fun h => h5 h.1)
        refine vloop_i [4, 5, 6, 36, 37] [] (fun k r m => ∃ (i : Nat) (n : Int), i + k = d.size ∧ 0 ≤ n ∧ n ≤ 90071992547409929 ∧ (if ((bytesOf d).drop i).all digit = true then numEnd true (numLoop ((bytesOf d).drop i) n) else (0, 5)) = (v, e) ∧
          r = regs 67 [(4, .lf (vB true)), (5, .lf (vS d)), (6, .lf (vI n)), (36, .lf (vI d.size)), (37, .lf (vI i))] ∧ m = []) ⟨d.size, 0, 0, by omega, by omega, by omega, hgo, rfl, rfl⟩ ?_
        rintro k r m ⟨i, n, hk, hn0, hn1, hq, rfl, rfl⟩
        refine vif_split (fun h7 => ?_) (fun h7 => ?_) <;> (try rw [h7])
        · have hlt : i < d.size := by have := h7; simp at this; omega
          have hb := bt_byte d i
          have hk1 : IntKind.i64.wrap ((i : Int) + 1) = ((i + 1 : Nat) : Int) := by rw [wrap_in (by omega) (by omega)]; omega
          rw [drop_cons d i hlt, List.all_cons] at hq
          refine vand_i (by omega) (fun _ => ?_)
          refine vif_split (fun h8 => ?_) (fun h8 => ?_) <;> (try rw [h8])
          · have h8 : bt d i < 48 := by simpa using (show decide (bt d i < 48) = true from h8)
            rw [if_neg (by simp [digit]; omega)] at hq
            refine ends ?_
            cases hq
            exact Eq.refl _
          have h8 : ¬ bt d i < 48 := by simpa using (show decide (bt d i < 48) = false from h8)
          refine vand_i (by omega) (fun _ => ?_)
          refine vif_split (fun h9 => ?_) (fun h9 => ?_) <;> (try rw [h9])
          · have h9 : bt d i > 57 := by simpa using (show decide (bt d i > 57) = true from h9)
            rw [if_neg (by simp [digit]; omega)] at hq
            refine ends ?_
            cases hq
            exact Eq.refl _
          have h9 : ¬ bt d i > 57 := by simpa using (show decide (bt d i > 57) = false from h9)
          have hdg : digit (bt d i) = true := by simp [digit]; omega
          rw [hdg, Bool.true_and, numLoop] at hq
          refine vif_split (fun h10 => ?_) (fun h10 => ?_) <;> (try rw [h10])
          · have h10 : n ≤ 9007199254740992 := by simpa using h10
            rw [if_pos h10] at hq
            refine vand_i (by omega) (fun _ => ?_)
            have hv : IntKind.i64.wrap (IntKind.i64.wrap (10 * n) + IntKind.i64.wrap (IntKind.u8.wrap (bt d i - 48))) = 10 * n + (bt d i - 48) := by
              rw [u8_in (by omega) (by omega), wrap_in (n := 10 * n) (by omega) (by omega), wrap_in (n := bt d i - 48) (by omega) (by omega), wrap_in (by omega) (by omega)]
            exact next_i (k - 1) (by omega) ⟨i + 1, 10 * n + (bt d i - 48), by omega, by omega, by omega, hq,
              congr2 (fun x y => regs 67 [(4, .lf (vB true)), (5, .lf (vS d)), (6, .lf (vI x)), (36, .lf (vI d.size)), (37, .lf (vI y))]) hv hk1, rfl⟩
          · have h10 : ¬ n ≤ 9007199254740992 := by simpa using h10
            rw [if_neg h10] at hq
            exact next_i (k - 1) (by omega) ⟨i + 1, n, by omega, hn0, hn1, hq,
              congrArg (fun y => regs 67 [(4, .lf (vB true)), (5, .lf (vS d)), (6, .lf (vI n)), (36, .lf (vI d.size)), (37, .lf (vI y))]) hk1, rfl⟩
        · have hge : d.size ≤ i := by have := h7; simp at this; omega
          rw [drop_end d i hge, if_pos List.all_nil, numLoop] at hq
          unfold numEnd at hq
          refine vif_split (fun h8 => ?_) (fun h8 => ?_) <;> (try rw [h8])
          · have h8 : n > 9007199254740992 := by simpa using h8
            rw [if_pos h8] at hq
            refine ends ?_
            cases hq
            exact Eq.refl _
          · have h8 : ¬ 9007199254740992 < n := by have := h8; simp at this; omega
            rw [if_neg h8] at hq
            rw [if_pos rfl] at hq
            have hng : IntKind.i64.wrap (0 - n) = -n := by rw [wrap_in (by omega) (by omega)]; omega
            rw [← hng] at hq
            refine ends ?_
            cases hq
            exact Eq.refl _
    · have h2 : bt s 0 ≠ 45 := by simpa using (show (bt s 0 == 45) = false from h2)
      have hp : numS false (bytesOf s) = (v, e) := by
        rw [← hp]
        rw [bytes_cons s h]
        unfold numL
        split
        · rename_i cs heq
          exact absurd (List.cons.inj heq).1 h2
        · rfl
      have hdl : (bytesOf s).length = s.size := bytesOf_length _
      refine vif_split (fun h4 => ?_) (fun h4 => ?_) <;> (try rw [h4])
      · have h4 : s.size = 0 := by
          have h5 : (s.toList == ByteArray.toList ⟨#[]⟩) = true := h4
          rw [size_beq] at h5
          simpa using h5
        rw [(bytesOf_nil_iff _).2 h4] at hp
        refine ends ?_
        cases hp
        exact Eq.refl _
      have h4 : 0 < s.size := by
        have h5 : (s.toList == ByteArray.toList ⟨#[]⟩) = false := h4
        rw [size_beq] at h5
        have : s.size ≠ 0 := by simpa using h5
        omega
      have hcons := drop_cons s 0 h4
      rw [List.drop_zero] at hcons
      rw [hcons, numS_cons] at hp
      have hnil : (bytesOf s).drop (0 + 1) = [] ↔ s.size = 1 := by
        rw [← List.length_eq_zero_iff, List.length_drop, hdl]
        omega
      have hloop : (if (bt s 0 = 48 ∧ ((bytesOf s).drop (0 + 1) ≠ [] ∨ false = true)) then ((0, 5) : Int × Int) else numD false (bytesOf s)) = (v, e) := by
        rw [← hp, hcons]
        rfl
      have go : ¬ (bt s 0 = 48 ∧ ((bytesOf s).drop (0 + 1) ≠ [] ∨ false = true)) → (if (bytesOf s).all digit = true then numEnd false (numLoop (bytesOf s) 0) else (0, 5)) = (v, e) := fun h => by
        rw [if_neg h] at hloop
        exact hloop
      refine vand_i (by omega) (fun _ => ?_)
      refine vif_split (fun h5 => ?_) (fun h5 => ?_) <;> (try rw [h5])
      · have h5 : bt s 0 = 48 := by simpa using (show (bt s 0 == 48) = true from h5)
        refine vif_split (fun h6 => ?_) (fun h6 => ?_) <;> (try rw [h6])
        · have h6 : 1 < s.size := by have := h6; simp at this; omega
          rw [if_pos ⟨h5, .inl fun h => by have := hnil.1 h; omega⟩] at hloop
          refine ends ?_
          cases hloop
          exact Eq.refl _
        · have h6 : s.size = 1 := by have := h6; simp at this; omega
          have hgo := go (fun h => by rcases h.2 with h | h; exact h (hnil.2 h6); cases h)
          refine vloop_i [4, 5, 6, 36, 37] [] (fun k r m => ∃ (i : Nat) (n : Int), i + k = s.size ∧ 0 ≤ n ∧ n ≤ 90071992547409929 ∧ (if ((bytesOf s).drop i).all digit = true then numEnd false (numLoop ((bytesOf s).drop i) n) else (0, 5)) = (v, e) ∧
            r = regs 67 [(4, .lf (vB false)), (5, .lf (vS s)), (6, .lf (vI n)), (36, .lf (vI s.size)), (37, .lf (vI i))] ∧ m = []) ⟨s.size, 0, 0, by omega, by omega, by omega, hgo, rfl, rfl⟩ ?_
          rintro k r m ⟨i, n, hk, hn0, hn1, hq, rfl, rfl⟩
          refine vif_split (fun h7 => ?_) (fun h7 => ?_) <;> (try rw [h7])
          · have hlt : i < s.size := by have := h7; simp at this; omega
            have hb := bt_byte s i
            have hk1 : IntKind.i64.wrap ((i : Int) + 1) = ((i + 1 : Nat) : Int) := by rw [wrap_in (by omega) (by omega)]; omega
            rw [drop_cons s i hlt, List.all_cons] at hq
            refine vand_i (by omega) (fun _ => ?_)
            refine vif_split (fun h8 => ?_) (fun h8 => ?_) <;> (try rw [h8])
            · have h8 : bt s i < 48 := by simpa using (show decide (bt s i < 48) = true from h8)
              rw [if_neg (by simp [digit]; omega)] at hq
              refine ends ?_
              cases hq
              exact Eq.refl _
            have h8 : ¬ bt s i < 48 := by simpa using (show decide (bt s i < 48) = false from h8)
            refine vand_i (by omega) (fun _ => ?_)
            refine vif_split (fun h9 => ?_) (fun h9 => ?_) <;> (try rw [h9])
            · have h9 : bt s i > 57 := by simpa using (show decide (bt s i > 57) = true from h9)
              rw [if_neg (by simp [digit]; omega)] at hq
              refine ends ?_
              cases hq
              exact Eq.refl _
            have h9 : ¬ bt s i > 57 := by simpa using (show decide (bt s i > 57) = false from h9)
            have hdg : digit (bt s i) = true := by simp [digit]; omega
            rw [hdg, Bool.true_and, numLoop] at hq
            refine vif_split (fun h10 => ?_) (fun h10 => ?_) <;> (try rw [h10])
            · have h10 : n ≤ 9007199254740992 := by simpa using h10
              rw [if_pos h10] at hq
              refine vand_i (by omega) (fun _ => ?_)
              have hv : IntKind.i64.wrap (IntKind.i64.wrap (10 * n) + IntKind.i64.wrap (IntKind.u8.wrap (bt s i - 48))) = 10 * n + (bt s i - 48) := by
                rw [u8_in (by omega) (by omega), wrap_in (n := 10 * n) (by omega) (by omega), wrap_in (n := bt s i - 48) (by omega) (by omega), wrap_in (by omega) (by omega)]
              exact next_i (k - 1) (by omega) ⟨i + 1, 10 * n + (bt s i - 48), by omega, by omega, by omega, hq,
                congr2 (fun x y => regs 67 [(4, .lf (vB false)), (5, .lf (vS s)), (6, .lf (vI x)), (36, .lf (vI s.size)), (37, .lf (vI y))]) hv hk1, rfl⟩
            · have h10 : ¬ n ≤ 9007199254740992 := by simpa using h10
              rw [if_neg h10] at hq
              exact next_i (k - 1) (by omega) ⟨i + 1, n, by omega, hn0, hn1, hq,
                congrArg (fun y => regs 67 [(4, .lf (vB false)), (5, .lf (vS s)), (6, .lf (vI n)), (36, .lf (vI s.size)), (37, .lf (vI y))]) hk1, rfl⟩
          · have hge : s.size ≤ i := by have := h7; simp at this; omega
            rw [drop_end s i hge, if_pos List.all_nil, numLoop] at hq
            unfold numEnd at hq
            refine vif_split (fun h8 => ?_) (fun h8 => ?_) <;> (try rw [h8])
            · have h8 : n > 9007199254740992 := by simpa using h8
              rw [if_pos h8] at hq
              refine ends ?_
              cases hq
              exact Eq.refl _
            · have h8 : ¬ 9007199254740992 < n := by have := h8; simp at this; omega
              rw [if_neg h8] at hq
              rw [if_neg (by simp)] at hq
              refine ends ?_
              cases hq
              exact Eq.refl _
      · have h5 : bt s 0 ≠ 48 := by simpa using (show (bt s 0 == 48) = false from h5)
        have hgo := go (fun h => h5 h.1)
        refine vloop_i [4, 5, 6, 36, 37] [] (fun k r m => ∃ (i : Nat) (n : Int), i + k = s.size ∧ 0 ≤ n ∧ n ≤ 90071992547409929 ∧ (if ((bytesOf s).drop i).all digit = true then numEnd false (numLoop ((bytesOf s).drop i) n) else (0, 5)) = (v, e) ∧
          r = regs 67 [(4, .lf (vB false)), (5, .lf (vS s)), (6, .lf (vI n)), (36, .lf (vI s.size)), (37, .lf (vI i))] ∧ m = []) ⟨s.size, 0, 0, by omega, by omega, by omega, hgo, rfl, rfl⟩ ?_
        rintro k r m ⟨i, n, hk, hn0, hn1, hq, rfl, rfl⟩
        refine vif_split (fun h7 => ?_) (fun h7 => ?_) <;> (try rw [h7])
        · have hlt : i < s.size := by have := h7; simp at this; omega
          have hb := bt_byte s i
          have hk1 : IntKind.i64.wrap ((i : Int) + 1) = ((i + 1 : Nat) : Int) := by rw [wrap_in (by omega) (by omega)]; omega
          rw [drop_cons s i hlt, List.all_cons] at hq
          refine vand_i (by omega) (fun _ => ?_)
          refine vif_split (fun h8 => ?_) (fun h8 => ?_) <;> (try rw [h8])
          · have h8 : bt s i < 48 := by simpa using (show decide (bt s i < 48) = true from h8)
            rw [if_neg (by simp [digit]; omega)] at hq
            refine ends ?_
            cases hq
            exact Eq.refl _
          have h8 : ¬ bt s i < 48 := by simpa using (show decide (bt s i < 48) = false from h8)
          refine vand_i (by omega) (fun _ => ?_)
          refine vif_split (fun h9 => ?_) (fun h9 => ?_) <;> (try rw [h9])
          · have h9 : bt s i > 57 := by simpa using (show decide (bt s i > 57) = true from h9)
            rw [if_neg (by simp [digit]; omega)] at hq
            refine ends ?_
            cases hq
            exact Eq.refl _
          have h9 : ¬ bt s i > 57 := by simpa using (show decide (bt s i > 57) = false from h9)
          have hdg : digit (bt s i) = true := by simp [digit]; omega
          rw [hdg, Bool.true_and, numLoop] at hq
          refine vif_split (fun h10 => ?_) (fun h10 => ?_) <;> (try rw [h10])
          · have h10 : n ≤ 9007199254740992 := by simpa using h10
            rw [if_pos h10] at hq
            refine vand_i (by omega) (fun _ => ?_)
            have hv : IntKind.i64.wrap (IntKind.i64.wrap (10 * n) + IntKind.i64.wrap (IntKind.u8.wrap (bt s i - 48))) = 10 * n + (bt s i - 48) := by
              rw [u8_in (by omega) (by omega), wrap_in (n := 10 * n) (by omega) (by omega), wrap_in (n := bt s i - 48) (by omega) (by omega), wrap_in (by omega) (by omega)]
            exact next_i (k - 1) (by omega) ⟨i + 1, 10 * n + (bt s i - 48), by omega, by omega, by omega, hq,
              congr2 (fun x y => regs 67 [(4, .lf (vB false)), (5, .lf (vS s)), (6, .lf (vI x)), (36, .lf (vI s.size)), (37, .lf (vI y))]) hv hk1, rfl⟩
          · have h10 : ¬ n ≤ 9007199254740992 := by simpa using h10
            rw [if_neg h10] at hq
            exact next_i (k - 1) (by omega) ⟨i + 1, n, by omega, hn0, hn1, hq,
              congrArg (fun y => regs 67 [(4, .lf (vB false)), (5, .lf (vS s)), (6, .lf (vI n)), (36, .lf (vI s.size)), (37, .lf (vI y))]) hk1, rfl⟩
        · have hge : s.size ≤ i := by have := h7; simp at this; omega
          rw [drop_end s i hge, if_pos List.all_nil, numLoop] at hq
          unfold numEnd at hq
          refine vif_split (fun h8 => ?_) (fun h8 => ?_) <;> (try rw [h8])
          · have h8 : n > 9007199254740992 := by simpa using h8
            rw [if_pos h8] at hq
            refine ends ?_
            cases hq
            exact Eq.refl _
          · have h8 : ¬ 9007199254740992 < n := by have := h8; simp at this; omega
            rw [if_neg h8] at hq
            rw [if_neg (by simp)] at hq
            refine ends ?_
            cases hq
            exact Eq.refl _
  · have h : s.size = 0 := by have := of_decide_eq_false h; omega
    have hp : numS false (bytesOf s) = (v, e) := by
      rw [← hp, (bytesOf_nil_iff _).2 h]
      rfl
    refine vif_split (fun h4 => ?_) (fun h4 => ?_) <;> (try rw [h4])
    · rw [(bytesOf_nil_iff _).2 h] at hp
      refine ends ?_
      cases hp
      exact Eq.refl _
    · have h5 : (s.toList == ByteArray.toList ⟨#[]⟩) = false := h4
      rw [size_beq] at h5
      simp [h] at h5

end Go.Proofs.YtimhjbihhchieaaDoor.Q

namespace Go.Proofs.YtimhjbihhchieaaDoor.Q
open Go Go.V
set_option linter.unusedVariables false
set_option linter.unusedSimpArgs false
set_option maxRecDepth 100000
variable {N : Nat} {WL : World}

theorem zero_beq (d : ByteArray) : (d.toList == ByteArray.toList ⟨#[48]⟩) = decide (d.size = 1 ∧ bt d 0 = 48) := by
  have e : ByteArray.toList ⟨#[48]⟩ = ([48] : List UInt8) := by rw [toList_data]
  rw [e, toList_data]
  by_cases h : d.data.toList = [48]
  · have hs : d.size = 1 := by
      have := congrArg List.length h
      simpa using this
    have hb : bt d 0 = 48 := by unfold bt; rw [h]; rfl
    simp [h, hs, hb]
  · have : ¬ (d.size = 1 ∧ bt d 0 = 48) := fun ⟨h1, h2⟩ => h (by
      have hl : d.data.toList.length = 1 := by simpa using h1
      match hd : d.data.toList, hl with
      | [x], _ =>
        unfold bt at h2
        rw [hd] at h2
        have h2 : ((x.toNat : Nat) : Int) = 48 := h2
        have : x.toNat = 48 := by omega
        rw [show x = 48 from UInt8.toNat_inj.1 this])
    simp [h, this]

set_option maxHeartbeats 8000000 in
theorem number02_s (s : ByteArray) (hs : s.size ≤ 1000000) {v e : Int} (hp : numP s = (v, e)) : Sound P N WL 56 [.lf (vS s)] [] (· = .ret (.tup [vI v, vI e]) []) := by
  refine Sound.of mix [] Go.Proofs.Tryd.func56 rfl rfl ?_
  unfold numP at hp
  refine vif_split (fun h => ?_) (fun h => ?_) <;> (try rw [h])
  · have h : 0 < s.size := by
      have h5 : (!(s.toList == ByteArray.toList ⟨#[]⟩)) = true := h
      rw [size_beq] at h5
      have : s.size ≠ 0 := by simpa using h5
      omega
    refine vand_i (by omega) (fun _ => ?_)
    refine vif_split (fun h2 => ?_) (fun h2 => ?_) <;> (try rw [h2])
    · have h2 : bt s 0 = 45 := by simpa using (show (bt s 0 == 45) = true from h2)
      refine vand_i ⟨by omega, by omega, by omega⟩ (fun _ => ?_)
      have hd : bytesOf (s.extract (Int.toNat 1) (Int.toNat (s.size : Int))) = (bytesOf s).drop 1 := by
        rw [bytesOf_extract, List.take_of_length_le (by rw [bytesOf_length]; simp)]
        rfl
      generalize s.extract (Int.toNat 1) (Int.toNat (s.size : Int)) = d at hd ⊢
      have hds : d.size ≤ s.size := by
        rw [← bytesOf_length d, hd, List.length_drop, bytesOf_length]; omega
      rw [bytes_cons s h, h2] at hp
      change numS true ((bytesOf s).drop 1) = (v, e) at hp
      rw [← hd] at hp
      have hdl : (bytesOf d).length = d.size := bytesOf_length _
      refine vif_split (fun h4 => ?_) (fun h4 => ?_) <;> (try rw [h4])
      · have h4 : d.size = 0 := by
          have h5 : (d.toList == ByteArray.toList ⟨#[]⟩) = true := h4
          rw [size_beq] at h5
          simpa using h5
        rw [(bytesOf_nil_iff _).2 h4] at hp
        refine ends ?_
        cases hp
        exact Eq.refl _
      have h4 : 0 < d.size := by
        have h5 : (d.toList == ByteArray.toList ⟨#[]⟩) = false := h4
        rw [size_beq] at h5
        have : d.size ≠ 0 := by simpa using h5
        omega
      have hcons := drop_cons d 0 h4
      rw [List.drop_zero] at hcons
      rw [hcons, numS_cons] at hp
      have hnil : (bytesOf d).drop (0 + 1) = [] ↔ d.size = 1 := by
        rw [← List.length_eq_zero_iff, List.length_drop, hdl]
        omega
      have hloop : (if (bt d 0 = 48 ∧ ((bytesOf d).drop (0 + 1) ≠ [] ∨ true = true)) then ((0, 5) : Int × Int) else numD true (bytesOf d)) = (v, e) := by
        rw [← hp, hcons]
        rfl
      have go : ¬ (bt d 0 = 48 ∧ ((bytesOf d).drop (0 + 1) ≠ [] ∨ true = true)) → (if (bytesOf d).all digit = true then numEnd true (numLoop (bytesOf d) 0) else (0, 5)) = (v, e) := fun h => by
        rw [if_neg h] at hloop
        exact hloop
      refine vif_split (fun h6 => ?_) (fun h6 => ?_) <;> (try rw [h6])
      · have h6 : 1 < d.size := by have := h6; simp at this; omega
        refine vand_i (by omega) (fun _ => ?_)
        refine vif_split (fun h5 => ?_) (fun h5 => ?_) <;> (try rw [h5])
        · have h5 : bt d 0 = 48 := by simpa using (show (bt d 0 == 48) = true from h5)
          rw [if_pos ⟨h5, .inl fun h => by have := hnil.1 h; omega⟩] at hloop
          refine ends ?_
          cases hloop
          exact Eq.refl _
        · have h5 : bt d 0 ≠ 48 := by simpa using (show (bt d 0 == 48) = false from h5)
          have hgo := go (fun h => h5 h.1)
          refine vif_split (fun h9 => ?_) (fun h9 => ?_) <;> (try rw [h9])
          · rw [zero_beq] at h9
            have h9 := of_decide_eq_true h9
            omega
          · rw [zero_beq] at h9
            have h9 := of_decide_eq_false h9
            have hgo2 : (if (bytesOf d).all digit = true then numEnd true (capLoop (bytesOf d) 0) else (0, 5)) = (v, e) := by
              rw [← hgo]
              by_cases hall : (bytesOf d).all digit = true
              · rw [if_pos hall, if_pos hall, numEnd_cap true _ hall]
              · rw [if_neg hall, if_neg hall]
            refine vloop_i [4, 5, 6, 7] [] (fun k r m => ∃ (i : Nat) (n : Int), i + k = d.size ∧ 0 ≤ n ∧ n ≤ 18014398509481984 ∧ (if ((bytesOf d).drop i).all digit = true then numEnd true (capLoop ((bytesOf d).drop i) n) else (0, 5)) = (v, e) ∧
              r = regs 68 [(4, .lf (vS d)), (5, .lf (vB true)), (6, .lf (vI n)), (7, .lf (vI i))] ∧ m = []) ⟨d.size, 0, 0, by omega, by omega, by omega, hgo2, rfl, rfl⟩ ?_
            rintro k r m ⟨i, n, hk, hn0, hn1, hq, rfl, rfl⟩
            refine vif_split (fun h7 => ?_) (fun h7 => ?_) <;> (try rw [h7])
            · have hlt : i < d.size := by have := h7; simp at this; omega
              have hb := bt_byte d i
              have hk1 : IntKind.i64.wrap ((i : Int) + 1) = ((i + 1 : Nat) : Int) := by rw [wrap_in (by omega) (by omega)]; omega
              rw [drop_cons d i hlt, List.all_cons] at hq
              refine vand_i (by omega) (fun _ => ?_)
              refine vif_split (fun h8 => ?_) (fun h8 => ?_) <;> (try rw [h8])
              · have h8 : bt d i < 48 := by simpa using (show decide (bt d i < 48) = true from h8)
                rw [if_neg (by simp [digit]; omega)] at hq
                refine ends ?_
                cases hq
                exact Eq.refl _
              have h8 : ¬ bt d i < 48 := by simpa using (show decide (bt d i < 48) = false from h8)
              refine vand_i (by omega) (fun _ => ?_)
              refine vif_split (fun h9 => ?_) (fun h9 => ?_) <;> (try rw [h9])
              · have h9 : bt d i > 57 := by simpa using (show decide (bt d i > 57) = true from h9)
                rw [if_neg (by simp [digit]; omega)] at hq
                refine ends ?_
                cases hq
                exact Eq.refl _
              have h9 : ¬ bt d i > 57 := by simpa using (show decide (bt d i > 57) = false from h9)
              have hdg : digit (bt d i) = true := by simp [digit]; omega
              rw [hdg, Bool.true_and, capLoop] at hq
              refine vand_i (by omega) (fun _ => ?_)
              have hv : mn (IntKind.i64.wrap (IntKind.i64.wrap (n * 10) + IntKind.i64.wrap (IntKind.u8.wrap (bt d i - 48)))) 18014398509481984 = mn (n * 10 + (bt d i - 48)) 18014398509481984 := by
                rw [u8_in (by omega) (by omega), wrap_in (n := n * 10) (by omega) (by omega), wrap_in (n := bt d i - 48) (by omega) (by omega), wrap_in (by omega) (by omega)]
              exact next_i (k - 1) (by omega) ⟨i + 1, mn (n * 10 + (bt d i - 48)) 18014398509481984, by omega, by unfold mn; split <;> omega, by unfold mn; split <;> omega, hq,
                congr2 (fun x y => regs 68 [(4, .lf (vS d)), (5, .lf (vB true)), (6, .lf (vI x)), (7, .lf (vI y))]) hv hk1, rfl⟩
            · have hge : d.size ≤ i := by have := h7; simp at this; omega
              rw [drop_end d i hge, if_pos List.all_nil, capLoop] at hq
              unfold numEnd at hq
              refine vif_split (fun h8 => ?_) (fun h8 => ?_) <;> (try rw [h8])
              · have h8 : n > 9007199254740992 := by simpa using h8
                rw [if_pos h8] at hq
                refine ends ?_
                cases hq
                exact Eq.refl _
              · have h8 : ¬ 9007199254740992 < n := by have := h8; simp at this; omega
                rw [if_neg h8] at hq
                have hng : IntKind.i64.wrap (0 - n) = -n := by rw [wrap_in (by omega) (by omega)]; omega
                rw [if_pos rfl, ← hng] at hq
                refine ends ?_
                cases hq
                exact Eq.refl _
      · have h6 : d.size = 1 := by have := h6; simp at this; omega
        refine vif_split (fun h9 => ?_) (fun h9 => ?_) <;> (try rw [h9])
        · rw [zero_beq] at h9
          have h9 := of_decide_eq_true h9
          rw [if_pos ⟨h9.2, .inr rfl⟩] at hloop
          refine ends ?_
          cases hloop
          exact Eq.refl _
        · rw [zero_beq] at h9
          have h9 := of_decide_eq_false h9
          have hgo := go (fun h => h9 ⟨h6, h.1⟩)
          have hgo2 : (if (bytesOf d).all digit = true then numEnd true (capLoop (bytesOf d) 0) else (0, 5)) = (v, e) := by
            rw [← hgo]
            by_cases hall : (bytesOf d).all digit = true
            · rw [if_pos hall, if_pos hall, numEnd_cap true _ hall]
            · rw [if_neg hall, if_neg hall]
          refine vloop_i [4, 5, 6, 7] [] (fun k r m => ∃ (i : Nat) (n : Int), i + k = d.size ∧ 0 ≤ n ∧ n ≤ 18014398509481984 ∧ (if ((bytesOf d).drop i).all digit = true then numEnd true (capLoop ((bytesOf d).drop i) n) else (0, 5)) = (v, e) ∧
            r = regs 68 [(4, .lf (vS d)), (5, .lf (vB true)), (6, .lf (vI n)), (7, .lf (vI i))] ∧ m = []) ⟨d.size, 0, 0, by omega, by omega, by omega, hgo2, rfl, rfl⟩ ?_
          rintro k r m ⟨i, n, hk, hn0, hn1, hq, rfl, rfl⟩
          refine vif_split (fun h7 => ?_) (fun h7 => ?_) <;> (try rw [h7])
          · have hlt : i < d.size := by have := h7; simp at this; omega
            have hb := bt_byte d i
            have hk1 : IntKind.i64.wrap ((i : Int) + 1) = ((i + 1 : Nat) : Int) := by rw [wrap_in (by omega) (by omega)]; omega
            rw [drop_cons d i hlt, List.all_cons] at hq
            refine vand_i (by omega) (fun _ => ?_)
            refine vif_split (fun h8 => ?_) (fun h8 => ?_) <;> (try rw [h8])
            · have h8 : bt d i < 48 := by simpa using (show decide (bt d i < 48) = true from h8)
              rw [if_neg (by simp [digit]; omega)] at hq
              refine ends ?_
              cases hq
              exact Eq.refl _
            have h8 : ¬ bt d i < 48 := by simpa using (show decide (bt d i < 48) = false from h8)
            refine vand_i (by omega) (fun _ => ?_)
            refine vif_split (fun h9 => ?_) (fun h9 => ?_) <;> (try rw [h9])
            · have h9 : bt d i > 57 := by simpa using (show decide (bt d i > 57) = true from h9)
              rw [if_neg (by simp [digit]; omega)] at hq
              refine ends ?_
              cases hq
              exact Eq.refl _
            have h9 : ¬ bt d i > 57 := by simpa using (show decide (bt d i > 57) = false from h9)
            have hdg : digit (bt d i) = true := by simp [digit]; omega
            rw [hdg, Bool.true_and, capLoop] at hq
            refine vand_i (by omega) (fun _ => ?_)
            have hv : mn (IntKind.i64.wrap (IntKind.i64.wrap (n * 10) + IntKind.i64.wrap (IntKind.u8.wrap (bt d i - 48)))) 18014398509481984 = mn (n * 10 + (bt d i - 48)) 18014398509481984 := by
              rw [u8_in (by omega) (by omega), wrap_in (n := n * 10) (by omega) (by omega), wrap_in (n := bt d i - 48) (by omega) (by omega), wrap_in (by omega) (by omega)]
            exact next_i (k - 1) (by omega) ⟨i + 1, mn (n * 10 + (bt d i - 48)) 18014398509481984, by omega, by unfold mn; split <;> omega, by unfold mn; split <;> omega, hq,
              congr2 (fun x y => regs 68 [(4, .lf (vS d)), (5, .lf (vB true)), (6, .lf (vI x)), (7, .lf (vI y))]) hv hk1, rfl⟩
          · have hge : d.size ≤ i := by have := h7; simp at this; omega
            rw [drop_end d i hge, if_pos List.all_nil, capLoop] at hq
            unfold numEnd at hq
            refine vif_split (fun h8 => ?_) (fun h8 => ?_) <;> (try rw [h8])
            · have h8 : n > 9007199254740992 := by simpa using h8
              rw [if_pos h8] at hq
              refine ends ?_
              cases hq
              exact Eq.refl _
            · have h8 : ¬ 9007199254740992 < n := by have := h8; simp at this; omega
              rw [if_neg h8] at hq
              have hng : IntKind.i64.wrap (0 - n) = -n := by rw [wrap_in (by omega) (by omega)]; omega
              rw [if_pos rfl, ← hng] at hq
              refine ends ?_
              cases hq
              exact Eq.refl _
    · have h2 : bt s 0 ≠ 45 := by simpa using (show (bt s 0 == 45) = false from h2)
      have hp : numS false (bytesOf s) = (v, e) := by
        rw [← hp]
        rw [bytes_cons s h]
        unfold numL
        split
        · rename_i cs heq
          exact absurd (List.cons.inj heq).1 h2
        · rfl
      have hdl : (bytesOf s).length = s.size := bytesOf_length _
      refine vif_split (fun h4 => ?_) (fun h4 => ?_) <;> (try rw [h4])
      · have h4 : s.size = 0 := by
          have h5 : (s.toList == ByteArray.toList ⟨#[]⟩) = true := h4
          rw [size_beq] at h5
          simpa using h5
        rw [(bytesOf_nil_iff _).2 h4] at hp
        refine ends ?_
        cases hp
        exact Eq.refl _
      have h4 : 0 < s.size := by
        have h5 : (s.toList == ByteArray.toList ⟨#[]⟩) = false := h4
        rw [size_beq] at h5
        have : s.size ≠ 0 := by simpa using h5
        omega
      have hcons := drop_cons s 0 h4
      rw [List.drop_zero] at hcons
      rw [hcons, numS_cons] at hp
      have hnil : (bytesOf s).drop (0 + 1) = [] ↔ s.size = 1 := by
        rw [← List.length_eq_zero_iff, List.length_drop, hdl]
        omega
      have hloop : (if (bt s 0 = 48 ∧ ((bytesOf s).drop (0 + 1) ≠ [] ∨ false = true)) then ((0, 5) : Int × Int) else numD false (bytesOf s)) = (v, e) := by
        rw [← hp, hcons]
        rfl
      have go : ¬ (bt s 0 = 48 ∧ ((bytesOf s).drop (0 + 1) ≠ [] ∨ false = true)) → (if (bytesOf s).all digit = true then numEnd false (numLoop (bytesOf s) 0) else (0, 5)) = (v, e) := fun h => by
        rw [if_neg h] at hloop
        exact hloop
      refine vif_split (fun h6 => ?_) (fun h6 => ?_) <;> (try rw [h6])
      · have h6 : 1 < s.size := by have := h6; simp at this; omega
        refine vand_i (by omega) (fun _ => ?_)
        refine vif_split (fun h5 => ?_) (fun h5 => ?_) <;> (try rw [h5])
        · have h5 : bt s 0 = 48 := by simpa using (show (bt s 0 == 48) = true from h5)
          rw [if_pos ⟨h5, .inl fun h => by have := hnil.1 h; omega⟩] at hloop
          refine ends ?_
          cases hloop
          exact Eq.refl _
        · have h5 : bt s 0 ≠ 48 := by simpa using (show (bt s 0 == 48) = false from h5)
          have hgo := go (fun h => h5 h.1)
          have hgo2 : (if (bytesOf s).all digit = true then numEnd false (capLoop (bytesOf s) 0) else (0, 5)) = (v, e) := by
            rw [← hgo]
            by_cases hall : (bytesOf s).all digit = true
            · rw [if_pos hall, if_pos hall, numEnd_cap false _ hall]
            · rw [if_neg hall, if_neg hall]
          refine vloop_i [4, 5, 6, 7] [] (fun k r m => ∃ (i : Nat) (n : Int), i + k = s.size ∧ 0 ≤ n ∧ n ≤ 18014398509481984 ∧ (if ((bytesOf s).drop i).all digit = true then numEnd false (capLoop ((bytesOf s).drop i) n) else (0, 5)) = (v, e) ∧
            r = regs 68 [(4, .lf (vS s)), (5, .lf (vB false)), (6, .lf (vI n)), (7, .lf (vI i))] ∧ m = []) ⟨s.size, 0, 0, by omega, by omega, by omega, hgo2, rfl, rfl⟩ ?_
          rintro k r m ⟨i, n, hk, hn0, hn1, hq, rfl, rfl⟩
          refine vif_split (fun h7 => ?_) (fun h7 => ?_) <;> (try rw [h7])
          · have hlt : i < s.size := by have := h7; simp at this; omega
            have hb := bt_byte s i
            have hk1 : IntKind.i64.wrap ((i : Int) + 1) = ((i + 1 : Nat) : Int) := by rw [wrap_in (by omega) (by omega)]; omega
            rw [drop_cons s i hlt, List.all_cons] at hq
            refine vand_i (by omega) (fun _ => ?_)
            refine vif_split (fun h8 => ?_) (fun h8 => ?_) <;> (try rw [h8])
            · have h8 : bt s i < 48 := by simpa using (show decide (bt s i < 48) = true from h8)
              rw [if_neg (by simp [digit]; omega)] at hq
              refine ends ?_
              cases hq
              exact Eq.refl _
            have h8 : ¬ bt s i < 48 := by simpa using (show decide (bt s i < 48) = false from h8)
            refine vand_i (by omega) (fun _ => ?_)
            refine vif_split (fun h9 => ?_) (fun h9 => ?_) <;> (try rw [h9])
            · have h9 : bt s i > 57 := by simpa using (show decide (bt s i > 57) = true from h9)
              rw [if_neg (by simp [digit]; omega)] at hq
              refine ends ?_
              cases hq
              exact Eq.refl _
            have h9 : ¬ bt s i > 57 := by simpa using (show decide (bt s i > 57) = false from h9)
            have hdg : digit (bt s i) = true := by simp [digit]; omega
            rw [hdg, Bool.true_and, capLoop] at hq
            refine vand_i (by omega) (fun _ => ?_)
            have hv : mn (IntKind.i64.wrap (IntKind.i64.wrap (n * 10) + IntKind.i64.wrap (IntKind.u8.wrap (bt s i - 48)))) 18014398509481984 = mn (n * 10 + (bt s i - 48)) 18014398509481984 := by
              rw [u8_in (by omega) (by omega), wrap_in (n := n * 10) (by omega) (by omega), wrap_in (n := bt s i - 48) (by omega) (by omega), wrap_in (by omega) (by omega)]
            exact next_i (k - 1) (by omega) ⟨i + 1, mn (n * 10 + (bt s i - 48)) 18014398509481984, by omega, by unfold mn; split <;> omega, by unfold mn; split <;> omega, hq,
              congr2 (fun x y => regs 68 [(4, .lf (vS s)), (5, .lf (vB false)), (6, .lf (vI x)), (7, .lf (vI y))]) hv hk1, rfl⟩
          · have hge : s.size ≤ i := by have := h7; simp at this; omega
            rw [drop_end s i hge, if_pos List.all_nil, capLoop] at hq
            unfold numEnd at hq
            refine vif_split (fun h8 => ?_) (fun h8 => ?_) <;> (try rw [h8])
            · have h8 : n > 9007199254740992 := by simpa using h8
              rw [if_pos h8] at hq
              refine ends ?_
              cases hq
              exact Eq.refl _
            · have h8 : ¬ 9007199254740992 < n := by have := h8; simp at this; omega
              rw [if_neg h8] at hq
              rw [if_neg (by simp)] at hq
              refine ends ?_
              cases hq
              exact Eq.refl _
      · have h6 : s.size = 1 := by have := h6; simp at this; omega
        have hgo := go (fun h => by rcases h.2 with h | h; exact h (hnil.2 h6); cases h)
        have hgo2 : (if (bytesOf s).all digit = true then numEnd false (capLoop (bytesOf s) 0) else (0, 5)) = (v, e) := by
          rw [← hgo]
          by_cases hall : (bytesOf s).all digit = true
          · rw [if_pos hall, if_pos hall, numEnd_cap false _ hall]
          · rw [if_neg hall, if_neg hall]
        refine vloop_i [4, 5, 6, 7] [] (fun k r m => ∃ (i : Nat) (n : Int), i + k = s.size ∧ 0 ≤ n ∧ n ≤ 18014398509481984 ∧ (if ((bytesOf s).drop i).all digit = true then numEnd false (capLoop ((bytesOf s).drop i) n) else (0, 5)) = (v, e) ∧
          r = regs 68 [(4, .lf (vS s)), (5, .lf (vB false)), (6, .lf (vI n)), (7, .lf (vI i))] ∧ m = []) ⟨s.size, 0, 0, by omega, by omega, by omega, hgo2, rfl, rfl⟩ ?_
        rintro k r m ⟨i, n, hk, hn0, hn1, hq, rfl, rfl⟩
        refine vif_split (fun h7 => ?_) (fun h7 => ?_) <;> (try rw [h7])
        · have hlt : i < s.size := by have := h7; simp at this; omega
          have hb := bt_byte s i
          have hk1 : IntKind.i64.wrap ((i : Int) + 1) = ((i + 1 : Nat) : Int) := by rw [wrap_in (by omega) (by omega)]; omega
          rw [drop_cons s i hlt, List.all_cons] at hq
          refine vand_i (by omega) (fun _ => ?_)
          refine vif_split (fun h8 => ?_) (fun h8 => ?_) <;> (try rw [h8])
          · have h8 : bt s i < 48 := by simpa using (show decide (bt s i < 48) = true from h8)
            rw [if_neg (by simp [digit]; omega)] at hq
            refine ends ?_
            cases hq
            exact Eq.refl _
          have h8 : ¬ bt s i < 48 := by simpa using (show decide (bt s i < 48) = false from h8)
          refine vand_i (by omega) (fun _ => ?_)
          refine vif_split (fun h9 => ?_) (fun h9 => ?_) <;> (try rw [h9])
          · have h9 : bt s i > 57 := by simpa using (show decide (bt s i > 57) = true from h9)
            rw [if_neg (by simp [digit]; omega)] at hq
            refine ends ?_
            cases hq
            exact Eq.refl _
          have h9 : ¬ bt s i > 57 := by simpa using (show decide (bt s i > 57) = false from h9)
          have hdg : digit (bt s i) = true := by simp [digit]; omega
          rw [hdg, Bool.true_and, capLoop] at hq
          refine vand_i (by omega) (fun _ => ?_)
          have hv : mn (IntKind.i64.wrap (IntKind.i64.wrap (n * 10) + IntKind.i64.wrap (IntKind.u8.wrap (bt s i - 48)))) 18014398509481984 = mn (n * 10 + (bt s i - 48)) 18014398509481984 := by
            rw [u8_in (by omega) (by omega), wrap_in (n := n * 10) (by omega) (by omega), wrap_in (n := bt s i - 48) (by omega) (by omega), wrap_in (by omega) (by omega)]
          exact next_i (k - 1) (by omega) ⟨i + 1, mn (n * 10 + (bt s i - 48)) 18014398509481984, by omega, by unfold mn; split <;> omega, by unfold mn; split <;> omega, hq,
            congr2 (fun x y => regs 68 [(4, .lf (vS s)), (5, .lf (vB false)), (6, .lf (vI x)), (7, .lf (vI y))]) hv hk1, rfl⟩
        · have hge : s.size ≤ i := by have := h7; simp at this; omega
          rw [drop_end s i hge, if_pos List.all_nil, capLoop] at hq
          unfold numEnd at hq
          refine vif_split (fun h8 => ?_) (fun h8 => ?_) <;> (try rw [h8])
          · have h8 : n > 9007199254740992 := by simpa using h8
            rw [if_pos h8] at hq
            refine ends ?_
            cases hq
            exact Eq.refl _
          · have h8 : ¬ 9007199254740992 < n := by have := h8; simp at this; omega
            rw [if_neg h8] at hq
            rw [if_neg (by simp)] at hq
            refine ends ?_
            cases hq
            exact Eq.refl _
  · have h : s.size = 0 := by
      have h5 : (!(s.toList == ByteArray.toList ⟨#[]⟩)) = false := h
      rw [size_beq] at h5
      simpa using h5
    have hp : numS false (bytesOf s) = (v, e) := by
      rw [← hp, (bytesOf_nil_iff _).2 h]
      rfl
    refine vif_split (fun h4 => ?_) (fun h4 => ?_) <;> (try rw [h4])
    · rw [(bytesOf_nil_iff _).2 h] at hp
      refine ends ?_
      cases hp
      exact Eq.refl _
    · have h5 : (s.toList == ByteArray.toList ⟨#[]⟩) = false := h4
      rw [size_beq] at h5
      simp [h] at h5

end Go.Proofs.YtimhjbihhchieaaDoor.Q

namespace Go.Proofs.YtimhjbihhchieaaDoor.Q
open Go Go.V
set_option linter.unusedVariables false
set_option linter.unusedSimpArgs false
set_option maxRecDepth 100000
variable {N : Nat} {WL : World}

theorem letter_s (c : Int) : Sound P N WL 71 [.lf (v8 c)] [] (· = .ret (.lf (vB (decide ((97 ≤ c ∧ c ≤ 122) ∨ (65 ≤ c ∧ c ≤ 90))))) []) := by
  refine Sound.of mix [] Go.Proofs.Tryd.func71 rfl rfl ?_
  repeat' (refine vif_split (fun h => ?_) (fun h => ?_) <;> (try rw [h]))
  all_goals (refine ends (ret1 (aB ?_)); simp_all <;> omega)

theorem name_end (s : ByteArray) : (!(bytesOf s).isEmpty && decide ((bytesOf s).length ≤ 64)) = (decide (s.size ≠ 0) && decide (s.size ≤ 64)) := by
  rw [bytesOf_length]
  by_cases h : s.size = 0
  · rw [(bytesOf_nil_iff s).2 h]; simp [h]
  · have : bytesOf s ≠ [] := fun e => h ((bytesOf_nil_iff s).1 e)
    simp [h, this]

set_option maxHeartbeats 8000000 in
theorem name_s (s : ByteArray) (hs : s.size ≤ 1000000) : Sound P N WL 61 [.lf (vS s)] [] (· = .ret (.lf (vB (nameP s))) []) := by
  refine Sound.of mix [] Go.Proofs.Tryd.func61 rfl rfl ?_
  refine vloop_i [0, 8, 9] [] (fun n r m => ∃ i : Nat, i + n = s.size ∧ nameP s = (namesFrom ((bytesOf s).drop i) i && (!(bytesOf s).isEmpty && decide ((bytesOf s).length ≤ 64))) ∧
    r = regs 68 [(0, .lf (vS s)), (8, .lf (vI s.size)), (9, .lf (vI i))] ∧ m = []) ⟨s.size, 0, by omega, by simp [nameP, nameL, Bool.and_assoc], rfl, rfl⟩ ?_
  rintro n r m ⟨i, hn, hq, rfl, rfl⟩
  refine vif_split (fun h3 => ?_) (fun h3 => ?_) <;> (try rw [h3])
  · have hlt : i < s.size := by have := h3; simp at this; omega
    have hk1 : IntKind.i64.wrap ((i : Int) + 1) = ((i + 1 : Nat) : Int) := by rw [wrap_in (by omega) (by omega)]; omega
    rw [drop_cons s i hlt, namesFrom_cons] at hq
    have hb := bt_byte s i
    have ho := or32 (bt s i) hb
    unfold bt at hb ho hq
    refine vand_i (by omega) (fun _ => ?_)
    generalize hc : ((((ByteArray.data s).toList.getD (Int.toNat (i : Int)) 0).toNat : Nat) : Int) = c at hb ho hq ⊢
    repeat' first
      | (refine vif_split (fun h => ?_) (fun h => ?_) <;> (try rw [h]))
      | (refine vand_i (by omega) (fun _ => ?_); try rw [hc])
    all_goals first
      | (refine ends (ret1 (aB ?_))
         rw [hq]
         have : ¬ NameOk i c := by
           unfold NameOk
           simp only [decide_eq_true_eq, decide_eq_false_iff_not, beq_iff_eq, beq_eq_false_iff_ne, ne_eq, Bool.not_eq_true', Bool.not_eq_false'] at *
           split at ho <;> omega
         simp [this])
      | (refine next_i (n - 1) (by omega) ⟨i + 1, (by omega : i + 1 + (n - 1) = s.size), ?_, congrArg (fun y => regs 68 [(0, .lf (vS s)), (8, .lf (vI s.size)), (9, .lf (vI y))]) hk1, rfl⟩
         have : NameOk i c := by
           unfold NameOk
           simp only [decide_eq_true_eq, decide_eq_false_iff_not, beq_iff_eq, beq_eq_false_iff_ne, ne_eq, Bool.not_eq_true', Bool.not_eq_false'] at *
           split at ho <;> omega
         rw [hq]
         simp [this])
  · have hge : s.size ≤ i := by have := h3; simp at this; omega
    rw [drop_end s i hge, name_end] at hq
    refine vif_split (fun h4 => ?_) (fun h4 => ?_) <;> (try rw [h4])
    · have h5 : (!(s.toList == ByteArray.toList ⟨#[]⟩)) = true := h4
      rw [size_beq] at h5
      refine ends (ret1 (aB ?_))
      rw [hq]
      simp at h5
      simp [namesFrom, h5]
      omega
    · have h5 : (!(s.toList == ByteArray.toList ⟨#[]⟩)) = false := h4
      rw [size_beq] at h5
      refine ends (ret1 (aB ?_))
      rw [hq]
      simp at h5
      simp [h5]

end Go.Proofs.YtimhjbihhchieaaDoor.Q

namespace Go.Proofs.YtimhjbihhchieaaDoor.Q
open Go Go.V
set_option linter.unusedVariables false
set_option linter.unusedSimpArgs false
set_option maxRecDepth 100000
variable {N : Nat} {WL : World}

set_option maxHeartbeats 8000000 in
theorem name02_s (s : ByteArray) (hs : s.size ≤ 1000000) : Sound P N WL 63 [.lf (vS s)] [] (· = .ret (.lf (vB (nameP s))) []) := by
  refine Sound.of mix [] Go.Proofs.Tryd.func63 rfl rfl ?_
  refine vloop_i [0, 3] [] (fun n r m => ∃ i : Nat, i + n = s.size ∧ nameP s = (namesFrom ((bytesOf s).drop i) i && (!(bytesOf s).isEmpty && decide ((bytesOf s).length ≤ 64))) ∧
    r = regs 48 [(0, .lf (vS s)), (3, .lf (vI i))] ∧ m = []) ⟨s.size, 0, by omega, by simp [nameP, nameL, Bool.and_assoc], rfl, rfl⟩ ?_
  rintro n r m ⟨i, hn, hq, rfl, rfl⟩
  refine vif_split (fun h3 => ?_) (fun h3 => ?_) <;> (try rw [h3])
  · have hlt : i < s.size := by have := h3; simp at this; omega
    have hk1 : IntKind.i64.wrap ((i : Int) + 1) = ((i + 1 : Nat) : Int) := by rw [wrap_in (by omega) (by omega)]; omega
    rw [drop_cons s i hlt, namesFrom_cons] at hq
    have hb := bt_byte s i
    unfold bt at hb hq
    refine vand_i (by omega) (fun _ => ?_)
    generalize hc : ((((ByteArray.data s).toList.getD (Int.toNat (i : Int)) 0).toNat : Nat) : Int) = c at hb hq ⊢
    refine vcall_intro [] [] (and_i (letter_s c) ?_)
    rintro o rfl
    repeat' (refine vif_split (fun h => ?_) (fun h => ?_) <;> (try rw [h]))
    all_goals first
      | (refine ends (ret1 (aB ?_))
         rw [hq]
         have : ¬ NameOk i c := by
           unfold NameOk
           simp only [decide_eq_true_eq, decide_eq_false_iff_not, beq_iff_eq, beq_eq_false_iff_ne, bne_iff_ne, bne_eq_false_iff_eq, ne_eq, Bool.not_eq_true', Bool.not_eq_false'] at *
           omega
         simp [this])
      | (refine next_i (n - 1) (by omega) ⟨i + 1, (by omega : i + 1 + (n - 1) = s.size), ?_, congrArg (fun y => regs 48 [(0, .lf (vS s)), (3, .lf (vI y))]) hk1, rfl⟩
         have : NameOk i c := by
           unfold NameOk
           simp only [decide_eq_true_eq, decide_eq_false_iff_not, beq_iff_eq, beq_eq_false_iff_ne, bne_iff_ne, bne_eq_false_iff_eq, ne_eq, Bool.not_eq_true', Bool.not_eq_false'] at *
           omega
         rw [hq]
         simp [this])
  · have hge : s.size ≤ i := by have := h3; simp at this; omega
    rw [drop_end s i hge, name_end] at hq
    refine vif_split (fun h4 => ?_) (fun h4 => ?_) <;> (try rw [h4])
    · have h5 : (!(s.toList == ByteArray.toList ⟨#[]⟩)) = true := h4
      rw [size_beq] at h5
      refine ends (ret1 (aB ?_))
      rw [hq]
      simp at h5
      simp [namesFrom, h5]
      omega
    · have h5 : (!(s.toList == ByteArray.toList ⟨#[]⟩)) = false := h4
      rw [size_beq] at h5
      refine ends (ret1 (aB ?_))
      rw [hq]
      simp at h5
      simp [h5]

set_option maxHeartbeats 8000000 in
theorem written_s (s : ByteArray) (hs : s.size ≤ 1000000) : Sound P N WL 49 [.lf (vS s)] [] (· = .ret (.lf (vS (strOfNums (wordL (bytesOf s))))) []) := by
  refine Sound.of mix [] Go.Proofs.Tryd.func49 rfl rfl ?_
  refine vcall_intro [] [] (and_i (plain_s s hs) ?_)
  rintro o rfl
  refine vif_split (fun h => ?_) (fun h => ?_)
  · refine ends (ret1 (aS ?_))
    unfold wordL
    rw [if_pos h, ← nums_eq]
    exact (strOf_bytesOf s).symm
  · have hw : wordL (bytesOf s) = 34 :: (escs (bytesOf s) ++ [34]) := by unfold wordL; rw [if_neg (by simp [h])]
    rw [hw]
    refine vloop_i [0, 3, 4] [] (fun n r m => ∃ (i : Nat) (acc : List Int), i + n = s.size ∧ acc.length ≤ 1 + 2 * i ∧ 34 :: escs (bytesOf s) = acc ++ escs ((bytesOf s).drop i) ∧
      r = regs 45 [(0, .lf (vS s)), (3, .lf (.al (.sl 3) (.int .u8) acc)), (4, .lf (vI i))] ∧ m = []) ⟨s.size, 0, [34], by omega, by simp, by simp, rfl, rfl⟩ ?_
    rintro n r m ⟨i, acc, hn, hl, hq, rfl, rfl⟩
    refine vif_split (fun h3 => ?_) (fun h3 => ?_) <;> (try rw [h3])
    · have hlt : i < s.size := by have := h3; simp at this; omega
      have hk1 : IntKind.i64.wrap ((i : Int) + 1) = ((i + 1 : Nat) : Int) := by rw [wrap_in (by omega) (by omega)]; omega
      rw [drop_cons s i hlt, escs_cons] at hq
      refine vand_i (by omega) (fun _ => ?_)
      have fin : ∀ (e : List Int), esc (bt s i) = e → e.length ≤ 2 → ∃ n', n' < n ∧ ∃ (i' : Nat) (acc' : List Int), i' + n' = s.size ∧ acc'.length ≤ 1 + 2 * i' ∧ 34 :: escs (bytesOf s) = acc' ++ escs ((bytesOf s).drop i') ∧
          regs 45 [(0, .lf (vS s)), (3, .lf (.al (.sl 3) (.int .u8) (acc ++ e))), (4, .lf (vI (IntKind.i64.wrap ((i : Int) + 1))))] = regs 45 [(0, .lf (vS s)), (3, .lf (.al (.sl 3) (.int .u8) acc')), (4, .lf (vI i'))] ∧ ([] : Mem) = [] := fun e he hle =>
        ⟨n - 1, by omega, i + 1, acc ++ e, by omega, by simp; omega, by rw [hq, he]; simp, by rw [hk1], rfl⟩
      refine vif_split (fun h4 => ?_) (fun h4 => ?_) <;> (try rw [h4])
      · have h4 : bt s i = 34 := by simpa using (show (bt s i == 34) = true from h4)
        refine vand_i (fits_i (n := acc.length + 2) 1 rfl ⟨by omega, by omega⟩) (fun _ => ?_)
        exact fin [92, bt s i] (by simp [esc, h4]) (by simp)
      refine vif_split (fun h5 => ?_) (fun h5 => ?_) <;> (try rw [h5])
      · have h5 : bt s i = 92 := by simpa using (show (bt s i == 92) = true from h5)
        refine vand_i (fits_i (n := acc.length + 2) 1 rfl ⟨by omega, by omega⟩) (fun _ => ?_)
        exact fin [92, bt s i] (by simp [esc, h5]) (by simp)
      have h4 : bt s i ≠ 34 := by simpa using (show (bt s i == 34) = false from h4)
      have h5 : bt s i ≠ 92 := by simpa using (show (bt s i == 92) = false from h5)
      refine vif_split (fun h6 => ?_) (fun h6 => ?_) <;> (try rw [h6])
      · have h6 : bt s i = 10 := by simpa using (show (bt s i == 10) = true from h6)
        refine vand_i (fits_i (n := acc.length + 2) 1 rfl ⟨by omega, by omega⟩) (fun _ => ?_)
        exact fin [92, 110] (by simp [esc, h6]) (by simp)
      have h6 : bt s i ≠ 10 := by simpa using (show (bt s i == 10) = false from h6)
      refine vif_split (fun h7 => ?_) (fun h7 => ?_) <;> (try rw [h7])
      · have h7 : bt s i = 13 := by simpa using (show (bt s i == 13) = true from h7)
        refine vand_i (fits_i (n := acc.length + 2) 1 rfl ⟨by omega, by omega⟩) (fun _ => ?_)
        exact fin [92, 114] (by simp [esc, h7]) (by simp)
      have h7 : bt s i ≠ 13 := by simpa using (show (bt s i == 13) = false from h7)
      refine vand_i (fits_i (n := acc.length + 1) 1 rfl ⟨by omega, by omega⟩) (fun _ => ?_)
      exact fin [bt s i] (by simp [esc, h4, h5, h6, h7]) (by simp)
    · have hge : s.size ≤ i := by have := h3; simp at this; omega
      rw [drop_end s i hge, escs_nil, List.append_nil] at hq
      refine vand_i (fits_i (n := acc.length + 1) 1 rfl ⟨by omega, by omega⟩) (fun _ => ?_)
      refine ends (ret1 (aS ?_))
      show strOfNums ((acc : List Int) ++ ([34] : List Int)) = _
      rw [← hq]
      rfl

end Go.Proofs.YtimhjbihhchieaaDoor.Q

namespace Go.Proofs.YtimhjbihhchieaaDoor.Q
open Go Go.V
set_option linter.unusedVariables false
set_option linter.unusedSimpArgs false
set_option maxRecDepth 100000
variable {N : Nat} {WL : World}

def jl (first : Bool) : List ByteArray → List Int
  | [] => []
  | w :: ws => (if first = true then [] else [32]) ++ wordL (bytesOf w) ++ jl false ws
theorem jl_true : ∀ l : List ByteArray, jl true l = jline l
  | [] => rfl
  | [w] => by simp [jl, jline, Bts, wlineL]
  | w :: x :: ws => by
    have := jl_true (x :: ws)
    simp only [jl, if_true, List.nil_append] at this ⊢
    simp only [jline, Bts, List.map_cons, wlineL] at this ⊢
    simp [← this]

set_option maxHeartbeats 8000000 in
theorem join02_s (l : List ByteArray) (hsz : ∀ w ∈ l, w.size ≤ 1000000) {w : ByteArray} {e : Int} (hp : joinP l = (w, e)) : Sound P N WL 26 [.lf (vSs l)] [] (· = .ret (.tup [vS w, vI e]) []) := by
  refine Sound.of mix [] Go.Proofs.Tryd.func26 rfl rfl ?_
  rw [joinP_eq] at hp
  refine vif_split (fun h => ?_) (fun h => ?_) <;> (try rw [h])
  · have h : decide ((l.length : Int) > 64) = true := h
    have h := of_decide_eq_true h
    rw [if_pos (.inl (by omega))] at hp
    refine ends ?_
    cases hp
    exact Eq.refl _
  have h : decide ((l.length : Int) > 64) = false := h
  have hl := of_decide_eq_false h
  have hp0 : (if 4096 < (([] : List Int) ++ jl true l).length then ((⟨#[]⟩ : ByteArray), (3 : Int)) else (strOfNums (([] : List Int) ++ jl true l), 0)) = (w, e) := by
    rw [jl_true, List.nil_append, ← hp]
    by_cases h4 : 4096 < (jline l).length
    · rw [if_pos h4, if_pos (.inr h4)]
    · rw [if_neg h4, if_neg (by omega)]
  refine vloop_i [4, 10, 11, 12] [] (fun n r m => ∃ (i : Nat) (acc : List Int), i + n = l.length ∧ acc.length ≤ 4096 ∧ (if 4096 < (acc ++ jl (i == 0) (l.drop i)).length then ((⟨#[]⟩ : ByteArray), (3 : Int)) else (strOfNums (acc ++ jl (i == 0) (l.drop i)), 0)) = (w, e) ∧
    r = regs 30 [(4, .lf (vS (strOfNums acc))), (10, .lf (vSs l)), (11, .lf (vI l.length)), (12, .lf (vI i))] ∧ m = []) ⟨l.length, 0, [], by omega, by simp, hp0, rfl, rfl⟩ ?_
  rintro n r m ⟨i, acc, hn, hacc, hq, rfl, rfl⟩
  refine vif_split (fun h3 => ?_) (fun h3 => ?_) <;> (try rw [h3])
  · have hlt : i < l.length := by have := h3; simp at this; omega
    have hk1 : IntKind.i64.wrap ((i : Int) + 1) = ((i + 1 : Nat) : Int) := by rw [wrap_in (by omega) (by omega)]; omega
    have hsi : (l.getD i ByteArray.empty).size ≤ 1000000 := by
      have : l.getD i ByteArray.empty = l[i] := by simp [List.getD, hlt]
      rw [this]
      exact hsz _ (List.getElem_mem hlt)
    have hwl := wordL_len (bytesOf (l.getD i ByteArray.empty))
    rw [bytesOf_length] at hwl
    rw [drop_getD hlt ByteArray.empty] at hq
    refine vand_i (show (0 : Int) ≤ (i : Int) ∧ (i : Int) < (l.length : Int) by omega) (fun _ => ?_)
    refine vif_split (fun h4 => ?_) (fun h4 => ?_) <;> (try rw [h4])
    · have hi0 : i ≠ 0 := by have := h4; simp at this; omega
      refine vand_i (show (strOfNums acc).size + 1 ≤ 9223372036854775807 by rw [strOf_size]; omega) (fun _ => ?_)
      rw [app_space]
      refine vcall_intro [] [] (and_i (written_s (l.getD i ByteArray.empty) hsi) ?_)
      rintro o rfl
      refine vand_i (show (strOfNums (acc ++ [32])).size + (strOfNums (wordL (bytesOf (l.getD i ByteArray.empty)))).size ≤ 9223372036854775807 by rw [strOf_size, strOf_size]; first | omega | (simp only [List.length_append, List.length_cons, List.length_nil]; omega)) (fun _ => ?_)
      rw [strOf_append]
      have hq2 : (if 4096 < (((acc ++ [32]) ++ wordL (bytesOf (l.getD i ByteArray.empty))) ++ jl false (l.drop (i + 1))).length then ((⟨#[]⟩ : ByteArray), (3 : Int)) else (strOfNums (((acc ++ [32]) ++ wordL (bytesOf (l.getD i ByteArray.empty))) ++ jl false (l.drop (i + 1))), 0)) = (w, e) := by
        rw [← hq]
        simp [jl, hi0]
      refine vif_split (fun h5 => ?_) (fun h5 => ?_) <;> (try rw [h5])
      · have h6 : decide (((strOfNums ((acc ++ [32]) ++ wordL (bytesOf (l.getD i ByteArray.empty)))).size : Int) > 4096) = true := h5
        rw [strOf_size] at h6
        have h6 := of_decide_eq_true h6
        rw [if_pos (by rw [List.length_append]; omega)] at hq2
        refine ends ?_
        cases hq2
        exact Eq.refl _
      · have h6 : decide (((strOfNums ((acc ++ [32]) ++ wordL (bytesOf (l.getD i ByteArray.empty)))).size : Int) > 4096) = false := h5
        rw [strOf_size] at h6
        have h6 := of_decide_eq_false h6
        exact next_i (n - 1) (by omega) ⟨i + 1, (acc ++ [32]) ++ wordL (bytesOf (l.getD i ByteArray.empty)), by omega, by omega, hq2,
          congrArg (fun y => regs 30 [(4, .lf (vS (strOfNums ((acc ++ [32]) ++ wordL (bytesOf (l.getD i ByteArray.empty)))))), (10, .lf (vSs l)), (11, .lf (vI l.length)), (12, .lf (vI y))]) hk1, rfl⟩
    · have hi0 : i = 0 := by have := h4; simp at this; omega
      refine vcall_intro [] [] (and_i (written_s (l.getD i ByteArray.empty) hsi) ?_)
      rintro o rfl
      refine vand_i (show (strOfNums acc).size + (strOfNums (wordL (bytesOf (l.getD i ByteArray.empty)))).size ≤ 9223372036854775807 by rw [strOf_size, strOf_size]; first | omega | (simp only [List.length_append, List.length_cons, List.length_nil]; omega)) (fun _ => ?_)
      rw [strOf_append]
      have hq2 : (if 4096 < ((acc ++ wordL (bytesOf (l.getD i ByteArray.empty))) ++ jl false (l.drop (i + 1))).length then ((⟨#[]⟩ : ByteArray), (3 : Int)) else (strOfNums ((acc ++ wordL (bytesOf (l.getD i ByteArray.empty))) ++ jl false (l.drop (i + 1))), 0)) = (w, e) := by
        rw [← hq]
        simp [jl, hi0]
      refine vif_split (fun h5 => ?_) (fun h5 => ?_) <;> (try rw [h5])
      · have h6 : decide (((strOfNums (acc ++ wordL (bytesOf (l.getD i ByteArray.empty)))).size : Int) > 4096) = true := h5
        rw [strOf_size] at h6
        have h6 := of_decide_eq_true h6
        rw [if_pos (by rw [List.length_append]; omega)] at hq2
        refine ends ?_
        cases hq2
        exact Eq.refl _
      · have h6 : decide (((strOfNums (acc ++ wordL (bytesOf (l.getD i ByteArray.empty)))).size : Int) > 4096) = false := h5
        rw [strOf_size] at h6
        have h6 := of_decide_eq_false h6
        exact next_i (n - 1) (by omega) ⟨i + 1, acc ++ wordL (bytesOf (l.getD i ByteArray.empty)), by omega, by omega, hq2,
          congrArg (fun y => regs 30 [(4, .lf (vS (strOfNums (acc ++ wordL (bytesOf (l.getD i ByteArray.empty)))))), (10, .lf (vSs l)), (11, .lf (vI l.length)), (12, .lf (vI y))]) hk1, rfl⟩
  · have hge : l.length ≤ i := by have := h3; simp at this; omega
    rw [List.drop_eq_nil_of_le hge] at hq
    simp only [jl, List.append_nil] at hq
    rw [if_neg (by omega)] at hq
    refine ends ?_
    cases hq
    exact Eq.refl _

end Go.Proofs.YtimhjbihhchieaaDoor.Q

namespace Go.Proofs.YtimhjbihhchieaaDoor.Q
open Go Go.V
set_option linter.unusedVariables false
set_option linter.unusedSimpArgs false
set_option maxRecDepth 100000
variable {N : Nat} {WL : World}

set_option maxHeartbeats 8000000 in
theorem format02_s (n : Int) (hn0 : -9223372036854775808 ≤ n) (hn1 : n ≤ 9223372036854775807) : Sound P N WL 50 [.lf (vI n)] [] (· = .ret (.lf (vS ⟨(Lib.itoa n).toArray⟩)) []) := by
  refine Sound.of mix [] Go.Proofs.Tryd.func50 rfl rfl ?_
  refine vif_split (fun h => ?_) (fun h => ?_) <;> (try rw [h])
  · have hn : n < 0 := of_decide_eq_true h
    have hu : IntKind.u64.wrap (0 - IntKind.u64.wrap n) = ((n.natAbs : Nat) : Int) := by rw [u64_wrap, u64_wrap]; omega
    have h0 : (⟨#[45]⟩ : ByteArray) ++ ⟨(Lib.decDigits n.natAbs ++ []).toArray⟩ = ⟨(Lib.itoa n).toArray⟩ := by
      rw [List.append_nil]
      apply ba_ext
      rw [ByteArray.data_append, Array.toList_append]
      unfold Lib.itoa
      rw [if_pos hn]
      rfl
    refine vloop_i [3, 4, 5] [] (fun k r m => ∃ (u : Nat) (x : List UInt8), u = k ∧ u < 18446744073709551616 ∧ (Lib.decDigits u ++ x).length ≤ 100 ∧ (⟨#[45]⟩ : ByteArray) ++ ⟨(Lib.decDigits u ++ x).toArray⟩ = ⟨(Lib.itoa n).toArray⟩ ∧
      r = regs 28 [(3, .lf (vU u)), (4, .lf (vS ⟨#[45]⟩)), (5, .lf (vS ⟨x.toArray⟩))] ∧ m = []) ⟨n.natAbs, n.natAbs, [], rfl, by omega, by rw [List.append_nil]; have := digits_len n.natAbs (by omega); omega, h0, congrArg (fun y => regs 28 [(3, .lf (vU y)), (4, .lf (vS ⟨#[45]⟩)), (5, .lf (vS ⟨#[]⟩))]) hu, rfl⟩ ?_
    rintro k r m ⟨u, x, rfl, hul, hx, hq, rfl, rfl⟩
    have hs1 : strOfNums [IntKind.u8.wrap (IntKind.u64.wrap (48 + (Int.tmod (u : Int) 10)))] ++ (⟨x.toArray⟩ : ByteArray) = ⟨(UInt8.ofNat (48 + u % 10) :: x).toArray⟩ := by
      have e : IntKind.u8.wrap (IntKind.u64.wrap (48 + (Int.tmod (u : Int) 10))) = ((48 + u % 10 : Nat) : Int) := by
        rw [Int.tmod_eq_emod_of_nonneg (by omega), u64_id _ (by omega) (by omega), u8_in (by omega) (by omega)]
        omega
      rw [e]
      apply ba_ext
      rw [ByteArray.data_append, Array.toList_append]
      simp only [strOfNums, List.map_cons, List.map_nil, Int.toNat_natCast]
      rfl
    have hdiv : IntKind.u64.wrap (Int.tdiv (u : Int) 10) = ((u / 10 : Nat) : Int) := by
      rw [Int.tdiv_eq_ediv_of_nonneg (by omega), u64_id _ (by omega) (by omega)]
      omega
    have hdec : Lib.decDigits u ++ x = if u < 10 then UInt8.ofNat (48 + u % 10) :: x else Lib.decDigits (u / 10) ++ (UInt8.ofNat (48 + u % 10) :: x) := by
      rw [Lib.decDigits]
      split
      · rw [show u % 10 = u by omega]; rfl
      · simp
    have hxl : x.length ≤ 100 := by rw [List.length_append] at hx; omega
    rw [hdec] at hx hq
    refine vand_i (by decide) (fun _ => ?_)
    refine vand_i (show (strOfNums [IntKind.u8.wrap (IntKind.u64.wrap (48 + (Int.tmod (u : Int) 10)))]).size + (⟨x.toArray⟩ : ByteArray).size ≤ 9223372036854775807 by
      have e1 : (⟨x.toArray⟩ : ByteArray).size = x.length := rfl
      rw [strOf_size, e1]; simp; omega) (fun _ => ?_)
    erw [hs1]
    refine vand_i (by decide) (fun _ => ?_)
    rw [hdiv]
    refine vif_split (fun h3 => ?_) (fun h3 => ?_) <;> (try rw [h3])
    · have h3 : (((u / 10 : Nat) : Int) == 0) = true := h3
      have h10 : u < 10 := by have := beq_iff_eq.1 h3; omega
      rw [if_pos h10] at hq
      refine vand_i (show (⟨#[45]⟩ : ByteArray).size + (⟨(UInt8.ofNat (48 + u % 10) :: x).toArray⟩ : ByteArray).size ≤ 9223372036854775807 by
        have e1 : (⟨(UInt8.ofNat (48 + u % 10) :: x).toArray⟩ : ByteArray).size = x.length + 1 := rfl
        have e2 : (⟨#[45]⟩ : ByteArray).size ≤ 1 := by decide
        rw [e1]; omega) (fun _ => ?_)
      exact ends (ret1 (aS hq))
    · have h3 : (((u / 10 : Nat) : Int) == 0) = false := h3
      have h10 : ¬ u < 10 := by have := beq_eq_false_iff_ne.1 h3; omega
      rw [if_neg h10] at hq hx
      exact next_i (u / 10) (by omega) ⟨u / 10, UInt8.ofNat (48 + u % 10) :: x, rfl, by omega, hx, hq, rfl, rfl⟩
  · have hn : ¬ n < 0 := of_decide_eq_false h
    have hu : IntKind.u64.wrap n = ((n.toNat : Nat) : Int) := by rw [u64_wrap]; omega
    have h0 : (⟨#[]⟩ : ByteArray) ++ ⟨(Lib.decDigits n.toNat ++ []).toArray⟩ = ⟨(Lib.itoa n).toArray⟩ := by
      rw [List.append_nil]
      apply ba_ext
      rw [ByteArray.data_append, Array.toList_append]
      unfold Lib.itoa
      rw [if_neg hn]
      rfl
    refine vloop_i [3, 4, 5] [] (fun k r m => ∃ (u : Nat) (x : List UInt8), u = k ∧ u < 18446744073709551616 ∧ (Lib.decDigits u ++ x).length ≤ 100 ∧ (⟨#[]⟩ : ByteArray) ++ ⟨(Lib.decDigits u ++ x).toArray⟩ = ⟨(Lib.itoa n).toArray⟩ ∧
      r = regs 28 [(3, .lf (vU u)), (4, .lf (vS ⟨#[]⟩)), (5, .lf (vS ⟨x.toArray⟩))] ∧ m = []) ⟨n.toNat, n.toNat, [], rfl, by omega, by rw [List.append_nil]; have := digits_len n.toNat (by omega); omega, h0, congrArg (fun y => regs 28 [(3, .lf (vU y)), (4, .lf (vS ⟨#[]⟩)), (5, .lf (vS ⟨#[]⟩))]) hu, rfl⟩ ?_
    rintro k r m ⟨u, x, rfl, hul, hx, hq, rfl, rfl⟩
    have hs1 : strOfNums [IntKind.u8.wrap (IntKind.u64.wrap (48 + (Int.tmod (u : Int) 10)))] ++ (⟨x.toArray⟩ : ByteArray) = ⟨(UInt8.ofNat (48 + u % 10) :: x).toArray⟩ := by
      have e : IntKind.u8.wrap (IntKind.u64.wrap (48 + (Int.tmod (u : Int) 10))) = ((48 + u % 10 : Nat) : Int) := by
        rw [Int.tmod_eq_emod_of_nonneg (by omega), u64_id _ (by omega) (by omega), u8_in (by omega) (by omega)]
        omega
      rw [e]
      apply ba_ext
      rw [ByteArray.data_append, Array.toList_append]
      simp only [strOfNums, List.map_cons, List.map_nil, Int.toNat_natCast]
      rfl
    have hdiv : IntKind.u64.wrap (Int.tdiv (u : Int) 10) = ((u / 10 : Nat) : Int) := by
      rw [Int.tdiv_eq_ediv_of_nonneg (by omega), u64_id _ (by omega) (by omega)]
      omega
    have hdec : Lib.decDigits u ++ x = if u < 10 then UInt8.ofNat (48 + u % 10) :: x else Lib.decDigits (u / 10) ++ (UInt8.ofNat (48 + u % 10) :: x) := by
      rw [Lib.decDigits]
      split
      · rw [show u % 10 = u by omega]; rfl
      · simp
    have hxl : x.length ≤ 100 := by rw [List.length_append] at hx; omega
    rw [hdec] at hx hq
    refine vand_i (by decide) (fun _ => ?_)
    refine vand_i (show (strOfNums [IntKind.u8.wrap (IntKind.u64.wrap (48 + (Int.tmod (u : Int) 10)))]).size + (⟨x.toArray⟩ : ByteArray).size ≤ 9223372036854775807 by
      have e1 : (⟨x.toArray⟩ : ByteArray).size = x.length := rfl
      rw [strOf_size, e1]; simp; omega) (fun _ => ?_)
    erw [hs1]
    refine vand_i (by decide) (fun _ => ?_)
    rw [hdiv]
    refine vif_split (fun h3 => ?_) (fun h3 => ?_) <;> (try rw [h3])
    · have h3 : (((u / 10 : Nat) : Int) == 0) = true := h3
      have h10 : u < 10 := by have := beq_iff_eq.1 h3; omega
      rw [if_pos h10] at hq
      refine vand_i (show (⟨#[]⟩ : ByteArray).size + (⟨(UInt8.ofNat (48 + u % 10) :: x).toArray⟩ : ByteArray).size ≤ 9223372036854775807 by
        have e1 : (⟨(UInt8.ofNat (48 + u % 10) :: x).toArray⟩ : ByteArray).size = x.length + 1 := rfl
        have e2 : (⟨#[]⟩ : ByteArray).size ≤ 1 := by decide
        rw [e1]; omega) (fun _ => ?_)
      exact ends (ret1 (aS hq))
    · have h3 : (((u / 10 : Nat) : Int) == 0) = false := h3
      have h10 : ¬ u < 10 := by have := beq_eq_false_iff_ne.1 h3; omega
      rw [if_neg h10] at hq hx
      exact next_i (u / 10) (by omega) ⟨u / 10, UInt8.ofNat (48 + u % 10) :: x, rfl, by omega, hx, hq, rfl, rfl⟩

end Go.Proofs.YtimhjbihhchieaaDoor.Q

namespace Go.Proofs.YtimhjbihhchieaaDoor.Q
open Go Go.V
set_option linter.unusedVariables false
set_option linter.unusedSimpArgs false
set_option maxRecDepth 100000
variable {N : Nat} {WL : World}

abbrev reqT : Ty := .cons (.int .i64) (.cons (.int .i64) (.cons .str (.cons (.int .i64) (.cons (.int .i64) (.cons (.int .i64) (.cons (.int .i64) (.cons (.int .i64) (.cons (.int .u64) (.cons (.slice (.int .u8)) (.cons .str .nil))))))))))
/-- a request -/
structure Req where
  kind : Int
  id : Int
  role : ByteArray
  dir : Int
  ch : Int
  rate : Int
  lat : Int
  n : Int
  dev : Int
  data : List Int
  text : ByteArray
abbrev Req.v (r : Req) : A0 := .val reqT (r.kind, r.id, r.role, r.dir, r.ch, r.rate, r.lat, r.n, r.dev, r.data, r.text, ())

def inR (n lo hi : Int) : Bool := decide (n ≥ lo) && decide (n ≤ hi)
def mod (v n : Int) : Int := if v.tmod n < 0 then v.tmod n + n else v.tmod n
def atL (l : List ByteArray) (i : Nat) : ByteArray := l.getD i ByteArray.empty
def numR (s : ByteArray) : Int := if (numP s).2 = 0 then (numP s).1 else -1
def opensR (role : ByteArray) (d c r l : Int) : Bool := nameP role && (d == 1 || d == 2) && inR c 1 8 && inR r 1000 768000 && inR l 0 1099511627776
def sameR (a b : Req) : Bool := a.kind == b.kind && a.id == b.id && a.role.toList == b.role.toList && a.dir == b.dir && a.ch == b.ch && a.rate == b.rate && a.lat == b.lat && a.n == b.n && a.dev == b.dev && (strOfNums a.data).toList == (strOfNums b.data).toList && a.text.toList == b.text.toList

theorem in_s (n lo hi : Int) : Sound P N WL 43 [.lf (vI n), .lf (vI lo), .lf (vI hi)] [] (· = .ret (.lf (vB (inR n lo hi))) []) := by
  refine Sound.of mix [] Go.Proofs.Tryd.func43 rfl rfl ?_
  repeat' (refine vif_split (fun h => ?_) (fun h => ?_) <;> (try rw [h]))
  all_goals (refine ends (ret1 (aB ?_)); simp [inR, *])
theorem within_s (n lo hi : Int) : Sound P N WL 60 [.lf (vI n), .lf (vI lo), .lf (vI hi)] [] (· = .ret (.lf (vB (inR n lo hi))) []) := by
  refine Sound.of mix [] Go.Proofs.Tryd.func60 rfl rfl ?_
  repeat' (refine vif_split (fun h => ?_) (fun h => ?_) <;> (try rw [h]))
  all_goals (refine ends (ret1 (aB ?_)); simp [inR, *])
theorem mod_in {v n : Int} (h : 0 < n) : 0 ≤ mod v n ∧ mod v n < n := by
  have h1 := Int.tmod_lt_of_pos v h
  have h2 : -n < v.tmod n := by
    have := Int.lt_tmod_of_pos v h
    omega
  unfold mod
  split <;> omega
theorem mod_s (v n : Int) (h0 : 0 < n) (h1 : n ≤ 4611686018427387904) : Sound P N WL 7 [.lf (vI v), .lf (vI n)] [] (· = .ret (.lf (vI (mod v n))) []) := by
  refine Sound.of mix [] Go.Proofs.Tryd.func7 rfl rfl ?_
  refine vand_i (show n ≠ 0 by omega) (fun _ => ?_)
  have hr := Int.tmod_lt_of_pos v h0
  refine vif_split (fun h => ?_) (fun h => ?_) <;> (try rw [h])
  · have h := of_decide_eq_true h
    refine ends (ret1 (aI ?_))
    have := mod_in (v := v) h0
    unfold mod at this ⊢
    rw [if_pos h] at this ⊢
    rw [wrap_in (by omega) (by omega)]
  · have h := of_decide_eq_false h
    refine ends (ret1 (aI ?_))
    unfold mod
    rw [if_neg h]
theorem at_s (l : List ByteArray) (i : Nat) : Sound P N WL 31 [.lf (vSs l), .lf (vI i)] [] (· = .ret (.lf (vS (atL l i))) []) := by
  refine Sound.of mix [] Go.Proofs.Tryd.func31 rfl rfl ?_
  refine vif_split (fun h => ?_) (fun h => ?_) <;> (try rw [h])
  · have h : decide ((i : Int) < (l.length : Int)) = true := h
    have h := of_decide_eq_true h
    refine vand_i (show (0 : Int) ≤ (i : Int) ∧ (i : Int) < (l.length : Int) by omega) (fun _ => ?_)
    refine ends (ret1 (aS ?_))
    rfl
  · have h : decide ((i : Int) < (l.length : Int)) = false := h
    have h := of_decide_eq_false h
    refine ends (ret1 (aS ?_))
    unfold atL
    have h2 : l[i]? = none := List.getElem?_eq_none (by omega)
    rw [List.getD, h2]
    rfl
theorem number35_s (s : ByteArray) (hs : s.size ≤ 1000000) : Sound P N WL 32 [.lf (vS s)] [] (· = .ret (.lf (vI (numR s))) []) := by
  refine Sound.of mix [] Go.Proofs.Tryd.func32 rfl rfl ?_
  refine vcall_intro [] [] (and_i (number02_s s hs (v := (numP s).1) (e := (numP s).2) rfl) ?_)
  rintro o rfl
  refine vif_split (fun h => ?_) (fun h => ?_) <;> (try rw [h])
  · have h : ((numP s).2 != 0) = true := h
    refine ends (ret1 (aI ?_))
    unfold numR
    rw [if_neg (by simpa using h)]
  · have h : ((numP s).2 != 0) = false := h
    refine ends (ret1 (aI ?_))
    unfold numR
    rw [if_pos (by simpa using h)]
theorem names_s (c : Int) : Sound P N WL 58 [.lf (v8 c)] [] (· = .ret (.tup [vS (if c = 68 then ⟨#[112, 108, 97, 121, 98, 97, 99, 107]⟩ else ⟨#[111, 110]⟩), vS (if c = 68 then ⟨#[99, 97, 112, 116, 117, 114, 101]⟩ else ⟨#[111, 102, 102]⟩)]) []) := by
  refine Sound.of mix [] Go.Proofs.Tryd.func58 rfl rfl ?_
  refine vif_split (fun h => ?_) (fun h => ?_) <;> (try rw [h])
  all_goals (refine ends (ret2 (aS ?_) (aS ?_)) <;> simp_all)
theorem opens_s (role : ByteArray) (hr : role.size ≤ 1000000) (d c r l : Int) : Sound P N WL 45 [.lf (vS role), .lf (vI d), .lf (vI c), .lf (vI r), .lf (vI l)] [] (· = .ret (.lf (vB (opensR role d c r l))) []) := by
  refine Sound.of mix [] Go.Proofs.Tryd.func45 rfl rfl ?_
  refine vcall_intro [] [] (and_i (name02_s role hr) ?_)
  rintro o rfl
  repeat' first
    | (refine vif_split (fun h => ?_) (fun h => ?_) <;> (try rw [h]))
    | (refine vcall_intro [] [] (and_i (in_s _ _ _) ?_); rintro o rfl)
  all_goals (refine ends (ret1 (aB ?_)); simp_all [opensR])
set_option maxHeartbeats 4000000 in
theorem same35_s (a b : Req) : Sound P N WL 21 [.lf a.v, .lf b.v] [] (· = .ret (.lf (vB (sameR a b))) []) := by
  refine Sound.of mix [] Go.Proofs.Tryd.func21 rfl rfl ?_
  repeat' (refine vif_split (fun h => ?_) (fun h => ?_) <;> (try rw [h]))
  all_goals (refine ends (ret1 (aB ?_)); unfold sameR; simp_all)

end Go.Proofs.YtimhjbihhchieaaDoor.Q

namespace Go.Proofs.YtimhjbihhchieaaDoor.Q
open Go Go.V
set_option linter.unusedVariables false
set_option linter.unusedSimpArgs false
set_option maxRecDepth 100000
variable {N : Nat} {WL : World}

def cleanR (r : Req) : Req where
  kind := r.kind
  id := if r.kind ≠ 11 ∧ r.kind ≠ 12 then r.id else 0
  role := if r.kind = 1 then r.role else ⟨#[]⟩
  dir := if r.kind = 1 then r.dir else 0
  ch := if r.kind = 1 then r.ch else 0
  rate := if r.kind = 1 then r.rate else 0
  lat := if r.kind = 1 then r.lat else 0
  n := if r.kind = 6 ∨ r.kind = 7 ∨ r.kind = 9 then r.n else 0
  dev := if r.kind = 10 then r.dev else 0
  data := if r.kind = 8 then r.data else []
  text := if r.kind = 11 then r.text else ⟨#[]⟩

set_option maxHeartbeats 8000000 in
theorem clean_s (r q : Req) (hq : cleanR r = q) : Sound P N WL 44 [.lf r.v] [] (· = .ret (.lf q.v) []) := by
  obtain ⟨kind, id, role, dir, ch, rate, lat, n, dev, data, text⟩ := r
  refine Sound.of mix [] Go.Proofs.Tryd.func44 rfl rfl ?_
  repeat' first
    | (refine vif_split (fun h => ?_) (fun h => ?_) <;> (try rw [h]) <;> (try simp only [beq_iff_eq, beq_eq_false_iff_ne, bne_iff_ne, bne_eq_false_iff_eq, ne_eq] at h))
    | refine draw_i true [1] [(0, 1), (1, 1), (10, 1), (2, 2), (3, 2), (4, 2), (5, 2), (6, 2), (7, 2), (8, 2), (9, 2), (11, 0), (12, 1), (13, 0), (14, 1), (15, 0), (16, 1), (17, 0), (18, 1), (19, 0)] (by decide +kernel) ?_
  all_goals first
    | (exfalso; omega)
    | (refine ends ?_
       subst hq
       simp [cleanR, Req.v, ofResults, *] <;> rfl)

end Go.Proofs.YtimhjbihhchieaaDoor.Q

namespace Go.Proofs.YtimhjbihhchieaaDoor.Q
open Go Go.V
set_option linter.unusedVariables false
set_option linter.unusedSimpArgs false
set_option maxRecDepth 100000
variable {N : Nat} {WL : World}

def kindWords : List ByteArray := [⟨#[]⟩, ⟨#[111, 112, 101, 110]⟩, ⟨#[99, 108, 111, 115, 101]⟩, ⟨#[115, 116, 97, 114, 116]⟩, ⟨#[112, 97, 117, 115, 101]⟩, ⟨#[100, 114, 97, 105, 110]⟩, ⟨#[118, 111, 108, 117, 109, 101]⟩, ⟨#[109, 117, 116, 101]⟩, ⟨#[119, 114, 105, 116, 101]⟩, ⟨#[114, 101, 97, 100]⟩, ⟨#[109, 111, 118, 101]⟩, ⟨#[114, 117, 108, 101, 115]⟩, ⟨#[108, 105, 115, 116]⟩]
def wordR (k : Int) : ByteArray := kindWords.getD k.toNat ByteArray.empty

theorem word35_s (k : Int) (h0 : 0 ≤ k) (h1 : k ≤ 12) : Sound P N WL 59 [.lf (vI k)] [] (· = .ret (.lf (vS (wordR k))) []) := by
  refine Sound.of mix [] Go.Proofs.Tryd.func59 rfl rfl ?_
  refine vand_i (show (0 : Int) ≤ k ∧ k < (13 : Int) by omega) (fun _ => ?_)
  refine ends (ret1 (aS ?_))
  rfl

def eqL : List Int → List Int → Bool
  | [], [] => true
  | x :: a, y :: b => (x == y) && eqL a b
  | _, _ => false
theorem eqL_iff : ∀ {a b : List Int}, eqL a b = true ↔ a = b
  | [], [] => by simp [eqL]
  | x :: a, y :: b => by simp [eqL, eqL_iff]
  | [], _ :: _ => by simp [eqL]
  | _ :: _, [] => by simp [eqL]
theorem eqL_len {a b : List Int} (h : a.length ≠ b.length) : eqL a b = false := by
  cases e : eqL a b with
  | false => rfl
  | true => exact absurd (congrArg List.length (eqL_iff.1 e)) h
theorem drop_getI {a : List Int} {i : Nat} (h : i < a.length) : a.drop i = a.getD i 0 :: a.drop (i + 1) := by
  rw [List.drop_eq_getElem_cons h]
  simp [List.getD, h]

set_option maxHeartbeats 4000000 in
theorem equal_s (a b : List Int) (ha : a.length ≤ 1000000) : Sound P N WL 62 [.lf (vBs a), .lf (vBs b)] [] (· = .ret (.lf (vB (eqL a b))) []) := by
  refine Sound.of mix [] Go.Proofs.Tryd.func62 rfl rfl ?_
  refine vif_split (fun h => ?_) (fun h => ?_) <;> (try rw [h])
  · refine ends (ret1 (aB ?_))
    rw [eqL_len (by have h : ((a.length : Int) != (b.length : Int)) = true := h; simp at h; omega)]
  have hl : a.length = b.length := by have h : ((a.length : Int) != (b.length : Int)) = false := h; simp at h; omega
  refine vloop_i [0, 1, 12, 13] [] (fun n r m => ∃ i : Nat, i + n = a.length ∧ eqL a b = eqL (a.drop i) (b.drop i) ∧
    r = regs 26 [(0, .lf (vBs a)), (1, .lf (vBs b)), (12, .lf (vI a.length)), (13, .lf (vI i))] ∧ m = []) ⟨a.length, 0, by omega, rfl, rfl, rfl⟩ ?_
  rintro n r m ⟨i, hn, hs, rfl, rfl⟩
  refine vif_split (fun h3 => ?_) (fun h3 => ?_) <;> (try rw [h3])
  · have hlt : i < a.length := by have := h3; simp at this; omega
    refine draw_i true [] [(0, 1), (1, 1), (2, 1), (3, 1), (4, 1), (5, 1), (6, 1), (7, 1), (8, 1)] (by decide +kernel) ?_
    refine vand_i (show (0 : Int) ≤ (i : Int) ∧ (i : Int) < (a.length : Int) by omega) (fun _ => ?_)
    refine vand_i (show (0 : Int) ≤ (i : Int) ∧ (i : Int) < (b.length : Int) by omega) (fun _ => ?_)
    rw [drop_getI hlt, drop_getI (by omega : i < b.length)] at hs
    refine vif_split (fun h4 => ?_) (fun h4 => ?_) <;> (try rw [h4])
    · have h4 : (a.getD i 0 != b.getD i 0) = true := h4
      refine ends (ret1 (aB ?_))
      rw [hs]
      simp only [eqL]
      rw [beq_eq_false_iff_ne.2 (bne_iff_ne.1 h4)]
      rfl
    · have h4 : (a.getD i 0 != b.getD i 0) = false := h4
      have hk1 : IntKind.i64.wrap ((i : Int) + 1) = ((i + 1 : Nat) : Int) := by rw [wrap_in (by omega) (by omega)]; omega
      refine next_i (n - 1) (by omega) ⟨i + 1, by omega, ?_, congrArg (fun x => regs 26 [(0, .lf (vBs a)), (1, .lf (vBs b)), (12, .lf (vI a.length)), (13, .lf (vI x))]) hk1, rfl⟩
      rw [hs]
      simp only [eqL]
      rw [beq_iff_eq.2 (bne_eq_false_iff_eq.1 h4), Bool.true_and]
  · have hge : a.length ≤ i := by have := h3; simp at this; omega
    refine ends (ret1 (aB ?_))
    rw [hs, List.drop_eq_nil_of_le hge, List.drop_eq_nil_of_le (by omega)]
    rfl

end Go.Proofs.YtimhjbihhchieaaDoor.Q

namespace Go.Proofs.YtimhjbihhchieaaDoor.Q
open Go Go.V
set_option linter.unusedVariables false
set_option linter.unusedSimpArgs false
set_option maxRecDepth 100000
variable {N : Nat} {WL : World}

abbrev formT : Ty := .cons (.int .i64) (.cons .str (.cons .str .nil))
/-- kind, word, letters of the fields -/
def formsL : List (Int × ByteArray × ByteArray × Unit) := [
  (1, ⟨#[111, 112, 101, 110]⟩, ⟨#[73, 82, 68, 67, 83, 76]⟩, ()), (2, ⟨#[99, 108, 111, 115, 101]⟩, ⟨#[73]⟩, ()), (3, ⟨#[115, 116, 97, 114, 116]⟩, ⟨#[73]⟩, ()), (4, ⟨#[112, 97, 117, 115, 101]⟩, ⟨#[73]⟩, ()),
  (5, ⟨#[100, 114, 97, 105, 110]⟩, ⟨#[73]⟩, ()), (6, ⟨#[118, 111, 108, 117, 109, 101]⟩, ⟨#[73, 86]⟩, ()), (7, ⟨#[109, 117, 116, 101]⟩, ⟨#[73, 77]⟩, ()), (8, ⟨#[119, 114, 105, 116, 101]⟩, ⟨#[73, 66]⟩, ()),
  (9, ⟨#[114, 101, 97, 100]⟩, ⟨#[73, 70]⟩, ()), (10, ⟨#[109, 111, 118, 101]⟩, ⟨#[73, 71]⟩, ()), (11, ⟨#[114, 117, 108, 101, 115]⟩, ⟨#[84]⟩, ()), (12, ⟨#[108, 105, 115, 116]⟩, ⟨#[]⟩, ())]

theorem forms_s : Sound P N WL 37 [] [] (· = .ret (.lf (.val (.slice formT) formsL)) []) := by
  refine Sound.of mix [] Go.Proofs.Tryd.func37 rfl rfl ?_
  refine ends ?_
  exact Eq.refl _

end Go.Proofs.YtimhjbihhchieaaDoor.Q

namespace Go.Proofs.YtimhjbihhchieaaDoor.Q
open Go Go.V
set_option linter.unusedVariables false
set_option linter.unusedSimpArgs false
set_option maxRecDepth 100000
variable {N : Nat} {WL : World}

def sameP (a b : Req) : Bool := a.kind == b.kind && a.id == b.id && a.role.toList == b.role.toList && a.dir == b.dir && a.ch == b.ch && a.rate == b.rate && a.lat == b.lat && a.n == b.n && a.dev == b.dev && eqL a.data b.data && a.text.toList == b.text.toList

set_option maxHeartbeats 4000000 in
theorem same_p (a b : Req) (hlen : a.data.length ≤ 1000000) : Sound P N WL 42 [.lf a.v, .lf b.v] [] (· = .ret (.lf (vB (sameP a b))) []) := by
  refine Sound.of mix [] Go.Proofs.Tryd.func42 rfl rfl ?_
  repeat' first
    | (refine vif_split (fun h => ?_) (fun h => ?_) <;> (try rw [h]))
    | (refine vcall_intro [] [] (and_i (equal_s a.data b.data hlen) ?_); rintro o rfl)
  all_goals (refine ends (ret1 (aB ?_)); unfold sameP; simp_all)

end Go.Proofs.YtimhjbihhchieaaDoor.Q

namespace Go.Proofs.YtimhjbihhchieaaDoor.Q
open Go Go.V
set_option linter.unusedVariables false
set_option linter.unusedSimpArgs false
set_option maxRecDepth 100000
variable {N : Nat} {WL : World}

abbrev Req.cells (r : Req) : List A0 := [vI r.kind, vI r.id, vS r.role, vI r.dir, vI r.ch, vI r.rate, vI r.lat, vI r.n, vU r.dev, vBs r.data, vS r.text]

def rightP (r : Req) (c : Int) : Bool :=
  if c = 73 then inR r.id 1 9007199254740992
  else if c = 82 then nameP r.role
  else if c = 68 then (r.dir == 1 || r.dir == 2)
  else if c = 67 then inR r.ch 1 8
  else if c = 83 then inR r.rate 1000 768000
  else if c = 76 then inR r.lat 0 1099511627776
  else if c = 86 then inR r.n 0 100
  else if c = 77 then inR r.n 0 1
  else if c = 66 then decide ((r.data.length : Int) ≤ 1024)
  else if c = 70 then inR r.n 0 65536
  else if c = 71 then decide (r.dev ≤ 9007199254740992)
  else decide ((r.text.size : Int) ≤ 1500)

def setP (a r : Req) (c : Int) : Req :=
  if c = 73 then { a with id := r.id }
  else if c = 82 then { a with role := r.role }
  else if c = 68 then { a with dir := r.dir }
  else if c = 67 then { a with ch := r.ch }
  else if c = 83 then { a with rate := r.rate }
  else if c = 76 then { a with lat := r.lat }
  else if c = 86 ∨ c = 77 ∨ c = 70 then { a with n := r.n }
  else if c = 66 then { a with data := r.data }
  else if c = 71 then { a with dev := r.dev }
  else if c = 84 then { a with text := r.text }
  else a

set_option maxHeartbeats 4000000 in
theorem right_s (r : Req) (c : Int) (hr : r.role.size ≤ 1000000) : Sound P N WL 40 [.lf r.v, .lf (v8 c)] [] (· = .ret (.lf (vB (rightP r c))) []) := by
  refine Sound.of mix [] Go.Proofs.Tryd.func40 rfl rfl ?_
  repeat' first
    | (refine vif_split (fun h => ?_) (fun h => ?_) <;> (try rw [h]) <;> (try simp only [beq_iff_eq, beq_eq_false_iff_ne, ne_eq] at h))
    | (refine vcall_intro [] [] (and_i (within_s _ _ _) ?_); rintro o rfl)
    | (refine vcall_intro [] [] (and_i (name_s _ hr) ?_); rintro o rfl)
  all_goals (refine ends (ret1 (aB ?_)); simp [rightP, *] <;> rfl)

abbrev Req.cellsD (r : Req) (d : A0) : List A0 := [vI r.kind, vI r.id, vS r.role, vI r.dir, vI r.ch, vI r.rate, vI r.lat, vI r.n, vU r.dev, d, vS r.text]
/-- the row of the data, as a value, or owned -/
def dOK (k : Nat) (d : A0) (l : List Int) : Prop := d = vBs l ∨ d = .al (.ce k 9) (.int .u8) l

set_option maxHeartbeats 4000000 in
theorem set_s (a r : Req) (c : Int) (d : A0) (hd : dOK 1000 d a.data) : Sound P N WL 41 [.lf (.ptr 1000 0), .lf r.v, .lf (v8 c)] [(1000, a.cellsD d)]
    (fun o => ∃ d', dOK 1000 d' (setP a r c).data ∧ o = .ret (.tup []) [(1000, (setP a r c).cellsD d')]) := by
  obtain ⟨kind, id, role, dir, ch, rate, lat, n, dev, data, text⟩ := a
  rcases hd with rfl | rfl
  all_goals
    refine Sound.of mix [] Go.Proofs.Tryd.func41 rfl rfl ?_
    repeat' (refine vif_split (fun h => ?_) (fun h => ?_) <;> (try rw [h]) <;> (try simp only [beq_iff_eq, beq_eq_false_iff_ne, ne_eq] at h))
    all_goals
      simp only [setP, *]
      first
        | (refine ⟨_, .inl (Eq.refl _), ?_⟩; refine ends ?_; simp <;> rfl)
        | (refine ⟨_, .inr (Eq.refl _), ?_⟩; refine ends ?_; simp <;> rfl)

theorem setP_len (a r : Req) (c : Int) (M : Nat) (h1 : a.data.length ≤ M) (h2 : r.data.length ≤ M) : (setP a r c).data.length ≤ M := by
  unfold setP
  repeat' split
  all_goals assumption

/-- a request of a kind alone -/
abbrev Req.zero (k : Int) : Req := ⟨k, 0, ⟨#[]⟩, 0, 0, 0, 0, 0, 0, [], ⟨#[]⟩⟩
def validIn (r a : Req) : List Int → Bool
  | [] => sameP a r
  | c :: l => rightP r c && validIn r (setP a r c) l
def validFrom (r : Req) : List (Int × ByteArray × ByteArray × Unit) → Bool
  | [] => false
  | f :: l => if f.1 = r.kind then validIn r (Req.zero r.kind) (bytesOf f.2.2.1) else validFrom r l
def validP (r : Req) : Bool := validFrom r formsL

theorem getD_form {i : Nat} (h : i < formsL.length) : formsL.getD i (Ty.dflt formT) = formsL[i] := by simp [List.getD, h]; rfl
theorem drop_form {i : Nat} (h : i < formsL.length) : formsL.drop i = formsL.getD i (Ty.dflt formT) :: formsL.drop (i + 1) := by
  rw [getD_form h, List.drop_eq_getElem_cons h]

theorem forms_all : formsL.all (fun f => decide (f.2.2.1.size ≤ 6)) = true := by decide
theorem forms_small {i : Nat} (h : i < formsL.length) : (formsL.getD i (Ty.dflt formT)).2.2.1.size ≤ 6 := by
  rw [getD_form h]
  exact of_decide_eq_true (List.all_eq_true.1 forms_all _ (List.getElem_mem h))

set_option maxHeartbeats 8000000 in
theorem valid_p (r : Req) (hr : r.role.size ≤ 1000000) (hd : r.data.length ≤ 1000000) : Sound P N WL 18 [.lf r.v] [] (· = .ret (.lf (vB (validP r))) []) := by
  refine Sound.of mix [] Go.Proofs.Tryd.func18 rfl rfl ?_
  refine vcall_intro [] [] (and_i forms_s ?_)
  rintro o rfl
  refine vloop_i [1, 7, 8, 9] [1] (fun n s m => ∃ i : Nat, i + n = formsL.length ∧ validP r = validFrom r (formsL.drop i) ∧
    s = regs 45 [(1, .lf (.ptr 1 0)), (7, .lf (.val (.slice formT) formsL)), (8, .lf (vI formsL.length)), (9, .lf (vI i))] ∧ m = [(1, r.cells)]) ⟨formsL.length, 0, by omega, rfl, rfl, rfl⟩ ?_
  rintro n s m ⟨i, hn, hq, rfl, rfl⟩
  refine vif_split (fun h3 => ?_) (fun h3 => ?_) <;> (try rw [h3])
  · have h3 : decide ((i : Int) < ((formsL.length : Nat) : Int)) = true := h3
    have hlt : i < formsL.length := by have := of_decide_eq_true h3; omega
    refine vand_i (show (0 : Int) ≤ (i : Int) ∧ (i : Int) < ((formsL.length : Nat) : Int) by omega) (fun _ => ?_)
    rw [drop_form hlt] at hq
    have hq : validP r = validFrom r (@List.getD formT.den formsL (Int.toNat (i : Int)) (Ty.dflt formT) :: formsL.drop (i + 1)) := hq
    have hsz : ByteArray.size (@List.getD formT.den formsL (Int.toNat (i : Int)) (Ty.dflt formT)).2.2.1 ≤ 6 := forms_small hlt
    generalize @List.getD formT.den formsL (Int.toNat (i : Int)) (Ty.dflt formT) = f at hq hsz ⊢
    obtain ⟨(fk : Int), (fw : ByteArray), (ff : ByteArray), (fu : Unit)⟩ := f
    have hsz : ff.size ≤ 6 := hsz
    have hq : validP r = validFrom r ((fk, fw, ff, fu) :: formsL.drop (i + 1)) := hq
    refine vif_split (fun h4 => ?_) (fun h4 => ?_) <;> (try rw [h4])
    · have h4 : (fk != r.kind) = true := h4
      have hk1 : IntKind.i64.wrap ((i : Int) + 1) = ((i + 1 : Nat) : Int) := by rw [wrap_in (by omega) (by have : formsL.length = 12 := rfl; omega)]; omega
      refine next_i (n - 1) (by omega) ⟨i + 1, by omega, ?_, congrArg (fun x => regs 45 [(1, .lf (.ptr 1 0)), (7, .lf (.val (.slice formT) formsL)), (8, .lf (vI formsL.length)), (9, .lf (vI x))]) hk1, rfl⟩
      rw [hq, validFrom, if_neg (bne_iff_ne.1 h4)]
    · have h4 : (fk != r.kind) = false := h4
      rw [validFrom, if_pos (bne_eq_false_iff_eq.1 h4)] at hq
      refine vloop_i [1, 4, 5, 23, 24] [1, 4, 5] (fun n s m => ∃ (j : Nat) (a : Req) (d : A0), j + n = ff.size ∧ dOK 5 d a.data ∧ a.data.length ≤ 1000000 ∧ validP r = validIn r a ((bytesOf ff).drop j) ∧
        s = regs 45 [(1, .lf (.ptr 1 0)), (4, .lf (.ptr 4 0)), (5, .lf (.ptr 5 0)), (23, .lf (vI ff.size)), (24, .lf (vI j))] ∧ m = [(1, r.cells), (4, [vI fk, vS fw, vS ff]), (5, a.cellsD d)]) ⟨ff.size, 0, Req.zero r.kind, _, by omega, .inr rfl, by simp, hq, rfl, rfl⟩ ?_
      rintro n s m ⟨j, a, d, hj, hdo, had, hq, rfl, rfl⟩
      rcases hdo with rfl | rfl
      all_goals
        refine vif_split (fun h5 => ?_) (fun h5 => ?_) <;> (try rw [h5])
        · have h5 : decide ((j : Int) < ((ff.size : Nat) : Int)) = true := h5
          have hlt : j < ff.size := by have := of_decide_eq_true h5; omega
          rw [drop_cons ff j hlt, validIn] at hq
          refine draw_i false [] [(0, 1), (1, 1), (2, 1), (3, 1), (4, 1), (5, 0), (6, 1)] (by decide +kernel) ?_
          refine vand_i (show (0 : Int) ≤ (j : Int) ∧ (j : Int) < ((ff.size : Nat) : Int) by omega) (fun _ => ?_)
          refine vcall_intro [] [] (and_i (right_s r (bt ff j) hr) ?_)
          rintro o rfl
          refine vif_split (fun h6 => ?_) (fun h6 => ?_) <;> (try rw [h6])
          · have h6 : (!rightP r (bt ff j)) = true := h6
            refine ends (ret1 (aB ?_))
            rw [Bool.not_eq_true'] at h6
            rw [hq, h6]
            rfl
          · have h6 : (!rightP r (bt ff j)) = false := h6
            rw [Bool.not_eq_false'] at h6
            rw [h6, Bool.true_and] at hq
            refine draw_i false [] [(0, 1), (1, 1), (2, 1), (3, 1), (4, 1), (5, 0)] (by decide +kernel) ?_
            refine vand_i (show (0 : Int) ≤ (j : Int) ∧ (j : Int) < ((ff.size : Nat) : Int) by omega) (fun _ => ?_)
            refine vcall_intro [5] [] (and_i (set_s a r (bt ff j) _ (by first | exact .inl rfl | exact .inr rfl)) ?_)
            rintro o ⟨d', hd', rfl⟩
            rcases hd' with rfl | rfl
            all_goals
              have hk1 : IntKind.i64.wrap ((j : Int) + 1) = ((j + 1 : Nat) : Int) := by rw [wrap_in (by omega) (by omega)]; omega
              exact next_i (n - 1) (by omega) ⟨j + 1, setP a r (bt ff j), _, by omega, (by first | exact .inl rfl | exact .inr rfl), setP_len _ _ _ _ had hd, hq, congrArg (fun x => regs 45 [(1, .lf (.ptr 1 0)), (4, .lf (.ptr 4 0)), (5, .lf (.ptr 5 0)), (23, .lf (vI ff.size)), (24, .lf (vI x))]) hk1, rfl⟩
        · have hge : ff.size ≤ j := by have := h5; simp at this; omega
          rw [drop_end ff j hge, validIn] at hq
          refine vcall_intro [] [] (and_i (same_p a r had) ?_)
          rintro o rfl
          refine ends (ret1 (aB ?_))
          exact hq.symm
  · have h3 : decide ((i : Int) < ((formsL.length : Nat) : Int)) = false := h3
    have hge : formsL.length ≤ i := by have := of_decide_eq_false h3; omega
    refine ends (ret1 (aB ?_))
    rw [hq, List.drop_eq_nil_of_le hge]
    rfl

end Go.Proofs.YtimhjbihhchieaaDoor.Q

namespace Go.Proofs.YtimhjbihhchieaaDoor.Q
open Go Go.V
set_option linter.unusedVariables false
set_option linter.unusedSimpArgs false
set_option maxRecDepth 100000
variable {N : Nat} {WL : World}

def fieldsR (r : Req) : Bool :=
  if r.kind = 1 then opensR r.role r.dir r.ch r.rate r.lat
  else if r.kind = 6 then inR r.n 0 100
  else if r.kind = 7 then inR r.n 0 1
  else if r.kind = 8 then decide ((r.data.length : Int) ≤ 1024)
  else if r.kind = 9 then inR r.n 0 65536
  else if r.kind = 10 then decide (r.dev ≤ 9007199254740992)
  else if r.kind = 11 then decide ((r.text.size : Int) ≤ 1500)
  else true
def validR (r : Req) : Bool := inR r.kind 1 12 && sameR r (cleanR r) && (r.kind == 11 || r.kind == 12 || inR r.id 1 9007199254740992) && fieldsR r

set_option maxHeartbeats 8000000 in
theorem valid35_s (r : Req) (hr : r.role.size ≤ 1000000) : Sound P N WL 19 [.lf r.v] [] (· = .ret (.lf (vB (validR r))) []) := by
  refine Sound.of mix [] Go.Proofs.Tryd.func19 rfl rfl ?_
  refine draw_i true [1] [(0, 1), (1, 1), (2, 0), (3, 1), (4, 1), (6, 1), (5, 2), (7, 0), (8, 0), (9, 1), (10, 1), (11, 1), (12, 1), (13, 1), (14, 1), (15, 1), (16, 1), (17, 1), (18, 1), (19, 1), (20, 1), (21, 1), (22, 1), (23, 0), (24, 1), (25, 1), (26, 1)] (by decide +kernel) ?_
  repeat' first
    | (refine vif_split (fun h => ?_) (fun h => ?_) <;> (try rw [h]) <;> (try simp only [beq_iff_eq, beq_eq_false_iff_ne, bne_iff_ne, bne_eq_false_iff_eq, ne_eq, Bool.not_eq_true', Bool.not_eq_false'] at h))
    | (refine vcall_intro [] [] (and_i ⟨rfl, in_s _ _ _⟩ ?_); rintro o rfl)
    | (refine vcall_intro [] [] (and_i (in_s _ _ _) ?_); rintro o rfl)
    | (refine vcall_intro [] [] (and_i ⟨rfl, clean_s r (cleanR r) rfl⟩ ?_); rintro o rfl)
    | (refine vcall_intro [] [] (and_i ⟨rfl, same35_s r (cleanR r)⟩ ?_); rintro o rfl)
    | (refine vcall_intro [] [] (and_i (opens_s r.role hr r.dir r.ch r.rate r.lat) ?_); rintro o rfl)
  all_goals first
    | (exfalso; omega)
    | (refine ends (ret1 (aB ?_)); simp [validR, fieldsR, *] <;> (try simp [inR]) <;> rfl)
    | (refine ends (ret1 (aB ?_)); simp [validR, fieldsR, *] <;> (try simp [inR]))

end Go.Proofs.YtimhjbihhchieaaDoor.Q

namespace Go.Proofs.YtimhjbihhchieaaDoor.Q
open Go Go.V
set_option linter.unusedVariables false
set_option linter.unusedSimpArgs false
set_option maxRecDepth 100000
variable {N : Nat} {WL : World}

theorem vand_j {p k : Prop} (h1 : p) (h2 : k) : vand p k := ⟨h1, h2⟩
abbrev itoaB (n : Int) : ByteArray := ⟨(Lib.itoa n).toArray⟩
abbrev In64 (n : Int) : Prop := -9223372036854775808 ≤ n ∧ n ≤ 9223372036854775807
theorem wrap_64 (n : Int) : In64 (IntKind.i64.wrap n) := by
  rw [wrap_eq]
  unfold wrap64 In64
  omega
/-- numbers of a request are in their kind's range -/
structure Rng (r : Req) : Prop where
  k0 : 0 ≤ r.kind
  k1 : r.kind ≤ 12
  id : In64 r.id
  ch : In64 r.ch
  rate : In64 r.rate
  lat : In64 r.lat
  n : In64 r.n

def wordsR (r : Req) : List ByteArray :=
  (if r.kind = 11 ∨ r.kind = 12 then [wordR r.kind] else [wordR r.kind, itoaB r.id]) ++
  (if r.kind = 1 then [r.role, if r.dir = 2 then ⟨#[99, 97, 112, 116, 117, 114, 101]⟩ else ⟨#[112, 108, 97, 121, 98, 97, 99, 107]⟩, itoaB r.ch, itoaB r.rate, itoaB r.lat]
  else if r.kind = 6 ∨ r.kind = 9 then [itoaB r.n]
  else if r.kind = 7 then [if r.n = 1 then ⟨#[111, 110]⟩ else ⟨#[111, 102, 102]⟩]
  else if r.kind = 8 then [strOfNums r.data]
  else if r.kind = 10 then [itoaB (IntKind.i64.wrap r.dev)]
  else if r.kind = 11 then [r.text]
  else [])

set_option maxHeartbeats 16000000 in
theorem words35_s (r : Req) (g : Rng r) : Sound P N WL 39 [.lf r.v] [] (· = .ret (.lf (vSs (wordsR r))) []) := by
  obtain ⟨k0, k1, g1, g2, g3, g4, g5⟩ := g
  obtain ⟨kind, id, role, dir, ch, rate, lat, n, dev, data, text⟩ := r
  have gd := wrap_64 dev
  refine Sound.of mix [] Go.Proofs.Tryd.func39 rfl rfl ?_
  refine vcall_intro [] [] (and_i (word35_s kind k0 k1) ?_)
  rintro o rfl
  repeat' first
    | (refine vif_split (fun h => ?_) (fun h => ?_) <;> (try rw [h]) <;> (try simp only [beq_iff_eq, beq_eq_false_iff_ne, bne_iff_ne, bne_eq_false_iff_eq, ne_eq, Bool.not_eq_true', Bool.not_eq_false'] at h) <;> (try (exfalso; omega)))
    | (refine vand_j (fits_i (n := 2) 16 rfl ⟨by omega, by omega⟩) ?_)
    | (refine vand_j (fits_i (n := 3) 16 rfl ⟨by omega, by omega⟩) ?_)
    | (refine vand_j (fits_i (n := 7) 16 rfl ⟨by omega, by omega⟩) ?_)
    | (refine vcall_intro [] [] (and_i (format02_s id g1.1 g1.2) ?_); rintro o rfl)
    | (refine vcall_intro [] [] (and_i (format02_s n g5.1 g5.2) ?_); rintro o rfl)
    | (refine vcall_intro [] [] (and_i (format02_s _ gd.1 gd.2) ?_); rintro o rfl)
    | refine drawT_i true [1] (.st 4 1 (.st 5 1 (.st 1 2 (.st 2 2 (.st 3 2 (.st 7 2 (.st 8 2 (.st 10 2 (.st 11 2 (.alt 0 3 (.st 6 0 (.st 9 0 (.st 12 0 (.st 13 1 (.st 14 0 (.st 15 0 (.nil))))))) (.st 6 0 (.alt 0 3 (.st 9 0 (.st 12 0 (.st 13 1 (.st 14 0 (.st 15 0 (.nil)))))) (.st 9 0 (.alt 0 3 (.st 12 0 (.st 13 1 (.st 14 0 (.st 15 0 (.nil))))) (.st 12 0 (.st 13 1 (.st 0 3 (.st 14 0 (.st 15 0 (.nil)))))))))))))))))))) (by decide +kernel) ?_
    | (refine vcall_intro [] [] (and_i ⟨rfl, format02_s ch g2.1 g2.2⟩ ?_); rintro o rfl)
    | (refine vcall_intro [] [] (and_i ⟨rfl, format02_s rate g3.1 g3.2⟩ ?_); rintro o rfl)
    | (refine vcall_intro [] [] (and_i ⟨rfl, format02_s lat g4.1 g4.2⟩ ?_); rintro o rfl)
    | refine and_i ?_ ?_
  all_goals first
    | (refine ends (ret1 (aL ?_)); simp [wordsR, *] <;> rfl)

def formatR (r : Req) : ByteArray × Int := if validR r = true then joinP (wordsR r) else (⟨#[]⟩, 1)

end Go.Proofs.YtimhjbihhchieaaDoor.Q

namespace Go.Proofs.YtimhjbihhchieaaDoor.Q
open Go Go.V
set_option linter.unusedVariables false
set_option linter.unusedSimpArgs false
set_option maxRecDepth 100000

theorem zeq (x : Int) : ((0 : Int) = x) = (x = 0) := propext eq_comm
theorem strOf_inj {a b : List Int} (ha : InR a) (hb : InR b) : strOfNums a = strOfNums b ↔ a = b := by
  constructor
  · intro h
    rw [← bytesOf_strOf a ha, ← bytesOf_strOf b hb, h]
  · rintro rfl; rfl
theorem sameR_iff {a b : Req} (ha : InR a.data) (hb : InR b.data) : sameR a b = true ↔ a = b := by
  obtain ⟨a1, a2, a3, a4, a5, a6, a7, a8, a9, a10, a11⟩ := a
  obtain ⟨b1, b2, b3, b4, b5, b6, b7, b8, b9, b10, b11⟩ := b
  simp only [sameR, Bool.and_eq_true, beq_iff_eq, toList_inj, strOf_inj ha hb, Req.mk.injEq, and_assoc]
theorem sameP_iff {a b : Req} : sameP a b = true ↔ a = b := by
  obtain ⟨a1, a2, a3, a4, a5, a6, a7, a8, a9, a10, a11⟩ := a
  obtain ⟨b1, b2, b3, b4, b5, b6, b7, b8, b9, b10, b11⟩ := b
  simp only [sameP, Bool.and_eq_true, beq_iff_eq, toList_inj, eqL_iff, Req.mk.injEq, and_assoc]
theorem clean_inR {r : Req} (h : InR r.data) : InR (cleanR r).data := by
  unfold cleanR
  simp only
  split
  · exact h
  · intro x hx; cases hx
theorem inR_iff {n lo hi : Int} : inR n lo hi = true ↔ lo ≤ n ∧ n ≤ hi := by simp [inR]
theorem validR_iff {r : Req} (h : InR r.data) : validR r = true ↔ (1 ≤ r.kind ∧ r.kind ≤ 12) ∧ r = cleanR r ∧ (r.kind = 11 ∨ r.kind = 12 ∨ 1 ≤ r.id ∧ r.id ≤ 9007199254740992) ∧ fieldsR r = true := by
  unfold validR
  simp only [Bool.and_eq_true, Bool.or_eq_true, beq_iff_eq, sameR_iff h (clean_inR h), inR_iff, and_assoc, or_assoc]
theorem opensR_iff {role : ByteArray} {d c r l : Int} : opensR role d c r l = true ↔ nameP role = true ∧ (d = 1 ∨ d = 2) ∧ (1 ≤ c ∧ c ≤ 8) ∧ (1000 ≤ r ∧ r ≤ 768000) ∧ 0 ≤ l ∧ l ≤ 1099511627776 := by
  unfold opensR
  simp only [Bool.and_eq_true, Bool.or_eq_true, beq_iff_eq, inR_iff, and_assoc]

theorem valid_rng {r : Req} (h : InR r.data) (hv : validR r = true) : Rng r := by
  obtain ⟨⟨k0, k1⟩, hc, hid, hf⟩ := (validR_iff h).1 hv
  obtain ⟨kind, id, role, dir, ch, rate, lat, n, dev, data, text⟩ := r
  simp only [cleanR, Req.mk.injEq] at hc k0 k1 hid
  obtain ⟨-, c2, c3, c4, c5, c6, c7, c8, c9, c10, c11⟩ := hc
  unfold fieldsR at hf
  simp only at hf
  refine ⟨by simp only; omega, k1, ?_, ?_, ?_, ?_, ?_⟩ <;> simp only [In64]
  · split at c2 <;> omega
  all_goals
    repeat' split at hf
    all_goals (try simp only [opensR_iff, inR_iff, decide_eq_true_eq] at hf)
    all_goals
      (try subst kind)
      (try simp at c5 c6 c7 c8)
      (try omega)

theorem bytes_lit (l : List UInt8) : bytesOf ⟨l.toArray⟩ = l.map fun b => (b.toNat : Int) := rfl

theorem validFrom_mem {r : Req} : ∀ (l : List (Int × ByteArray × ByteArray × Unit)), validFrom r l = true → ∃ f ∈ l, f.1 = r.kind
  | [], h => by simp [validFrom] at h
  | f :: l, h => by
    unfold validFrom at h
    split at h
    · rename_i e; exact ⟨f, List.mem_cons_self, e⟩
    · obtain ⟨g, hg, e⟩ := validFrom_mem l h
      exact ⟨g, List.mem_cons_of_mem _ hg, e⟩
theorem forms_kinds : formsL.all (fun f => decide (1 ≤ f.1 ∧ f.1 ≤ 12)) = true := by decide
theorem validP_eq {r : Req} (h : InR r.data) : validP r = validR r := by
  rw [Bool.eq_iff_iff, validR_iff h]
  obtain ⟨kind, id, role, dir, ch, rate, lat, n, dev, data, text⟩ := r
  by_cases hk : 1 ≤ kind ∧ kind ≤ 12
  · obtain ⟨hk0, hk1⟩ := hk
    have : kind = 1 ∨ kind = 2 ∨ kind = 3 ∨ kind = 4 ∨ kind = 5 ∨ kind = 6 ∨ kind = 7 ∨ kind = 8 ∨ kind = 9 ∨ kind = 10 ∨ kind = 11 ∨ kind = 12 := by omega
    rcases this with rfl | rfl | rfl | rfl | rfl | rfl | rfl | rfl | rfl | rfl | rfl | rfl
    all_goals
      simp [validP, formsL, validFrom, validIn, bytesOf, rightP, setP, fieldsR, cleanR, sameP_iff, inR_iff, opensR_iff, zeq, Req.zero]
      try grind
  · constructor
    · intro hh
      obtain ⟨f, hf, e⟩ := validFrom_mem formsL hh
      have := of_decide_eq_true (List.all_eq_true.1 forms_kinds f hf)
      simp only at e
      omega
    · intro hh
      exact absurd hh.1 hk

theorem getD_in {α : Type} {l : List α} {i : Nat} {d : α} (h : i < l.length) : l.getD i d = l[i] := (List.getElem_eq_getD d).symm
theorem getD_out {α : Type} {l : List α} {i : Nat} {d : α} (h : l.length ≤ i) : l.getD i d = d := by simp [List.getD, h]
theorem itoaB_size {n : Int} (h : In64 n) : (itoaB n).size ≤ 30 := by
  show (Lib.itoa n).length ≤ 30
  unfold Lib.itoa
  split
  · have := digits_len n.natAbs (by omega)
    simp only [List.length_cons]; omega
  · have := digits_len n.toNat (by omega)
    omega
theorem wordR_size (k : Int) : (wordR k).size ≤ 30 := by
  have key : kindWords.all (fun w => decide (w.size ≤ 30)) = true := by decide
  unfold wordR
  by_cases h : k.toNat < kindWords.length
  · rw [getD_in h]
    exact of_decide_eq_true (List.all_eq_true.1 key _ (List.getElem_mem h))
  · rw [getD_out (by omega)]
    decide
theorem wordsR_size (r : Req) (h1 : r.role.size ≤ 1000000) (h2 : r.data.length ≤ 1000000) (h3 : r.text.size ≤ 1000000) (g : Rng r) : ∀ w ∈ wordsR r, w.size ≤ 1000000 := by
  intro w hw
  have e1 := itoaB_size g.id
  have e2 := itoaB_size g.ch
  have e3 := itoaB_size g.rate
  have e4 := itoaB_size g.lat
  have e5 := itoaB_size g.n
  have e6 := itoaB_size (wrap_64 r.dev)
  have e7 := wordR_size r.kind
  have e8 := strOf_size r.data
  unfold wordsR at hw
  rw [List.mem_append] at hw
  rcases hw with hw | hw
  · split at hw <;> simp only [List.mem_cons, List.not_mem_nil, or_false] at hw
    · subst hw; omega
    · rcases hw with rfl | rfl <;> omega
  · repeat' split at hw
    all_goals simp only [List.mem_cons, List.not_mem_nil, or_false] at hw
    all_goals first
      | exact hw.elim
      | (subst hw; first | omega | (split <;> decide) | decide)
      | (rcases hw with rfl | rfl | rfl | rfl | rfl <;> first | omega | decide)

end Go.Proofs.YtimhjbihhchieaaDoor.Q

namespace Go.Proofs.YtimhjbihhchieaaDoor.Q
open Go Go.V
set_option linter.unusedVariables false
set_option linter.unusedSimpArgs false
set_option maxRecDepth 100000

theorem loop_nonneg {l : List Int} (h : l.all digit = true) : 0 ≤ numLoop l 0 := (numLoop_range l 0 h (by omega) (by omega)).1
theorem loop_canon : ∀ (n : Nat) (l : List Int), l.length = n → l.all digit = true → l ≠ [] → (l.head? = some 48 → l.length = 1) → numLoop l 0 ≤ 9007199254740992 → l = numsOf (Lib.decDigits (numLoop l 0).toNat) := by
  intro n
  induction n with
  | zero => intro l hl _ hne; exact absurd (List.length_eq_zero_iff.1 hl) hne
  | succ n ih =>
    intro l hl hd hne hh hle
    rcases List.eq_nil_or_concat l with rfl | ⟨L, d, rfl⟩
    · exact absurd rfl hne
    rw [List.concat_eq_append] at hl hd hne hh hle ⊢
    have hd' : L.all digit = true ∧ digit d = true := by simpa using hd
    have hdd : 48 ≤ d ∧ d ≤ 57 := by simpa [digit] using hd'.2
    rw [numLoop_append] at hle ⊢
    have h0 := loop_nonneg hd'.1
    by_cases hL : L = []
    · subst hL
      have e0 : numLoop [d] (numLoop [] 0) = d - 48 := by
        show (if (0 : Int) ≤ 9007199254740992 then 10 * 0 + (d - 48) else 0) = d - 48
        rw [if_pos (by omega)]
        omega
      rw [e0, Lib.decDigits_one (by omega)]
      simp only [numsOf, List.map_cons, List.map_nil, List.nil_append, UInt8.toNat_ofNat']
      congr 1
      omega
    · have hlen : L.length = n := by simp at hl; exact hl
      have hhead : L.head? ≠ some 48 := by
        intro e
        have : (L ++ [d]).head? = some 48 := by
          cases L with
          | nil => exact absurd rfl hL
          | cons x L => simpa using e
        have := hh this
        have : L.length = 0 := by simpa using this
        exact hL (List.length_eq_zero_iff.1 this)
      have hm : numLoop L 0 ≤ 9007199254740992 := by
        simp only [numLoop] at hle
        split at hle
        · assumption
        · exact hle
      have ihL := ih L hlen hd'.1 hL (fun e => absurd e hhead) hm
      have hpos : 0 < numLoop L 0 := by
        rcases Int.lt_or_eq_of_le h0 with h | h
        · exact h
        · rw [← h] at ihL
          rw [show (0 : Int).toNat = 0 from rfl, Lib.decDigits_one (by omega)] at ihL
          rw [ihL] at hhead
          exact absurd rfl hhead
      simp only [numLoop]
      rw [if_pos hm]
      have e1 : (10 * numLoop L 0 + (d - 48)).toNat / 10 = (numLoop L 0).toNat := by omega
      have e2 : (10 * numLoop L 0 + (d - 48)).toNat % 10 = (d - 48).toNat := by omega
      rw [Lib.decDigits, dif_neg (by omega), e1, e2, numsOf_append, ← ihL]
      congr 1
      simp only [numsOf, List.map_cons, List.map_nil, UInt8.toNat_ofNat']
      congr 1
      omega

theorem numS_canon {neg : Bool} {l : List Int} {n : Int} (h : numS neg l = (n, 0)) : ∃ u : Nat, n = (if neg = true then -(u : Int) else u) ∧ l = numsOf (Lib.decDigits u) ∧ u ≤ 9007199254740992 ∧ (neg = true → 0 < u) := by
  unfold numS at h
  split at h
  · simp at h
  · rename_i c cs
    split at h
    · simp at h
    · rename_i hc
      unfold numD at h
      split at h
      · rename_i hd
        unfold numEnd at h
        split at h
        · simp at h
        · rename_i hle
          have h0 := loop_nonneg hd
          have hcan := loop_canon _ (c :: cs) rfl hd (by simp) (fun e => by
            simp only [List.head?_cons, Option.some.injEq] at e
            have : cs = [] := Classical.byContradiction fun hn => hc ⟨e, .inl hn⟩
            simp [this]) (by omega)
          refine ⟨(numLoop (c :: cs) 0).toNat, ?_, hcan, by omega, fun hn => ?_⟩
          · split at h
            · rename_i hn; simp only [Prod.mk.injEq] at h; simp only [hn, if_true]; omega
            · rename_i hn; simp only [Prod.mk.injEq] at h; simp only [hn, if_false]; simp; omega
          · apply Nat.pos_of_ne_zero
            intro e
            rw [e, Lib.decDigits_one (by omega)] at hcan
            have : c = 48 := by
              have := congrArg List.head? hcan
              simpa [numsOf] using this
            exact hc ⟨this, .inr hn⟩
      · simp at h

theorem num_canon {w : ByteArray} {n : Int} (h : numP w = (n, 0)) : itoaB n = w ∧ -9007199254740992 ≤ n ∧ n ≤ 9007199254740992 := by
  unfold numP numL at h
  split at h
  · rename_i cs hw
    obtain ⟨u, rfl, hcs, hu, hpos⟩ := numS_canon h
    have hpos := hpos rfl
    simp only [if_true] at *
    refine ⟨bytesOf_inj ?_, by omega, by omega⟩
    rw [hw, hcs]
    show bytesOf ⟨(Lib.itoa (-(u : Int))).toArray⟩ = _
    rw [bytesOf_mk]
    unfold Lib.itoa
    rw [if_pos (by omega), show (-(u : Int)).natAbs = u by omega]
    rfl
  · obtain ⟨u, rfl, hcs, hu, -⟩ := numS_canon h
    simp only [Bool.false_eq_true, if_false] at *
    refine ⟨bytesOf_inj ?_, by omega, by omega⟩
    rw [hcs]
    show bytesOf ⟨(Lib.itoa (u : Int)).toArray⟩ = _
    rw [bytesOf_mk]
    unfold Lib.itoa
    rw [if_neg (by omega)]
    rfl

end Go.Proofs.YtimhjbihhchieaaDoor.Q

namespace Go.Proofs.YtimhjbihhchieaaDoor.Q
open Go Go.V
set_option linter.unusedVariables false
set_option linter.unusedSimpArgs false
set_option maxRecDepth 100000
variable {N : Nat} {WL : World}

abbrev wPlay : ByteArray := ⟨#[112, 108, 97, 121, 98, 97, 99, 107]⟩
abbrev wCapt : ByteArray := ⟨#[99, 97, 112, 116, 117, 114, 101]⟩
abbrev wOn : ByteArray := ⟨#[111, 110]⟩
abbrev wOff : ByteArray := ⟨#[111, 102, 102]⟩

def readP (q : Req) (c : Int) (w : ByteArray) : Bool × Req :=
  if c = 82 then (true, { q with role := w })
  else if c = 66 then (true, { q with data := bytesOf w })
  else if c = 84 then (true, { q with text := w })
  else if c = 68 then (if w = wPlay then true else decide (w = wCapt), { q with dir := if w = wCapt then 2 else 1 })
  else if c = 77 then (if w = wOn then true else decide (w = wOff), { q with n := if w = wOn then 1 else q.n })
  else (if (numP w).2 = 0 then decide ((numP w).1 ≥ 0) else false,
    if c = 73 then { q with id := (numP w).1 }
    else if c = 67 then { q with ch := (numP w).1 }
    else if c = 83 then { q with rate := (numP w).1 }
    else if c = 76 then { q with lat := (numP w).1 }
    else if c = 71 then { q with dev := IntKind.u64.wrap (vpure.maxI (numP w).1 0) }
    else { q with n := (numP w).1 })

theorem toList_beq (a b : ByteArray) : (a.toList == b.toList) = decide (a = b) := by
  by_cases h : a = b
  · subst h; simp
  · have : ¬ a.toList = b.toList := fun e => h (toList_inj.1 e)
    simp [h, this]
theorem namesD_s (c : Int) (h : c = 68) : Sound P N WL 58 [.lf (v8 c)] [] (· = .ret (.tup [vS wPlay, vS wCapt]) []) := by
  have := names_s (N := N) (WL := WL) c
  rw [if_pos h, if_pos h] at this
  exact this
theorem namesN_s (c : Int) (h : c ≠ 68) : Sound P N WL 58 [.lf (v8 c)] [] (· = .ret (.tup [vS wOn, vS wOff]) []) := by
  have := names_s (N := N) (WL := WL) c
  rw [if_neg h, if_neg h] at this
  exact this

set_option maxHeartbeats 16000000 in
theorem read_s (q : Req) (c : Int) (w : ByteArray) (hw : w.size ≤ 1000000) (d : A0) (hd : dOK 1000 d q.data) {b : Bool} {q' : Req} (hp : readP q c w = (b, q')) :
    Sound P N WL 46 [.lf (.ptr 1000 0), .lf (v8 c), .lf (vS w)] [(1000, q.cellsD d)]
    (fun o => ∃ d', dOK 1000 d' q'.data ∧ o = .ret (.lf (vB b)) [(1000, q'.cellsD d')]) := by
  obtain ⟨kind, id, role, dir, ch, rate, lat, n, dev, data, text⟩ := q
  by_cases h68 : c = 68
  · rcases hd with rfl | rfl
    all_goals
      refine Sound.of mix [] Go.Proofs.Tryd.func46 rfl rfl ?_
      refine vcall_intro [] [] (and_i (namesD_s c h68) ?_)
      rintro o rfl
      repeat' (refine vif_split (fun h => ?_) (fun h => ?_) <;> (try rw [h]) <;> (try simp only [beq_iff_eq, beq_eq_false_iff_ne, ne_eq, toList_inj] at h) <;> (try (exfalso; omega)))
      all_goals
        first
          | contradiction
          | (simp [readP, *] at hp
             obtain ⟨rfl, rfl⟩ := hp
             first
               | exact ⟨_, .inl rfl, Eq.refl _⟩
               | exact ⟨_, .inr rfl, Eq.refl _⟩
               | (refine ⟨_, .inl rfl, ?_⟩; refine ends ?_; rw [toList_beq]; simp [*]; rfl)
               | (refine ⟨_, .inr rfl, ?_⟩; refine ends ?_; rw [toList_beq]; simp [*]; rfl))
  · rcases hd with rfl | rfl
    all_goals
      refine Sound.of mix [] Go.Proofs.Tryd.func46 rfl rfl ?_
      refine vcall_intro [] [] (and_i (namesN_s c h68) ?_)
      rintro o rfl
      repeat' first
        | (refine vif_split (fun h => ?_) (fun h => ?_) <;> (try rw [h]) <;> (try simp only [beq_iff_eq, beq_eq_false_iff_ne, ne_eq, toList_inj] at h) <;> (try (exfalso; omega)))
        | (refine vcall_intro [] [] (and_i (number_s w hw (v := (numP w).1) (e := (numP w).2) rfl) ?_); rintro o rfl)
      all_goals
        first
          | contradiction
          | (simp [readP, *] at hp
             obtain ⟨rfl, rfl⟩ := hp
             first
               | exact ⟨_, .inl rfl, Eq.refl _⟩
               | exact ⟨_, .inr rfl, Eq.refl _⟩
               | (refine ⟨_, .inl rfl, ?_⟩; refine ends ?_; rw [toList_beq]; simp [*]; rfl)
               | (refine ⟨_, .inr rfl, ?_⟩; refine ends ?_; rw [toList_beq]; simp [*]; rfl))

end Go.Proofs.YtimhjbihhchieaaDoor.Q

namespace Go.Proofs.YtimhjbihhchieaaDoor.Q
open Go Go.V
set_option linter.unusedVariables false
set_option linter.unusedSimpArgs false
set_option maxRecDepth 100000
variable {N : Nat} {WL : World}

theorem split_small (s : ByteArray) : ∀ w ∈ (splitP s).1, w.size ≤ 1000000 := by
  intro w hw
  by_cases h : (splitP s).2 = 0
  · have hsp : splitP s = ((splitP s).1, 0) := by rw [← h]
    obtain ⟨h1, h2, h3⟩ := join_split s _ hsp
    have := wlineL_len (Bts (splitP s).1) (bytesOf w) (List.mem_map.2 ⟨w, hw, rfl⟩)
    rw [bytesOf_length] at this
    have : (jline (splitP s).1).length = (wlineL (Bts (splitP s).1)).length := rfl
    omega
  · rw [split_err s h] at hw
    cases hw

/-- the fields of a form, read -/
def readIn : List Int → List ByteArray → Bool → Req → Bool × Req
  | [], _, ok, q => (ok, q)
  | c :: cs, ws, ok, q => if ok = true then readIn cs (ws.drop 1) (readP q c (atL ws 0)).1 (readP q c (atL ws 0)).2 else readIn cs (ws.drop 1) false q
def parseFrom (l : List ByteArray) : List (Int × ByteArray × ByteArray × Unit) → Req × Int
  | [] => (Req.zero 0, 5)
  | f :: fs => if l.length = f.2.2.1.size + 1 ∧ atL l 0 = f.2.1 then
      (if (readIn (bytesOf f.2.2.1) (l.drop 1) true (Req.zero f.1)).1 = true ∧ validP (readIn (bytesOf f.2.2.1) (l.drop 1) true (Req.zero f.1)).2 = true then ((readIn (bytesOf f.2.2.1) (l.drop 1) true (Req.zero f.1)).2, 0) else parseFrom l fs)
    else parseFrom l fs
def parseP (s : ByteArray) : Req × Int := if (splitP s).2 ≠ 0 then (Req.zero 0, (splitP s).2) else parseFrom (splitP s).1 formsL

theorem readP_len (q : Req) (c : Int) (w : ByteArray) (M : Nat) (h1 : q.data.length ≤ M ∧ q.role.size ≤ M) (h2 : w.size ≤ M) : (readP q c w).2.data.length ≤ M ∧ (readP q c w).2.role.size ≤ M := by
  unfold readP
  repeat' split
  all_goals (simp only [bytesOf_length]; omega)
theorem atL_drop (l : List ByteArray) (j i : Nat) : atL (l.drop j) i = atL l (j + i) := by
  unfold atL
  simp [List.getD]

set_option maxHeartbeats 16000000 in
theorem parse_s (s : ByteArray) {q : Req} {e : Int} (hp : parseP s = (q, e)) : Sound P N WL 20 [.lf (vS s)] [] (· = .ret (.tup [q.v, vI e]) []) := by
  refine Sound.of mix [] Go.Proofs.Tryd.func20 rfl rfl ?_
  unfold parseP at hp
  have hsz : ∀ w ∈ (splitP s).1, w.size ≤ 1000000 := split_small s
  generalize hsp : splitP s = sp at hp hsz
  obtain ⟨l, e0⟩ := sp
  simp only at hp hsz
  refine vcall_intro [] [] (and_i (split_s s hsp) ?_)
  rintro o rfl
  refine vif_split (fun h => ?_) (fun h => ?_) <;> (try rw [h])
  · have h : (e0 != 0) = true := h
    rw [if_pos (bne_iff_ne.1 h)] at hp
    cases hp
    refine ends ?_
    exact Eq.refl _
  have h : (e0 != 0) = false := h
  rw [if_neg (by simpa using h)] at hp
  have hll : l.length ≤ 100000 := by
    have : e0 = 0 := by simpa using h
    subst this
    have := (join_split s l hsp).1
    omega
  refine vcall_intro [] [] (and_i forms_s ?_)
  rintro o rfl
  refine vloop_i [2, 4, 20, 21, 22] [2] (fun n r m => ∃ i : Nat, i + n = formsL.length ∧ parseFrom l (formsL.drop i) = (q, e) ∧
    r = regs 72 [(2, .lf (.ptr 2 0)), (4, .lf (vSs l)), (20, .lf (.val (.slice formT) formsL)), (21, .lf (vI formsL.length)), (22, .lf (vI i))] ∧ m = [(2, (Req.zero 0).cellsD (.al (.ce 2 9) (.int .u8) []))]) ⟨formsL.length, 0, by omega, hp, rfl, rfl⟩ ?_
  rintro n r m ⟨i, hn, hq, rfl, rfl⟩
  refine vif_split (fun h3 => ?_) (fun h3 => ?_) <;> (try rw [h3])
  · have h3 : decide ((i : Int) < ((formsL.length : Nat) : Int)) = true := h3
    have hlt : i < formsL.length := by have := of_decide_eq_true h3; omega
    have hk1 : IntKind.i64.wrap ((i : Int) + 1) = ((i + 1 : Nat) : Int) := by rw [wrap_in (by omega) (by have : formsL.length = 12 := rfl; omega)]; omega
    have hnext : parseFrom l (formsL.drop (i + 1)) = (q, e) → ∃ n', n' < n ∧ ∃ k : Nat, k + n' = formsL.length ∧ parseFrom l (formsL.drop k) = (q, e) ∧ regs 72 [(2, .lf (.ptr 2 0)), (4, .lf (vSs l)), (20, .lf (.val (.slice formT) formsL)), (21, .lf (vI formsL.length)), (22, .lf (vI (IntKind.i64.wrap ((i : Int) + 1))))] = regs 72 [(2, .lf (.ptr 2 0)), (4, .lf (vSs l)), (20, .lf (.val (.slice formT) formsL)), (21, .lf (vI formsL.length)), (22, .lf (vI k))] ∧ [(2, (Req.zero 0).cellsD (.al (.ce 2 9) (.int .u8) []))] = [(2, (Req.zero 0).cellsD (.al (.ce 2 9) (.int .u8) []))] := fun hh =>
      ⟨n - 1, by omega, i + 1, by omega, hh, by rw [hk1], rfl⟩
    refine vand_i (show (0 : Int) ≤ (i : Int) ∧ (i : Int) < ((formsL.length : Nat) : Int) by omega) (fun _ => ?_)
    rw [drop_form hlt] at hq
    have hq : parseFrom l (@List.getD formT.den formsL (Int.toNat (i : Int)) (Ty.dflt formT) :: formsL.drop (i + 1)) = (q, e) := hq
    have hsz2 : ByteArray.size (@List.getD formT.den formsL (Int.toNat (i : Int)) (Ty.dflt formT)).2.2.1 ≤ 6 := forms_small hlt
    generalize @List.getD formT.den formsL (Int.toNat (i : Int)) (Ty.dflt formT) = f at hq hsz2 ⊢
    obtain ⟨(fk : Int), (fw : ByteArray), (ff : ByteArray), (fu : Unit)⟩ := f
    have hsz2 : ff.size ≤ 6 := hsz2
    have hq : parseFrom l ((fk, fw, ff, fu) :: formsL.drop (i + 1)) = (q, e) := hq
    have hw1 : IntKind.i64.wrap ((ff.size : Int) + 1) = ((ff.size + 1 : Nat) : Int) := by rw [wrap_in (by omega) (by omega)]; omega
    rw [parseFrom] at hq
    simp only at hq
    refine draw_i false [] [(0, 1), (1, 1), (2, 1), (3, 1), (4, 1), (5, 1), (6, 1), (7, 1), (8, 1), (9, 1), (10, 1), (11, 1), (12, 1), (13, 1), (14, 1)] (by decide +kernel) ?_
    refine vif_split (fun h4 => ?_) (fun h4 => ?_) <;> (try rw [h4])
    · have h4 : ((l.length : Int) != IntKind.i64.wrap ((ff.size : Int) + 1)) = true := h4
      rw [hw1, bne_iff_ne] at h4
      rw [if_neg (by omega)] at hq
      exact hnext hq
    have h4 : ((l.length : Int) != IntKind.i64.wrap ((ff.size : Int) + 1)) = false := h4
    rw [hw1, bne_eq_false_iff_eq] at h4
    have h4 : l.length = ff.size + 1 := by omega
    refine vand_i (show (0 : Int) ≤ (0 : Int) ∧ (0 : Int) < (l.length : Int) by omega) (fun _ => ?_)
    refine vif_split (fun h5 => ?_) (fun h5 => ?_) <;> (try rw [h5])
    · have h5 : (!((atL l 0).toList == fw.toList)) = true := h5
      rw [if_neg (by
        rintro ⟨_, e⟩
        rw [e] at h5
        simp at h5)] at hq
      exact hnext hq
    have h5 : (!((atL l 0).toList == fw.toList)) = false := h5
    have h5 : atL l 0 = fw := by simpa [toList_inj] using h5
    rw [if_pos ⟨h4, h5⟩] at hq
    generalize hR : readIn (bytesOf ff) (l.drop 1) true (Req.zero fk) = R at hq
    refine vloop_i [2, 4, 7, 8, 9, 20, 21, 22, 46, 47] [2, 7, 8] (fun n r m => ∃ (j : Nat) (ok : Bool) (a : Req) (d : A0), j + n = ff.size ∧ dOK 8 d a.data ∧ (a.data.length ≤ 1000000 ∧ a.role.size ≤ 1000000) ∧ readIn ((bytesOf ff).drop j) (l.drop (j + 1)) ok a = R ∧
      r = regs 72 [(2, .lf (.ptr 2 0)), (4, .lf (vSs l)), (7, .lf (.ptr 7 0)), (8, .lf (.ptr 8 0)), (9, .lf (vB ok)), (20, .lf (.val (.slice formT) formsL)), (21, .lf (vI formsL.length)), (22, .lf (vI i)), (46, .lf (vI ff.size)), (47, .lf (vI j))] ∧
      m = [(2, (Req.zero 0).cellsD (.al (.ce 2 9) (.int .u8) [])), (7, [vI fk, vS fw, vS ff]), (8, a.cellsD d)]) ⟨ff.size, 0, true, Req.zero fk, _, by omega, .inr rfl, (by show ([] : List Int).length ≤ 1000000 ∧ ByteArray.size ⟨#[]⟩ ≤ 1000000; decide), hR, rfl, rfl⟩ ?_
    rintro n1 r m ⟨j, ok, a, d, hj, hdo, ⟨had, har⟩, hR, rfl, rfl⟩
    rcases hdo with rfl | rfl
    all_goals
      refine vif_split (fun h6 => ?_) (fun h6 => ?_) <;> (try rw [h6])
      · have h6 : decide ((j : Int) < ((ff.size : Nat) : Int)) = true := h6
        have hlt : j < ff.size := by have := of_decide_eq_true h6; omega
        have hj1 : IntKind.i64.wrap ((j : Int) + 1) = ((j + 1 : Nat) : Int) := by rw [wrap_in (by omega) (by omega)]; omega
        rw [drop_cons ff j hlt, readIn, List.drop_drop, atL_drop] at hR
        have hww : (atL l (j + 1)).size ≤ 1000000 := by
          unfold atL
          rw [getD_in (by omega)]
          exact hsz _ (List.getElem_mem _)
        refine draw_i false [] [(0, 1), (1, 1), (2, 1), (3, 1), (4, 1), (5, 1), (6, 1), (7, 1), (8, 1), (9, 1), (10, 1), (11, 0), (12, 1), (13, 0)] (by decide +kernel) ?_
        refine vif_split (fun h7 => ?_) (fun h7 => ?_) <;> (try rw [h7])
        · have h7 : ok = true := h7
          rw [if_pos h7] at hR
          refine vand_i (show (0 : Int) ≤ (j : Int) ∧ (j : Int) < ((ff.size : Nat) : Int) by omega) (fun _ => ?_)
          refine vand_i (show (0 : Int) ≤ IntKind.i64.wrap ((j : Int) + 1) ∧ IntKind.i64.wrap ((j : Int) + 1) < (l.length : Int) by rw [hj1]; omega) (fun _ => ?_)
          have eqw : List.getD l (IntKind.i64.wrap ((j : Int) + 1)).toNat ByteArray.empty = atL l (j + 1) := by rw [hj1]; rfl
          refine vcall_intro [8] [] (and_i (read_s a (bt ff j) (List.getD l (IntKind.i64.wrap ((j : Int) + 1)).toNat ByteArray.empty) (by rw [eqw]; exact hww) _ (by first | exact .inl rfl | exact .inr rfl) (b := (readP a (bt ff j) (atL l (j + 1))).1) (q' := (readP a (bt ff j) (atL l (j + 1))).2) (by rw [eqw])) ?_)
          rintro o ⟨d', hd', rfl⟩
          rcases hd' with rfl | rfl
          all_goals
            exact next_i (n1 - 1) (by omega) ⟨j + 1, _, _, _, by omega, (by first | exact .inl rfl | exact .inr rfl), readP_len a _ _ 1000000 ⟨had, har⟩ hww, hR, congrArg (fun x => regs 72 [(2, .lf (.ptr 2 0)), (4, .lf (vSs l)), (7, .lf (.ptr 7 0)), (8, .lf (.ptr 8 0)), (9, .lf (vB (readP a (bt ff j) (atL l (j + 1))).1)), (20, .lf (.val (.slice formT) formsL)), (21, .lf (vI formsL.length)), (22, .lf (vI i)), (46, .lf (vI ff.size)), (47, .lf (vI x))]) hj1, rfl⟩
        · have h7 : ok = false := h7
          subst h7
          rw [if_neg (by decide)] at hR
          exact next_i (n1 - 1) (by omega) ⟨j + 1, _, _, _, by omega, (by first | exact .inl rfl | exact .inr rfl), ⟨had, har⟩, hR, congrArg (fun x => regs 72 [(2, .lf (.ptr 2 0)), (4, .lf (vSs l)), (7, .lf (.ptr 7 0)), (8, .lf (.ptr 8 0)), (9, .lf (vB false)), (20, .lf (.val (.slice formT) formsL)), (21, .lf (vI formsL.length)), (22, .lf (vI i)), (46, .lf (vI ff.size)), (47, .lf (vI x))]) hj1, rfl⟩
      · have hge : ff.size ≤ j := by have := h6; simp at this; omega
        rw [drop_end ff j hge, readIn] at hR
        subst hR
        simp only at hq
        refine vif_split (fun h7 => ?_) (fun h7 => ?_) <;> (try rw [h7])
        · have h7 : ok = true := h7
          refine vcall_intro [] [] (and_i (valid_p a har had) ?_)
          rintro o rfl
          refine vif_split (fun h8 => ?_) (fun h8 => ?_) <;> (try rw [h8])
          · have h8 : validP a = true := h8
            rw [if_pos ⟨h7, h8⟩] at hq
            cases hq
            refine ends ?_
            exact Eq.refl _
          · have h8 : validP a = false := h8
            rw [if_neg (by simp [h8])] at hq
            exact hnext hq
        · have h7 : ok = false := h7
          rw [if_neg (by simp [h7])] at hq
          exact hnext hq
  · have h3 : decide ((i : Int) < ((formsL.length : Nat) : Int)) = false := h3
    have hge : formsL.length ≤ i := by have := of_decide_eq_false h3; omega
    rw [List.drop_eq_nil_of_le hge] at hq
    cases hq
    refine ends ?_
    exact Eq.refl _

end Go.Proofs.YtimhjbihhchieaaDoor.Q

namespace Go.Proofs.YtimhjbihhchieaaDoor.Q
open Go Go.V
set_option linter.unusedVariables false
set_option linter.unusedSimpArgs false
set_option maxRecDepth 100000
variable {N : Nat} {WL : World}

abbrev deck (L : List Int) (p : Nat) : Mem := [(1000, [vIs L, vI p])]

theorem new_s (L : List Int) : Sound P N WL 14 [.lf (vIs L)] [] (· = .ret (.lf (.ptr 2000 0)) [(2000, [vIs L, vI 0])]) := by
  refine Sound.of mix [1005] Go.Proofs.Tryd.func14 rfl rfl ?_
  refine ends ?_
  exact Eq.refl _

theorem left_s (L : List Int) (p : Nat) : Sound P N WL 57 [.lf (.ptr 1000 0)] (deck L p) (· = .ret (.lf (vB (decide ((p : Int) < (L.length : Int))))) (deck L p)) := by
  refine Sound.of mix [] Go.Proofs.Tryd.func57 rfl rfl ?_
  refine draw_i true [] [(0, 1), (1, 1), (2, 1), (3, 1), (4, 1), (5, 1), (6, 1), (7, 1), (8, 1), (9, 1), (10, 0)] (by decide +kernel) ?_
  refine ends ?_
  exact Eq.refl _

set_option maxHeartbeats 4000000 in
theorem next_s (L : List Int) (hL : L.length ≤ 4611686018427387904) (p : Nat) (n : Int) (h0 : 0 < n) (h1 : n ≤ 4611686018427387904) : Sound P N WL 36 [.lf (.ptr 1000 0), .lf (vI n)] (deck L p)
    (fun o => ∃ (v : Int) (q : Nat), 0 ≤ v ∧ v < n ∧ o = .ret (.lf (vI v)) (deck L q)) := by
  refine Sound.of mix [] Go.Proofs.Tryd.func36 rfl rfl ?_
  refine vcall_intro [1000] [] (and_i (left_s L p) ?_)
  rintro o rfl
  refine vif_split (fun h => ?_) (fun h => ?_) <;> (try rw [h])
  · exact ⟨0, p, by omega, h0, rfl⟩
  · have h : (!decide ((p : Int) < (L.length : Int))) = false := h
    have hlt : p < L.length := by simp at h; omega
    have e1 : IntKind.i64.wrap ((p : Int) + 1) = ((p + 1 : Nat) : Int) := by rw [wrap_in (by omega) (by omega)]; omega
    have e2 : IntKind.i64.wrap (IntKind.i64.wrap ((p : Int) + 1) - 1) = (p : Int) := by rw [e1, wrap_in (by omega) (by omega)]; omega
    refine draw_i false [] [(0, 1), (1, 1), (2, 1), (3, 1), (4, 1), (5, 1), (6, 1), (7, 1), (8, 1), (9, 1), (10, 1), (11, 1), (12, 0), (13, 0)] (by decide +kernel) ?_
    refine vand_i (show (0 : Int) ≤ IntKind.i64.wrap (IntKind.i64.wrap ((p : Int) + 1) - 1) ∧ IntKind.i64.wrap (IntKind.i64.wrap ((p : Int) + 1) - 1) < (L.length : Int) by rw [e2]; omega) (fun _ => ?_)
    refine vcall_intro [] [] (and_i (mod_s _ n h0 h1) ?_)
    rintro o rfl
    refine ⟨mod (List.getD L (IntKind.i64.wrap (IntKind.i64.wrap ((p : Int) + 1) - 1)).toNat 0) n, p + 1, (mod_in h0).1, (mod_in h0).2, ?_⟩
    refine ends ?_
    rw [show deck L (p + 1) = [(1000, [vIs L, vI (IntKind.i64.wrap ((p : Int) + 1))])] by rw [e1]]
    rfl

theorem range_s (L : List Int) (hL : L.length ≤ 4611686018427387904) (p : Nat) (lo hi : Int) (h0 : 0 ≤ lo) (h1 : lo ≤ hi) (h2 : hi ≤ 2305843009213693952) : Sound P N WL 34 [.lf (.ptr 1000 0), .lf (vI lo), .lf (vI hi)] (deck L p)
    (fun o => ∃ (v : Int) (q : Nat), lo ≤ v ∧ v ≤ hi ∧ o = .ret (.lf (vI v)) (deck L q)) := by
  refine Sound.of mix [] Go.Proofs.Tryd.func34 rfl rfl ?_
  have e1 : IntKind.i64.wrap (IntKind.i64.wrap (hi - lo) + 1) = hi - lo + 1 := by rw [wrap_in (n := hi - lo) (by omega) (by omega), wrap_in (by omega) (by omega)]
  refine vcall_intro [1000] [] (and_i (next_s L hL p _ (by rw [e1]; omega) (by rw [e1]; omega)) ?_)
  rintro o ⟨v, q, hv0, hv1, rfl⟩
  rw [e1] at hv1
  have e2 : IntKind.i64.wrap (lo + v) = lo + v := wrap_in (by omega) (by omega)
  exact ⟨IntKind.i64.wrap (lo + v), q, by rw [e2]; omega, by rw [e2]; omega, Eq.refl _⟩

def roles : List ByteArray := [⟨#[109, 117, 115, 105, 99]⟩, ⟨#[118, 111, 105, 99, 101]⟩, ⟨#[97, 108, 97, 114, 109]⟩, ⟨#[103, 97, 109, 101]⟩]
theorem role_s (L : List Int) (hL : L.length ≤ 4611686018427387904) (p : Nat) : Sound P N WL 35 [.lf (.ptr 1000 0)] (deck L p)
    (fun o => ∃ (w : ByteArray) (q : Nat), w ∈ roles ∧ o = .ret (.lf (vS w)) (deck L q)) := by
  refine Sound.of mix [] Go.Proofs.Tryd.func35 rfl rfl ?_
  refine vcall_intro [1000] [] (and_i (next_s L hL p 4 (by decide) (by decide)) ?_)
  rintro o ⟨v, q, hv0, hv1, rfl⟩
  refine vand_i (show (0 : Int) ≤ v ∧ v < (4 : Int) by omega) (fun _ => ?_)
  refine ⟨roles.getD v.toNat ByteArray.empty, q, ?_, ?_⟩
  · have h4 : v.toNat < roles.length := by have : roles.length = 4 := rfl; omega
    rw [show roles.getD v.toNat ByteArray.empty = roles[v.toNat] by simp [List.getD, h4]]
    exact List.getElem_mem h4
  · refine ends ?_
    exact Eq.refl _

theorem roles_ok {w : ByteArray} (h : w ∈ roles) : nameP w = true ∧ w.size ≤ 10 := by
  simp only [roles, List.mem_cons, List.not_mem_nil, or_false] at h
  rcases h with rfl | rfl | rfl | rfl <;> exact ⟨by decide +kernel, by decide⟩

def texts : List ByteArray := [⟨#[]⟩, ⟨#[114, 111, 117, 116, 101, 32, 97, 110, 121, 32, 104, 101, 97, 100, 115, 101, 116, 10]⟩, ⟨#[100, 117, 99, 107, 32, 109, 117, 115, 105, 99, 32, 50, 48, 32, 119, 104, 101, 110, 32, 97, 99, 116, 105, 118, 101, 32, 118, 111, 105, 99, 101, 10]⟩, ⟨#[109, 117, 116, 101, 32, 103, 97, 109, 101, 10, 114, 111, 117, 116, 101, 32, 118, 111, 105, 99, 101, 32, 115, 112, 101, 97, 107, 101, 114]⟩, ⟨#[114, 111, 117, 116, 101, 32, 109, 117, 115, 105, 99]⟩, ⟨#[35, 32, 110, 111, 110, 101, 10, 10, 100, 117, 99, 107, 32, 97, 110, 121, 32, 53, 48, 32, 119, 104, 101, 110, 32, 110, 111, 116, 32, 112, 114, 101, 115, 101, 110, 116, 32, 109, 105, 99]⟩]

/-- what the mill's requests are like -/
structure Milled (r : Req) : Prop where
  valid : validR r = true
  byte : InR r.data
  data : r.data.length ≤ 80
  role : r.role.size ≤ 10
  text : r.text.size ≤ 100
  dev : 0 ≤ r.dev

theorem three {a b c : Int} {v : Int} (h0 : 0 ≤ v) (h1 : v < 3) (lo hi : Int) (ha : lo ≤ a ∧ a ≤ hi) (hb : lo ≤ b ∧ b ≤ hi) (hc : lo ≤ c ∧ c ≤ hi) : lo ≤ List.getD [a, b, c] v.toNat 0 ∧ List.getD [a, b, c] v.toNat 0 ≤ hi := by
  have : v = 0 ∨ v = 1 ∨ v = 2 := by omega
  rcases this with rfl | rfl | rfl
  · exact ha
  · exact hb
  · exact hc
theorem texts_ok {v : Int} (h0 : 0 ≤ v) (h1 : v < 6) : (List.getD texts v.toNat ByteArray.empty).size ≤ 100 := by
  have : v = 0 ∨ v = 1 ∨ v = 2 ∨ v = 3 ∨ v = 4 ∨ v = 5 := by omega
  rcases this with rfl | rfl | rfl | rfl | rfl | rfl <;> decide
theorem dir_ok {v : Int} (h0 : 0 ≤ v) (h1 : v < 4) : IntKind.i64.wrap (1 + IntKind.i64.wrap (v.tdiv 3)) = 1 ∨ IntKind.i64.wrap (1 + IntKind.i64.wrap (v.tdiv 3)) = 2 := by
  have : v = 0 ∨ v = 1 ∨ v = 2 ∨ v = 3 := by omega
  rcases this with rfl | rfl | rfl | rfl <;> decide
theorem milled_of {r : Req} (h : InR r.data) (h1 : (1 ≤ r.kind ∧ r.kind ≤ 12) ∧ r = cleanR r ∧ (r.kind = 11 ∨ r.kind = 12 ∨ 1 ≤ r.id ∧ r.id ≤ 9007199254740992) ∧ fieldsR r = true) (h2 : r.data.length ≤ 80) (h3 : r.role.size ≤ 10) (h4 : r.text.size ≤ 100) (h5 : 0 ≤ r.dev) : Milled r :=
  ⟨(validR_iff h).2 h1, h, h2, h3, h4, h5⟩

set_option maxHeartbeats 16000000 in
theorem request_a (L : List Int) (hL : L.length ≤ 4611686018427387904) (p : Nat) : Sound P N WL 13 [.lf (.ptr 1000 0)] (deck L p)
    (fun o => ∃ (q : Req) (p' : Nat), Milled q ∧ o = .ret (.lf q.v) (deck L p')) := by
  refine Sound.of mix [] Go.Proofs.Tryd.func13 rfl rfl ?_
  refine vcall_intro [1000] [] (and_i (range_s L hL p 1 12 (by decide) (by decide) (by decide)) ?_)
  rintro o ⟨k, p1, hk0, hk1, rfl⟩
  by_cases h1 : k = 1
  · repeat' (refine vif_split (fun h => ?_) (fun h => ?_) <;> (try rw [h]) <;> (try simp only [beq_iff_eq, beq_eq_false_iff_ne, bne_iff_ne, bne_eq_false_iff_eq, ne_eq] at h) <;> (try (exfalso; omega)))
    refine vcall_intro [1000] [] (and_i (range_s L hL _ 1 4 (by decide) (by decide) (by decide)) ?_)
    rintro o ⟨id, p3, hi0, hi1, rfl⟩
    repeat' (refine vif_split (fun h => ?_) (fun h => ?_) <;> (try rw [h]) <;> (try simp only [beq_iff_eq, beq_eq_false_iff_ne, bne_iff_ne, bne_eq_false_iff_eq, ne_eq] at h) <;> (try (exfalso; omega)))
    refine draw_i false [] [(0, 1), (2, 2), (6, 2), (8, 2), (9, 2), (13, 2), (14, 2), (1, 0), (18, 2), (3, 0), (4, 2), (5, 2), (7, 0), (10, 0), (11, 2), (12, 2), (15, 0), (16, 2), (17, 2), (19, 0), (20, 1), (21, 0), (22, 1), (23, 0), (24, 1), (25, 0), (26, 1), (27, 0)] (by decide +kernel) ?_
    refine vcall_intro [1000] [] (and_i (role_s L hL _) ?_)
    rintro o ⟨w, p2, hw, rfl⟩
    refine vcall_intro [1000] [] (and_i (next_s L hL _ 4 (by decide) (by decide)) ?_)
    rintro o ⟨dir, p5, hd0, hd1, rfl⟩
    refine vand_j (by decide) ?_
    refine vcall_intro [1000] [] (and_i (range_s L hL _ 1 3 (by decide) (by decide) (by decide)) ?_)
    rintro o ⟨ch, p4, hc0, hc1, rfl⟩
    refine vcall_intro [1000] [] (and_i (next_s L hL _ 3 (by decide) (by decide)) ?_)
    rintro o ⟨v, p6, hv0, hv1, rfl⟩
    refine vand_j (show (0 : Int) ≤ v ∧ v < ((3 : Nat) : Int) by omega) ?_
    refine vcall_intro [1000] [] (and_i (next_s L hL _ 3 (by decide) (by decide)) ?_)
    rintro o ⟨u, p7, hu0, hu1, rfl⟩
    refine vand_j (show (0 : Int) ≤ u ∧ u < ((3 : Nat) : Int) by omega) ?_
    refine ⟨⟨k, id, w, IntKind.i64.wrap (1 + IntKind.i64.wrap (dir.tdiv 3)), ch, List.getD [48000, 44100, 24000] v.toNat 0, List.getD [20000, 100000, 500] u.toNat 0, 0, 0, [], ⟨#[]⟩⟩, p7, ?_, Eq.refl _⟩
    obtain ⟨hw1, hw2⟩ := roles_ok hw
    have r1 := three (a := 48000) (b := 44100) (c := 24000) hv0 hv1 1000 768000 (by omega) (by omega) (by omega)
    have r2 := three (a := 20000) (b := 100000) (c := 500) hu0 hu1 0 1099511627776 (by omega) (by omega) (by omega)
    have r3 := dir_ok hd0 hd1
    generalize (List.getD [48000, 44100, 24000] v.toNat 0 : Int) = rate at r1 ⊢
    generalize (List.getD [20000, 100000, 500] u.toNat 0 : Int) = lat at r2 ⊢
    generalize IntKind.i64.wrap (1 + IntKind.i64.wrap (dir.tdiv 3)) = dd at r3 ⊢
    subst h1
    refine milled_of InR.nil ⟨⟨by simp only; omega, by simp only; omega⟩, ?_, ?_, ?_⟩ (by simp) hw2 (by simp only; decide) (Int.le_refl 0)
    · simp [cleanR]
    · simp; omega
    · simp [fieldsR, opensR_iff, hw1]; omega
  by_cases h8 : k = 8
  · repeat' (refine vif_split (fun h => ?_) (fun h => ?_) <;> (try rw [h]) <;> (try simp only [beq_iff_eq, beq_eq_false_iff_ne, bne_iff_ne, bne_eq_false_iff_eq, ne_eq] at h) <;> (try (exfalso; omega)))
    refine vcall_intro [1000] [] (and_i (range_s L hL _ 1 4 (by decide) (by decide) (by decide)) ?_)
    rintro o ⟨id, p3, hi0, hi1, rfl⟩
    repeat' (refine vif_split (fun h => ?_) (fun h => ?_) <;> (try rw [h]) <;> (try simp only [beq_iff_eq, beq_eq_false_iff_ne, bne_iff_ne, bne_eq_false_iff_eq, ne_eq] at h) <;> (try (exfalso; omega)))
    refine vcall_intro [1000] [] (and_i (next_s L hL _ 80 (by decide) (by decide)) ?_)
    rintro o ⟨v, p6, hv0, hv1, rfl⟩
    refine vloop_i [0, 2, 3, 4] [2, 3, 1000] (fun n r m => ∃ (x : Nat) (data : List Int) (p : Nat), x = n ∧ data.length + x ≤ 80 ∧ InR data ∧
      r = regs 92 [(0, .lf (.ptr 1000 0)), (2, .lf (.ptr 2 0)), (3, .lf (.ptr 3 0)), (4, .lf (vI x))] ∧
      m = [(2, (Req.zero 0).cellsD (.al (.ce 2 9) (.int .u8) [])), (3, Req.cellsD ⟨k, id, ⟨#[]⟩, 0, 0, 0, 0, 0, 0, data, ⟨#[]⟩⟩ (.al (.ce 3 9) (.int .u8) data)), (1000, [vIs L, vI p])]) ⟨v.toNat, v.toNat, [], p6, rfl, by simp; omega, InR.nil, congrArg (fun y => regs 92 [(0, .lf (.ptr 1000 0)), (2, .lf (.ptr 2 0)), (3, .lf (.ptr 3 0)), (4, .lf (vI y))]) (by omega), rfl⟩ ?_
    rintro n r m ⟨x, data, p, rfl, hlen, hin, rfl, rfl⟩
    refine vif_split (fun h3 => ?_) (fun h3 => ?_) <;> (try rw [h3])
    · have h3 : decide ((x : Int) > 0) = true := h3
      have h3 := of_decide_eq_true h3
      have hx1 : IntKind.i64.wrap ((x : Int) - 1) = ((x - 1 : Nat) : Int) := by rw [wrap_in (by omega) (by omega)]; omega
      have hnext : ∀ (w : Int) (p' : Nat), 0 ≤ w → w < 256 → ∃ n', n' < x ∧ ∃ (y : Nat) (d2 : List Int) (p : Nat), y = n' ∧ d2.length + y ≤ 80 ∧ InR d2 ∧
          regs 92 [(0, .lf (.ptr 1000 0)), (2, .lf (.ptr 2 0)), (3, .lf (.ptr 3 0)), (4, .lf (vI (IntKind.i64.wrap ((x : Int) - 1))))] = regs 92 [(0, .lf (.ptr 1000 0)), (2, .lf (.ptr 2 0)), (3, .lf (.ptr 3 0)), (4, .lf (vI y))] ∧
          [(2, (Req.zero 0).cellsD (.al (.ce 2 9) (.int .u8) [])), (3, Req.cellsD ⟨k, id, ⟨#[]⟩, 0, 0, 0, 0, 0, 0, data ++ [IntKind.u8.wrap w], ⟨#[]⟩⟩ (.al (.ce 3 9) (.int .u8) (data ++ [IntKind.u8.wrap w]))), (1000, [vIs L, vI p'])] =
          [(2, (Req.zero 0).cellsD (.al (.ce 2 9) (.int .u8) [])), (3, Req.cellsD ⟨k, id, ⟨#[]⟩, 0, 0, 0, 0, 0, 0, d2, ⟨#[]⟩⟩ (.al (.ce 3 9) (.int .u8) d2)), (1000, [vIs L, vI p])] := fun w p' hw0 hw1 =>
        ⟨x - 1, by omega, x - 1, data ++ [IntKind.u8.wrap w], p', rfl, by simp; omega, InR.append hin (fun z hz => by
          simp only [List.mem_singleton] at hz
          rw [hz, u8_in hw0 hw1]
          exact ⟨hw0, hw1⟩), by rw [hx1], rfl⟩
      refine drawT_i false [] (.st 2 1 (.st 0 2 (.alt 1 3 (.st 3 0 (.st 4 1 (.st 5 1 (.st 6 0 (.st 7 1 (.st 8 0 (.nil))))))) (.st 3 0 (.st 4 1 (.st 5 1 (.st 1 3 (.st 6 0 (.st 7 1 (.st 8 0 (.nil))))))))))) (by decide +kernel) (and_i ?_ ?_)
      all_goals
        refine vcall_intro [1000] [] (and_i (next_s L hL _ 256 (by decide) (by decide)) ?_)
        rintro o ⟨w, p', hw0, hw1, rfl⟩
        refine vand_j (fits_i (n := data.length + 1) 1 rfl ⟨by omega, by omega⟩) ?_
        exact hnext w p' hw0 hw1
    · refine ⟨⟨k, id, ⟨#[]⟩, 0, 0, 0, 0, 0, 0, data, ⟨#[]⟩⟩, p, ?_, Eq.refl _⟩
      subst h8
      refine milled_of hin ⟨⟨by simp only; omega, by simp only; omega⟩, ?_, ?_, ?_⟩ (by simp only; omega) (by simp only; decide) (by simp only; decide) (Int.le_refl 0)
      · simp [cleanR]
      · simp; omega
      · simp [fieldsR]; omega
  by_cases h11 : k = 11
  · repeat' (refine vif_split (fun h => ?_) (fun h => ?_) <;> (try rw [h]) <;> (try simp only [beq_iff_eq, beq_eq_false_iff_ne, bne_iff_ne, bne_eq_false_iff_eq, ne_eq] at h) <;> (try (exfalso; omega)))
    refine vcall_intro [1000] [] (and_i (next_s L hL _ 6 (by decide) (by decide)) ?_)
    rintro o ⟨v, p6, hv0, hv1, rfl⟩
    refine vand_j (show (0 : Int) ≤ v ∧ v < ((6 : Nat) : Int) by omega) ?_
    refine ⟨⟨k, 0, ⟨#[]⟩, 0, 0, 0, 0, 0, 0, [], List.getD texts v.toNat ByteArray.empty⟩, p6, ?_, Eq.refl _⟩
    have ht := texts_ok hv0 hv1
    generalize List.getD texts v.toNat ByteArray.empty = t at ht ⊢
    subst h11
    refine milled_of InR.nil ⟨⟨by simp only; omega, by simp only; omega⟩, ?_, ?_, ?_⟩ (by simp) (by simp only; decide) ht (Int.le_refl 0)
    · simp [cleanR]
    · simp
    · simp [fieldsR]; omega
  · repeat' first
      | (refine vif_split (fun h => ?_) (fun h => ?_) <;> (try rw [h]) <;> (try simp only [beq_iff_eq, beq_eq_false_iff_ne, bne_iff_ne, bne_eq_false_iff_eq, ne_eq] at h) <;> (try (exfalso; omega)))
      | (refine vcall_intro [1000] [] (and_i (range_s L hL _ 1 4 (by decide) (by decide) (by decide)) ?_); rintro o ⟨id, p3, hi0, hi1, rfl⟩)
      | (refine vcall_intro [1000] [] (and_i (next_s L hL _ _ (by decide) (by decide)) ?_); rintro o ⟨v, p6, hv0, hv1, rfl⟩)
    all_goals
      refine ⟨⟨_, _, _, _, _, _, _, _, _, _, _⟩, _, ?_, Eq.refl _⟩
      refine milled_of InR.nil ⟨⟨hk0, hk1⟩, ?_, ?_, ?_⟩ (Nat.zero_le _) (by simp only; decide) (by simp only; decide) (by first | exact Int.le_refl 0 | (simp only [u64_wrap]; omega))
      · first
          | (simp [cleanR, *] <;> rfl)
          | simp [cleanR, *]
      · first
          | exact .inr (.inl (by assumption))
          | exact .inr (.inr ⟨by simp only; omega, by simp only; omega⟩)
      · first
          | (simp [fieldsR, inR_iff, u64_wrap, *] <;> omega)
          | simp [fieldsR, inR_iff, u64_wrap, *]

end Go.Proofs.YtimhjbihhchieaaDoor.Q

namespace Go.Proofs.YtimhjbihhchieaaDoor.Q
open Go Go.V
set_option linter.unusedVariables false
set_option linter.unusedSimpArgs false
set_option maxRecDepth 100000

def kindUpto (w : ByteArray) : Nat → Int
  | 0 => 0
  | k + 1 => if w = wordR ((k + 1 : Nat) : Int) then ((k + 1 : Nat) : Int) else kindUpto w k
def guessR (l : List ByteArray) : Req where
  kind := kindUpto (atL l 0) 12
  id := if kindUpto (atL l 0) 12 ≠ 11 ∧ kindUpto (atL l 0) 12 ≠ 12 then numR (atL l 1) else 0
  role := if kindUpto (atL l 0) 12 = 1 then atL l 2 else ⟨#[]⟩
  dir := if kindUpto (atL l 0) 12 = 1 then (if atL l 3 = wCapt then 2 else 1) else 0
  ch := if kindUpto (atL l 0) 12 = 1 then numR (atL l 4) else 0
  rate := if kindUpto (atL l 0) 12 = 1 then numR (atL l 5) else 0
  lat := if kindUpto (atL l 0) 12 = 1 then numR (atL l 6) else 0
  n := if kindUpto (atL l 0) 12 = 6 ∨ kindUpto (atL l 0) 12 = 9 then numR (atL l 2) else if kindUpto (atL l 0) 12 = 7 then (if atL l 2 = wOn then 1 else 0) else 0
  dev := if kindUpto (atL l 0) 12 = 10 then IntKind.u64.wrap (numR (atL l 2)) else 0
  data := if kindUpto (atL l 0) 12 = 8 then bytesOf (atL l 2) else []
  text := if kindUpto (atL l 0) 12 = 11 then atL l 1 else ⟨#[]⟩

theorem kind_cases (w : ByteArray) : (kindUpto w 12 = 0 ∧ ∀ k : Nat, k < 12 → w ≠ wordR ((k + 1 : Nat) : Int)) ∨ ∃ k : Nat, k < 12 ∧ kindUpto w 12 = ((k + 1 : Nat) : Int) ∧ w = wordR ((k + 1 : Nat) : Int) := by
  have key : ∀ n : Nat, (kindUpto w n = 0 ∧ ∀ k : Nat, k < n → w ≠ wordR ((k + 1 : Nat) : Int)) ∨ ∃ k : Nat, k < n ∧ kindUpto w n = ((k + 1 : Nat) : Int) ∧ w = wordR ((k + 1 : Nat) : Int) := by
    intro n
    induction n with
    | zero => exact .inl ⟨rfl, fun k hk => by omega⟩
    | succ n ih =>
      by_cases h : w = wordR ((n + 1 : Nat) : Int)
      · exact .inr ⟨n, by omega, by rw [kindUpto, if_pos h], h⟩
      · rw [kindUpto, if_neg h]
        rcases ih with ⟨h1, h2⟩ | ⟨k, hk, h1, h2⟩
        · refine .inl ⟨h1, fun k hk => ?_⟩
          by_cases e : k = n
          · rw [e]; exact h
          · exact h2 k (by omega)
        · exact .inr ⟨k, by omega, h1, h2⟩
  exact key 12

/-- what a field's word may be, as a number -/
theorem num_cases (w : ByteArray) : (∃ n : Int, 0 ≤ n ∧ n ≤ 9007199254740992 ∧ numP w = (n, 0) ∧ numR w = n ∧ itoaB n = w) ∨ ((if (numP w).2 = 0 then decide ((numP w).1 ≥ 0) else false) = false ∧ numR w < 0 ∧ -9007199254740992 ≤ numR w) := by
  unfold numR
  by_cases h : (numP w).2 = 0
  · have hp : numP w = ((numP w).1, 0) := by rw [← h]
    obtain ⟨h1, h2, h3⟩ := num_canon hp
    rw [if_pos h, if_pos h]
    by_cases hn : 0 ≤ (numP w).1
    · exact .inl ⟨_, hn, h3, hp, rfl, h1⟩
    · exact .inr ⟨by simp; omega, by omega, h2⟩
  · rw [if_neg h, if_neg h]
    exact .inr ⟨rfl, by omega, by omega⟩

theorem ite_pair {α : Type} {A B : Prop} [Decidable A] [Decidable B] {q g z : α} (h : A ↔ B) (hq : A → q = g) : (if A then q else z) = if B then g else z := by
  by_cases ha : A
  · rw [if_pos ha, if_pos (h.1 ha), hq ha]
  · rw [if_neg ha, if_neg (fun hb => ha (h.2 hb))]

theorem inR_nil : InR [] := InR.nil
theorem fields_byte : ∀ (cs : List Int) (ws : List ByteArray) (ok : Bool) (q : Req), InR q.data → InR (readIn cs ws ok q).2.data
  | [], _, _, q, h => h
  | c :: cs, ws, ok, q, h => by
    unfold readIn
    split
    · refine fields_byte cs _ _ _ ?_
      unfold readP
      repeat' split
      all_goals first | exact h | exact bytesOf_range _
    · exact fields_byte cs _ _ _ h

def parseG (l : List ByteArray) : Req × Int := if validR (guessR l) = true ∧ wordsR (guessR l) = l then (guessR l, 0) else (Req.zero 0, 5)

theorem wordsR_at (r : Req) : atL (wordsR r) 0 = wordR r.kind := by
  unfold wordsR
  split <;> rfl

end Go.Proofs.YtimhjbihhchieaaDoor.Q

namespace Go.Proofs.YtimhjbihhchieaaDoor.Q
open Go Go.V
set_option linter.unusedVariables false
set_option linter.unusedSimpArgs false
set_option maxRecDepth 100000

theorem parseFrom_none {l : List ByteArray} : ∀ (fs : List (Int × ByteArray × ByteArray × Unit)), (∀ f ∈ fs, atL l 0 ≠ f.2.1) → parseFrom l fs = (Req.zero 0, 5)
  | [], _ => rfl
  | f :: fs, h => by
    rw [parseFrom, if_neg (fun hh => h f List.mem_cons_self hh.2)]
    exact parseFrom_none fs fun g hg => h g (List.mem_cons_of_mem _ hg)
theorem readIn_false : ∀ (cs : List Int) (ws : List ByteArray) (q : Req), readIn cs ws false q = (false, q)
  | [], _, _ => rfl
  | c :: cs, ws, q => by rw [readIn, if_neg (by decide)]; exact readIn_false cs _ q
theorem readIn_true (c : Int) (cs : List Int) (ws : List ByteArray) (q : Req) : readIn (c :: cs) ws true q = if (readP q c (atL ws 0)).1 = true then readIn cs (ws.drop 1) true (readP q c (atL ws 0)).2 else (false, (readP q c (atL ws 0)).2) := by
  rw [readIn, if_pos rfl]
  split
  · rename_i h; rw [h]
  · rename_i h
    rw [Bool.not_eq_true] at h
    rw [h, readIn_false]

theorem num_cases2 (w : ByteArray) : (∃ n : Int, 0 ≤ n ∧ n ≤ 9007199254740992 ∧ numP w = (n, 0) ∧ numR w = n ∧ itoaB n = w) ∨ (((numP w).2 = 0 → (numP w).1 < 0) ∧ numR w < 0 ∧ -9007199254740992 ≤ numR w) := by
  rcases num_cases w with h | ⟨h1, h2⟩
  · exact .inl h
  · refine .inr ⟨fun e => ?_, h2⟩
    rw [if_pos e] at h1
    have := of_decide_eq_false h1
    omega

theorem guess_wrong {l : List ByteArray} (h : ¬ (validR (guessR l) = true ∧ wordsR (guessR l) = l)) : parseG l = (Req.zero 0, 5) := by
  unfold parseG
  rw [if_neg h]
theorem wordsR_len {l : List ByteArray} {k : Int} {m : Nat} (hk : kindUpto (atL l 0) 12 = k) (hm : ∀ r : Req, r.kind = k → (wordsR r).length = m) (hl : l.length ≠ m) : parseG l = (Req.zero 0, 5) := by
  refine guess_wrong fun hh => hl ?_
  rw [← hh.2]
  exact hm _ hk

theorem len1 {l : List ByteArray} (h : l.length = 1) : ∃ a, l = [a] := List.length_eq_one_iff.1 h
theorem len2 {l : List ByteArray} (h : l.length = 2) : ∃ a b, l = [a, b] := by
  obtain _ | ⟨a, l⟩ := l
  · simp at h
  obtain ⟨b, rfl⟩ := len1 (l := l) (by simpa using h)
  exact ⟨a, b, rfl⟩
theorem len3 {l : List ByteArray} (h : l.length = 3) : ∃ a b c, l = [a, b, c] := by
  obtain _ | ⟨a, l⟩ := l
  · simp at h
  obtain ⟨b, c, rfl⟩ := len2 (l := l) (by simpa using h)
  exact ⟨a, b, c, rfl⟩
theorem len7 {l : List ByteArray} (h : l.length = 7) : ∃ a b c d e f g, l = [a, b, c, d, e, f, g] := by
  obtain _ | ⟨a, l⟩ := l
  · simp at h
  obtain _ | ⟨b, l⟩ := l
  · simp at h
  obtain _ | ⟨c, l⟩ := l
  · simp at h
  obtain _ | ⟨d, l⟩ := l
  · simp at h
  obtain ⟨e, f, g, rfl⟩ := len3 (l := l) (by simpa using h)
  exact ⟨a, b, c, d, e, f, g, rfl⟩

theorem valid_neg {r : Req} (hb : InR r.data) (h : ¬ ((r.kind = 11 ∨ r.kind = 12 ∨ 1 ≤ r.id ∧ r.id ≤ 9007199254740992) ∧ fieldsR r = true)) : validR r = false := by
  rw [Bool.eq_false_iff]
  intro hv
  exact h ((validR_iff hb).1 hv).2.2

/-- only the form of the word counts -/
theorem parseFrom_one {l : List ByteArray} {k : Int} {w ff : ByteArray} (A B : List (Int × ByteArray × ByteArray × Unit)) (hA : ∀ f ∈ A, w ≠ f.2.1) (hB : ∀ f ∈ B, w ≠ f.2.1) (h0 : atL l 0 = w) :
    parseFrom l (A ++ (k, w, ff, ()) :: B) = if l.length = ff.size + 1 then (if (readIn (bytesOf ff) (l.drop 1) true (Req.zero k)).1 = true ∧ validP (readIn (bytesOf ff) (l.drop 1) true (Req.zero k)).2 = true then ((readIn (bytesOf ff) (l.drop 1) true (Req.zero k)).2, 0) else (Req.zero 0, 5)) else (Req.zero 0, 5) := by
  induction A with
  | nil =>
    rw [List.nil_append, parseFrom]
    have hB' := parseFrom_none (l := l) B (fun f hf => by rw [h0]; exact hB f hf)
    by_cases hl : l.length = ff.size + 1
    · rw [if_pos ⟨hl, h0⟩, if_pos hl, hB']
    · rw [if_neg (fun hh => hl hh.1), if_neg hl, hB']
  | cons f A ih =>
    rw [List.cons_append, parseFrom, if_neg (fun hh => hA f List.mem_cons_self (h0 ▸ hh.2))]
    exact ih fun g hg => hA g (List.mem_cons_of_mem _ hg)

theorem validP_zero {r : Req} (h : InR r.data) : (validP r = true) = (validR r = true) := by rw [validP_eq h]

def isNum (c : Int) : Bool := !(c == 82 || c == 66 || c == 84 || c == 68 || c == 77)
theorem readP_num {q : Req} {c : Int} {w : ByteArray} (hc : isNum c = true) (h : (readP q c w).1 = true) : (numP w).2 = 0 ∧ 0 ≤ (numP w).1 := by
  simp only [isNum, Bool.not_eq_true', Bool.or_eq_false_iff, beq_eq_false_iff_ne, ne_eq] at hc
  obtain ⟨⟨⟨⟨h1, h2⟩, h3⟩, h4⟩, h5⟩ := hc
  unfold readP at h
  rw [if_neg h1, if_neg h2, if_neg h3, if_neg h4, if_neg h5] at h
  simp only at h
  split at h
  · rename_i e; exact ⟨e, by simpa using h⟩
  · cases h
theorem readIn_ok : ∀ (cs : List Int) (ws : List ByteArray) (q : Req), (readIn cs ws true q).1 = true → ∀ i : Nat, i < cs.length → isNum (cs.getD i 0) = true → (numP (atL ws i)).2 = 0 ∧ 0 ≤ (numP (atL ws i)).1
  | [], _, _, _, i, hi, _ => by simp at hi
  | c :: cs, ws, q, h, i, hi, hn => by
    rw [readIn_true] at h
    split at h
    · rename_i hr
      cases i with
      | zero => exact readP_num hn hr
      | succ i =>
        have := readIn_ok cs (ws.drop 1) _ h i (by simpa using hi) (by simpa using hn)
        rw [atL_drop, Nat.add_comm] at this
        exact this
    · cases h
/-- a number that is none: neither takes it -/
theorem both_bad {cs : List Int} {ws : List ByteArray} {q g : Req} {l : List ByteArray} (i : Nat) (hi : i < cs.length) (hn : isNum (cs.getD i 0) = true) (hbad : (numP (atL ws i)).2 = 0 → (numP (atL ws i)).1 < 0) (hb : InR g.data)
    (hg : ¬ ((g.kind = 11 ∨ g.kind = 12 ∨ 1 ≤ g.id ∧ g.id ≤ 9007199254740992) ∧ fieldsR g = true)) :
    (if (readIn cs ws true q).1 = true ∧ validP (readIn cs ws true q).2 = true then ((readIn cs ws true q).2, (0 : Int)) else (Req.zero 0, 5)) = if validR g = true ∧ wordsR g = l then (g, 0) else (Req.zero 0, 5) := by
  rw [if_neg, if_neg]
  · rintro ⟨h, _⟩
    rw [valid_neg hb hg] at h
    cases h
  · rintro ⟨h, _⟩
    obtain ⟨h1, h2⟩ := readIn_ok cs ws q h i hi hn
    have := hbad h1
    omega
theorem both_good {cs : List Int} {ws : List ByteArray} {q g g' : Req} {l : List ByteArray} (h : readIn cs ws true q = (true, g)) (he : g' = g) (hb : InR g.data) (hw : wordsR g = l) :
    (if (readIn cs ws true q).1 = true ∧ validP (readIn cs ws true q).2 = true then ((readIn cs ws true q).2, (0 : Int)) else (Req.zero 0, 5)) = if validR g' = true ∧ wordsR g' = l then (g', 0) else (Req.zero 0, 5) := by
  subst he
  rw [h]
  refine ite_pair ?_ (fun _ => rfl)
  simp only [true_and, validP_eq hb, hw, and_true]

theorem agree1 {l : List ByteArray} (hk : kindUpto (atL l 0) 12 = 1) (h0 : atL l 0 = wordR 1) : parseFrom l formsL = parseG l := by
  refine (parseFrom_one (k := 1) (w := wordR 1) (ff := ⟨#[73, 82, 68, 67, 83, 76]⟩) [] (formsL.drop 1) (by simp) (by decide) h0).trans ?_
  by_cases hl : l.length = 7
  · refine (if_pos hl).trans ?_
    obtain ⟨w0, w1, w2, w3, w4, w5, w6, rfl⟩ := len7 hl
    have h00 : wordR 1 = w0 := h0.symm
    have hg : guessR [w0, w1, w2, w3, w4, w5, w6] = ⟨1, numR w1, w2, if w3 = wCapt then 2 else 1, numR w4, numR w5, numR w6, 0, 0, [], ⟨#[]⟩⟩ := by
      unfold guessR
      rw [hk]
      rfl
    unfold parseG
    rw [hg]
    rcases num_cases2 w1 with ⟨n1, a1, b1, c1, d1, e1⟩ | ⟨a1, b1, c1⟩
    · rcases num_cases2 w4 with ⟨n4, a4, b4, c4, d4, e4⟩ | ⟨a4, b4, c4⟩
      · rcases num_cases2 w5 with ⟨n5, a5, b5, c5, d5, e5⟩ | ⟨a5, b5, c5⟩
        · rcases num_cases2 w6 with ⟨n6, a6, b6, c6, d6, e6⟩ | ⟨a6, b6, c6⟩
          · by_cases hp : w3 = wPlay
            · subst hp
              have e : readIn [73, 82, 68, 67, 83, 76] [w1, w2, wPlay, w4, w5, w6] true (Req.zero 1) = (true, ⟨1, n1, w2, 1, n4, n5, n6, 0, 0, [], ⟨#[]⟩⟩) := by
                simp [readIn_true, readP, atL, c1, c4, c5, c6, a1, a4, a5, a6, readIn, Req.zero]
              exact both_good e (by rw [if_neg (by decide), d1, d4, d5, d6]) InR.nil (by simp [wordsR, h00, e1, e4, e5, e6])
            · by_cases hq : w3 = wCapt
              · subst hq
                have e : readIn [73, 82, 68, 67, 83, 76] [w1, w2, wCapt, w4, w5, w6] true (Req.zero 1) = (true, ⟨1, n1, w2, 2, n4, n5, n6, 0, 0, [], ⟨#[]⟩⟩) := by
                  simp [readIn_true, readP, atL, c1, c4, c5, c6, a1, a4, a5, a6, readIn, Req.zero]
                exact both_good e (by rw [if_pos rfl, d1, d4, d5, d6]) InR.nil (by simp [wordsR, h00, e1, e4, e5, e6])
              · refine (if_neg ?_).trans (if_neg ?_).symm
                · rintro ⟨h, _⟩
                  have e : readIn [73, 82, 68, 67, 83, 76] [w1, w2, w3, w4, w5, w6] true (Req.zero 1) = (false, ⟨1, n1, w2, 1, 0, 0, 0, 0, 0, [], ⟨#[]⟩⟩) := by
                    simp [readIn_true, readP, atL, c1, a1, readIn, Req.zero, hp, hq]
                  have h : (readIn [73, 82, 68, 67, 83, 76] [w1, w2, w3, w4, w5, w6] true (Req.zero 1)).1 = true := h
                  rw [e] at h
                  cases h
                · rintro ⟨_, h⟩
                  have := congrArg (fun l => atL l 3) h
                  simp [wordsR, atL, hq] at this
                  exact hp this.symm
          · exact both_bad 5 (by decide) (by decide) a6 InR.nil (by rintro ⟨_, h⟩; simp [fieldsR, opensR_iff] at h; omega)
        · exact both_bad 4 (by decide) (by decide) a5 InR.nil (by rintro ⟨_, h⟩; simp [fieldsR, opensR_iff] at h; omega)
      · exact both_bad 3 (by decide) (by decide) a4 InR.nil (by rintro ⟨_, h⟩; simp [fieldsR, opensR_iff] at h; omega)
    · exact both_bad 0 (by decide) (by decide) a1 InR.nil (by rintro ⟨h, _⟩; simp at h; omega)
  · refine (if_neg hl).trans ?_
    exact (wordsR_len hk (m := 7) (by intro r hr; simp [wordsR, hr]) hl).symm

theorem agree2 {l : List ByteArray} (hk : kindUpto (atL l 0) 12 = 2) (h0 : atL l 0 = wordR 2) : parseFrom l formsL = parseG l := by
  refine (parseFrom_one (k := 2) (w := wordR 2) (ff := ⟨#[73]⟩) (formsL.take 1) (formsL.drop 2) (by decide) (by decide) h0).trans ?_
  by_cases hl : l.length = 2
  · refine (if_pos hl).trans ?_
    obtain ⟨w0, w1, rfl⟩ := len2 hl
    have h00 : wordR 2 = w0 := h0.symm
    have hg : guessR [w0, w1] = ⟨2, numR w1, ⟨#[]⟩, 0, 0, 0, 0, 0, 0, [], ⟨#[]⟩⟩ := by
      unfold guessR
      rw [hk]
      rfl
    unfold parseG
    rw [hg]
    rcases num_cases2 w1 with ⟨n1, a1, b1, c1, d1, e1⟩ | ⟨a1, b1, c1⟩
    · have e : readIn [73] [w1] true (Req.zero 2) = (true, ⟨2, n1, ⟨#[]⟩, 0, 0, 0, 0, 0, 0, [], ⟨#[]⟩⟩) := by
        simp [readIn_true, readP, atL, c1, a1, readIn, Req.zero]
      exact both_good e (by rw [d1]) InR.nil (by simp [wordsR, h00, e1])
    · exact both_bad 0 (by decide) (by decide) a1 InR.nil (by rintro ⟨h, _⟩; simp at h; omega)
  · refine (if_neg hl).trans ?_
    exact (wordsR_len hk (m := 2) (by intro r hr; simp [wordsR, hr]) hl).symm

theorem agree3 {l : List ByteArray} (hk : kindUpto (atL l 0) 12 = 3) (h0 : atL l 0 = wordR 3) : parseFrom l formsL = parseG l := by
  refine (parseFrom_one (k := 3) (w := wordR 3) (ff := ⟨#[73]⟩) (formsL.take 2) (formsL.drop 3) (by decide) (by decide) h0).trans ?_
  by_cases hl : l.length = 2
  · refine (if_pos hl).trans ?_
    obtain ⟨w0, w1, rfl⟩ := len2 hl
    have h00 : wordR 3 = w0 := h0.symm
    have hg : guessR [w0, w1] = ⟨3, numR w1, ⟨#[]⟩, 0, 0, 0, 0, 0, 0, [], ⟨#[]⟩⟩ := by
      unfold guessR
      rw [hk]
      rfl
    unfold parseG
    rw [hg]
    rcases num_cases2 w1 with ⟨n1, a1, b1, c1, d1, e1⟩ | ⟨a1, b1, c1⟩
    · have e : readIn [73] [w1] true (Req.zero 3) = (true, ⟨3, n1, ⟨#[]⟩, 0, 0, 0, 0, 0, 0, [], ⟨#[]⟩⟩) := by
        simp [readIn_true, readP, atL, c1, a1, readIn, Req.zero]
      exact both_good e (by rw [d1]) InR.nil (by simp [wordsR, h00, e1])
    · exact both_bad 0 (by decide) (by decide) a1 InR.nil (by rintro ⟨h, _⟩; simp at h; omega)
  · refine (if_neg hl).trans ?_
    exact (wordsR_len hk (m := 2) (by intro r hr; simp [wordsR, hr]) hl).symm

theorem agree4 {l : List ByteArray} (hk : kindUpto (atL l 0) 12 = 4) (h0 : atL l 0 = wordR 4) : parseFrom l formsL = parseG l := by
  refine (parseFrom_one (k := 4) (w := wordR 4) (ff := ⟨#[73]⟩) (formsL.take 3) (formsL.drop 4) (by decide) (by decide) h0).trans ?_
  by_cases hl : l.length = 2
  · refine (if_pos hl).trans ?_
    obtain ⟨w0, w1, rfl⟩ := len2 hl
    have h00 : wordR 4 = w0 := h0.symm
    have hg : guessR [w0, w1] = ⟨4, numR w1, ⟨#[]⟩, 0, 0, 0, 0, 0, 0, [], ⟨#[]⟩⟩ := by
      unfold guessR
      rw [hk]
      rfl
    unfold parseG
    rw [hg]
    rcases num_cases2 w1 with ⟨n1, a1, b1, c1, d1, e1⟩ | ⟨a1, b1, c1⟩
    · have e : readIn [73] [w1] true (Req.zero 4) = (true, ⟨4, n1, ⟨#[]⟩, 0, 0, 0, 0, 0, 0, [], ⟨#[]⟩⟩) := by
        simp [readIn_true, readP, atL, c1, a1, readIn, Req.zero]
      exact both_good e (by rw [d1]) InR.nil (by simp [wordsR, h00, e1])
    · exact both_bad 0 (by decide) (by decide) a1 InR.nil (by rintro ⟨h, _⟩; simp at h; omega)
  · refine (if_neg hl).trans ?_
    exact (wordsR_len hk (m := 2) (by intro r hr; simp [wordsR, hr]) hl).symm

theorem agree5 {l : List ByteArray} (hk : kindUpto (atL l 0) 12 = 5) (h0 : atL l 0 = wordR 5) : parseFrom l formsL = parseG l := by
  refine (parseFrom_one (k := 5) (w := wordR 5) (ff := ⟨#[73]⟩) (formsL.take 4) (formsL.drop 5) (by decide) (by decide) h0).trans ?_
  by_cases hl : l.length = 2
  · refine (if_pos hl).trans ?_
    obtain ⟨w0, w1, rfl⟩ := len2 hl
    have h00 : wordR 5 = w0 := h0.symm
    have hg : guessR [w0, w1] = ⟨5, numR w1, ⟨#[]⟩, 0, 0, 0, 0, 0, 0, [], ⟨#[]⟩⟩ := by
      unfold guessR
      rw [hk]
      rfl
    unfold parseG
    rw [hg]
    rcases num_cases2 w1 with ⟨n1, a1, b1, c1, d1, e1⟩ | ⟨a1, b1, c1⟩
    · have e : readIn [73] [w1] true (Req.zero 5) = (true, ⟨5, n1, ⟨#[]⟩, 0, 0, 0, 0, 0, 0, [], ⟨#[]⟩⟩) := by
        simp [readIn_true, readP, atL, c1, a1, readIn, Req.zero]
      exact both_good e (by rw [d1]) InR.nil (by simp [wordsR, h00, e1])
    · exact both_bad 0 (by decide) (by decide) a1 InR.nil (by rintro ⟨h, _⟩; simp at h; omega)
  · refine (if_neg hl).trans ?_
    exact (wordsR_len hk (m := 2) (by intro r hr; simp [wordsR, hr]) hl).symm

theorem agree6 {l : List ByteArray} (hk : kindUpto (atL l 0) 12 = 6) (h0 : atL l 0 = wordR 6) : parseFrom l formsL = parseG l := by
  refine (parseFrom_one (k := 6) (w := wordR 6) (ff := ⟨#[73, 86]⟩) (formsL.take 5) (formsL.drop 6) (by decide) (by decide) h0).trans ?_
  by_cases hl : l.length = 3
  · refine (if_pos hl).trans ?_
    obtain ⟨w0, w1, w2, rfl⟩ := len3 hl
    have h00 : wordR 6 = w0 := h0.symm
    have hg : guessR [w0, w1, w2] = ⟨6, numR w1, ⟨#[]⟩, 0, 0, 0, 0, numR w2, 0, [], ⟨#[]⟩⟩ := by
      unfold guessR
      rw [hk]
      rfl
    unfold parseG
    rw [hg]
    rcases num_cases2 w1 with ⟨n1, a1, b1, c1, d1, e1⟩ | ⟨a1, b1, c1⟩
    · rcases num_cases2 w2 with ⟨n2, a2, b2, c2, d2, e2⟩ | ⟨a2, b2, c2⟩
      · have e : readIn [73, 86] [w1, w2] true (Req.zero 6) = (true, ⟨6, n1, ⟨#[]⟩, 0, 0, 0, 0, n2, 0, [], ⟨#[]⟩⟩) := by
          simp [readIn_true, readP, atL, c1, a1, c2, a2, readIn, Req.zero]
        exact both_good e (by rw [d1, d2]) InR.nil (by simp [wordsR, h00, e1, e2])
      · exact both_bad 1 (by decide) (by decide) a2 InR.nil (by rintro ⟨_, h⟩; simp [fieldsR, inR_iff] at h; omega)
    · exact both_bad 0 (by decide) (by decide) a1 InR.nil (by rintro ⟨h, _⟩; simp at h; omega)
  · refine (if_neg hl).trans ?_
    exact (wordsR_len hk (m := 3) (by intro r hr; simp [wordsR, hr]) hl).symm

theorem agree9 {l : List ByteArray} (hk : kindUpto (atL l 0) 12 = 9) (h0 : atL l 0 = wordR 9) : parseFrom l formsL = parseG l := by
  refine (parseFrom_one (k := 9) (w := wordR 9) (ff := ⟨#[73, 70]⟩) (formsL.take 8) (formsL.drop 9) (by decide) (by decide) h0).trans ?_
  by_cases hl : l.length = 3
  · refine (if_pos hl).trans ?_
    obtain ⟨w0, w1, w2, rfl⟩ := len3 hl
    have h00 : wordR 9 = w0 := h0.symm
    have hg : guessR [w0, w1, w2] = ⟨9, numR w1, ⟨#[]⟩, 0, 0, 0, 0, numR w2, 0, [], ⟨#[]⟩⟩ := by
      unfold guessR
      rw [hk]
      rfl
    unfold parseG
    rw [hg]
    rcases num_cases2 w1 with ⟨n1, a1, b1, c1, d1, e1⟩ | ⟨a1, b1, c1⟩
    · rcases num_cases2 w2 with ⟨n2, a2, b2, c2, d2, e2⟩ | ⟨a2, b2, c2⟩
      · have e : readIn [73, 70] [w1, w2] true (Req.zero 9) = (true, ⟨9, n1, ⟨#[]⟩, 0, 0, 0, 0, n2, 0, [], ⟨#[]⟩⟩) := by
          simp [readIn_true, readP, atL, c1, a1, c2, a2, readIn, Req.zero]
        exact both_good e (by rw [d1, d2]) InR.nil (by simp [wordsR, h00, e1, e2])
      · exact both_bad 1 (by decide) (by decide) a2 InR.nil (by rintro ⟨_, h⟩; simp [fieldsR, inR_iff] at h; omega)
    · exact both_bad 0 (by decide) (by decide) a1 InR.nil (by rintro ⟨h, _⟩; simp at h; omega)
  · refine (if_neg hl).trans ?_
    exact (wordsR_len hk (m := 3) (by intro r hr; simp [wordsR, hr]) hl).symm

theorem agree7 {l : List ByteArray} (hk : kindUpto (atL l 0) 12 = 7) (h0 : atL l 0 = wordR 7) : parseFrom l formsL = parseG l := by
  refine (parseFrom_one (k := 7) (w := wordR 7) (ff := ⟨#[73, 77]⟩) (formsL.take 6) (formsL.drop 7) (by decide) (by decide) h0).trans ?_
  by_cases hl : l.length = 3
  · refine (if_pos hl).trans ?_
    obtain ⟨w0, w1, w2, rfl⟩ := len3 hl
    have h00 : wordR 7 = w0 := h0.symm
    have hg : guessR [w0, w1, w2] = ⟨7, numR w1, ⟨#[]⟩, 0, 0, 0, 0, if w2 = wOn then 1 else 0, 0, [], ⟨#[]⟩⟩ := by
      unfold guessR
      rw [hk]
      rfl
    unfold parseG
    rw [hg]
    rcases num_cases2 w1 with ⟨n1, a1, b1, c1, d1, e1⟩ | ⟨a1, b1, c1⟩
    · by_cases hp : w2 = wOn
      · subst hp
        have e : readIn [73, 77] [w1, wOn] true (Req.zero 7) = (true, ⟨7, n1, ⟨#[]⟩, 0, 0, 0, 0, 1, 0, [], ⟨#[]⟩⟩) := by
          simp [readIn_true, readP, atL, c1, a1, readIn, Req.zero]
        exact both_good e (by rw [d1, if_pos rfl]) InR.nil (by simp [wordsR, h00, e1])
      · by_cases hq : w2 = wOff
        · subst hq
          have e : readIn [73, 77] [w1, wOff] true (Req.zero 7) = (true, ⟨7, n1, ⟨#[]⟩, 0, 0, 0, 0, 0, 0, [], ⟨#[]⟩⟩) := by
            simp [readIn_true, readP, atL, c1, a1, readIn, Req.zero]
          exact both_good e (by rw [d1, if_neg (by decide)]) InR.nil (by simp [wordsR, h00, e1])
        · refine (if_neg ?_).trans (if_neg ?_).symm
          · rintro ⟨h, _⟩
            have e : readIn [73, 77] [w1, w2] true (Req.zero 7) = (false, ⟨7, n1, ⟨#[]⟩, 0, 0, 0, 0, 0, 0, [], ⟨#[]⟩⟩) := by
              simp [readIn_true, readP, atL, c1, a1, readIn, Req.zero, hp, hq]
            have h : (readIn [73, 77] [w1, w2] true (Req.zero 7)).1 = true := h
            rw [e] at h
            cases h
          · rintro ⟨_, h⟩
            have := congrArg (fun l => atL l 2) h
            simp [wordsR, atL, hp] at this
            exact hq this.symm
    · exact both_bad 0 (by decide) (by decide) a1 InR.nil (by rintro ⟨h, _⟩; simp at h; omega)
  · refine (if_neg hl).trans ?_
    exact (wordsR_len hk (m := 3) (by intro r hr; simp [wordsR, hr]) hl).symm

theorem agree8 {l : List ByteArray} (hk : kindUpto (atL l 0) 12 = 8) (h0 : atL l 0 = wordR 8) : parseFrom l formsL = parseG l := by
  refine (parseFrom_one (k := 8) (w := wordR 8) (ff := ⟨#[73, 66]⟩) (formsL.take 7) (formsL.drop 8) (by decide) (by decide) h0).trans ?_
  by_cases hl : l.length = 3
  · refine (if_pos hl).trans ?_
    obtain ⟨w0, w1, w2, rfl⟩ := len3 hl
    have h00 : wordR 8 = w0 := h0.symm
    have hg : guessR [w0, w1, w2] = ⟨8, numR w1, ⟨#[]⟩, 0, 0, 0, 0, 0, 0, bytesOf w2, ⟨#[]⟩⟩ := by
      unfold guessR
      rw [hk]
      rfl
    unfold parseG
    rw [hg]
    rcases num_cases2 w1 with ⟨n1, a1, b1, c1, d1, e1⟩ | ⟨a1, b1, c1⟩
    · have e : readIn [73, 66] [w1, w2] true (Req.zero 8) = (true, ⟨8, n1, ⟨#[]⟩, 0, 0, 0, 0, 0, 0, bytesOf w2, ⟨#[]⟩⟩) := by
        simp [readIn_true, readP, atL, c1, a1, readIn, Req.zero]
      exact both_good e (by rw [d1]) (bytesOf_range w2) (by simp [wordsR, h00, e1, strOf_bytesOf])
    · exact both_bad 0 (by decide) (by decide) a1 (bytesOf_range w2) (by rintro ⟨h, _⟩; simp at h; omega)
  · refine (if_neg hl).trans ?_
    exact (wordsR_len hk (m := 3) (by intro r hr; simp [wordsR, hr]) hl).symm

theorem agree10 {l : List ByteArray} (hk : kindUpto (atL l 0) 12 = 10) (h0 : atL l 0 = wordR 10) : parseFrom l formsL = parseG l := by
  refine (parseFrom_one (k := 10) (w := wordR 10) (ff := ⟨#[73, 71]⟩) (formsL.take 9) (formsL.drop 10) (by decide) (by decide) h0).trans ?_
  by_cases hl : l.length = 3
  · refine (if_pos hl).trans ?_
    obtain ⟨w0, w1, w2, rfl⟩ := len3 hl
    have h00 : wordR 10 = w0 := h0.symm
    have hg : guessR [w0, w1, w2] = ⟨10, numR w1, ⟨#[]⟩, 0, 0, 0, 0, 0, IntKind.u64.wrap (numR w2), [], ⟨#[]⟩⟩ := by
      unfold guessR
      rw [hk]
      rfl
    unfold parseG
    rw [hg]
    rcases num_cases2 w1 with ⟨n1, a1, b1, c1, d1, e1⟩ | ⟨a1, b1, c1⟩
    · rcases num_cases2 w2 with ⟨n2, a2, b2, c2, d2, e2⟩ | ⟨a2, b2, c2⟩
      · have hu : IntKind.u64.wrap n2 = n2 := u64_id n2 (by omega) (by omega)
        have e : readIn [73, 71] [w1, w2] true (Req.zero 10) = (true, ⟨10, n1, ⟨#[]⟩, 0, 0, 0, 0, 0, n2, [], ⟨#[]⟩⟩) := by
          have hm : vpure.maxI n2 0 = n2 := by unfold vpure.maxI; rw [if_neg (by omega)]
          simp [readIn_true, readP, atL, c1, a1, c2, a2, readIn, Req.zero, hm, hu]
        exact both_good e (by rw [d1, d2, hu]) InR.nil (by simp [wordsR, h00, e1, e2, wrap_in (show -9223372036854775808 ≤ n2 by omega) (show n2 ≤ 9223372036854775807 by omega)])
      · exact both_bad 1 (by decide) (by decide) a2 InR.nil (by rintro ⟨_, h⟩; simp [fieldsR, u64_wrap] at h; omega)
    · exact both_bad 0 (by decide) (by decide) a1 InR.nil (by rintro ⟨h, _⟩; simp at h; omega)
  · refine (if_neg hl).trans ?_
    exact (wordsR_len hk (m := 3) (by intro r hr; simp [wordsR, hr]) hl).symm

theorem agree11 {l : List ByteArray} (hk : kindUpto (atL l 0) 12 = 11) (h0 : atL l 0 = wordR 11) : parseFrom l formsL = parseG l := by
  refine (parseFrom_one (k := 11) (w := wordR 11) (ff := ⟨#[84]⟩) (formsL.take 10) (formsL.drop 11) (by decide) (by decide) h0).trans ?_
  by_cases hl : l.length = 2
  · refine (if_pos hl).trans ?_
    obtain ⟨w0, w1, rfl⟩ := len2 hl
    have h00 : wordR 11 = w0 := h0.symm
    have hg : guessR [w0, w1] = ⟨11, 0, ⟨#[]⟩, 0, 0, 0, 0, 0, 0, [], w1⟩ := by
      unfold guessR
      rw [hk]
      rfl
    unfold parseG
    rw [hg]
    have e : readIn [84] [w1] true (Req.zero 11) = (true, ⟨11, 0, ⟨#[]⟩, 0, 0, 0, 0, 0, 0, [], w1⟩) := by
      simp [readIn_true, readP, atL, readIn, Req.zero]
    exact both_good e rfl InR.nil (by simp [wordsR, h00])
  · refine (if_neg hl).trans ?_
    exact (wordsR_len hk (m := 2) (by intro r hr; simp [wordsR, hr]) hl).symm

theorem agree12 {l : List ByteArray} (hk : kindUpto (atL l 0) 12 = 12) (h0 : atL l 0 = wordR 12) : parseFrom l formsL = parseG l := by
  refine (parseFrom_one (k := 12) (w := wordR 12) (ff := ⟨#[]⟩) (formsL.take 11) (formsL.drop 12) (by decide) (by decide) h0).trans ?_
  by_cases hl : l.length = 1
  · refine (if_pos hl).trans ?_
    obtain ⟨w0, rfl⟩ := len1 hl
    have h00 : wordR 12 = w0 := h0.symm
    have hg : guessR [w0] = ⟨12, 0, ⟨#[]⟩, 0, 0, 0, 0, 0, 0, [], ⟨#[]⟩⟩ := by
      unfold guessR
      rw [hk]
      rfl
    unfold parseG
    rw [hg]
    exact both_good (cs := []) (ws := []) (q := Req.zero 12) rfl rfl InR.nil (by simp [wordsR, h00])
  · refine (if_neg hl).trans ?_
    exact (wordsR_len hk (m := 1) (by intro r hr; simp [wordsR, hr]) hl).symm

theorem forms_words : ∀ f ∈ formsL, ∃ k : Nat, k < 12 ∧ f.2.1 = wordR ((k + 1 : Nat) : Int) := by
  intro f hf
  simp only [formsL, List.mem_cons, List.not_mem_nil, or_false] at hf
  rcases hf with rfl | rfl | rfl | rfl | rfl | rfl | rfl | rfl | rfl | rfl | rfl | rfl
  · exact ⟨0, by decide, rfl⟩
  · exact ⟨1, by decide, rfl⟩
  · exact ⟨2, by decide, rfl⟩
  · exact ⟨3, by decide, rfl⟩
  · exact ⟨4, by decide, rfl⟩
  · exact ⟨5, by decide, rfl⟩
  · exact ⟨6, by decide, rfl⟩
  · exact ⟨7, by decide, rfl⟩
  · exact ⟨8, by decide, rfl⟩
  · exact ⟨9, by decide, rfl⟩
  · exact ⟨10, by decide, rfl⟩
  · exact ⟨11, by decide, rfl⟩

theorem guess_byte' (l : List ByteArray) : InR (guessR l).data := by
  unfold guessR
  simp only
  split
  · exact bytesOf_range _
  · exact InR.nil

theorem parse_agree (l : List ByteArray) : parseFrom l formsL = parseG l := by
  rcases kind_cases (atL l 0) with ⟨hk, hno⟩ | ⟨k, hk12, hk, hw⟩
  · rw [parseFrom_none formsL (fun f hf => by
      obtain ⟨k, h1, h2⟩ := forms_words f hf
      rw [h2]
      exact hno k h1)]
    refine (guess_wrong fun hh => ?_).symm
    have := ((validR_iff (guess_byte' l)).1 hh.1).1
    have e : (guessR l).kind = 0 := hk
    omega
  · have : k = 0 ∨ k = 1 ∨ k = 2 ∨ k = 3 ∨ k = 4 ∨ k = 5 ∨ k = 6 ∨ k = 7 ∨ k = 8 ∨ k = 9 ∨ k = 10 ∨ k = 11 := by omega
    rcases this with rfl | rfl | rfl | rfl | rfl | rfl | rfl | rfl | rfl | rfl | rfl | rfl
    · exact agree1 hk hw
    · exact agree2 hk hw
    · exact agree3 hk hw
    · exact agree4 hk hw
    · exact agree5 hk hw
    · exact agree6 hk hw
    · exact agree7 hk hw
    · exact agree8 hk hw
    · exact agree9 hk hw
    · exact agree10 hk hw
    · exact agree11 hk hw
    · exact agree12 hk hw


end Go.Proofs.YtimhjbihhchieaaDoor.Q
