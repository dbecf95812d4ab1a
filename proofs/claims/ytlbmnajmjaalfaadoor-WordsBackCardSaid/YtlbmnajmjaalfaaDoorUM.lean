/- Names: the program's Name and what it tells. Conditions: as each states. -/
import Derived.Test.YtlbmnajmjaalfaaDoorUA
import Derived.Test.YtlbmnajmjaalfaaDoorPx
namespace Go.Proofs.YtlbmnajmjaalfaaDoor.U
set_option linter.unusedSimpArgs false
set_option linter.unusedVariables false
open Go.RowKit Go.Proofs.YtlbmnajmjaalfaaDoor.P Go.Proofs.YtlbmnajmjaalfaaDoorW.PrintWords Go.Proofs.YtlbmnajmjaalfaaDoorW.PrintLast Go.Proofs.YtlbmnajmjaalfaaDoorW.PrintMore Go.Proofs.YtlbmnajmjaalfaaDoorW.Mine

/-- May byte c stand at place i of a name? -/
def NameOk (i : Nat) (c : Int) : Prop := (97 ≤ c ∧ c ≤ 122) ∨ (65 ≤ c ∧ c ≤ 90) ∨ (i ≠ 0 ∧ ((48 ≤ c ∧ c ≤ 57) ∨ c = 45 ∨ c = 46 ∨ c = 95))
instance (i : Nat) (c : Int) : Decidable (NameOk i c) := by unfold NameOk; exact inferInstance
def namesFrom : List Int → Nat → Bool
  | [], _ => true
  | c :: cs, i => decide (NameOk i c) && namesFrom cs (i + 1)
theorem namesFrom_cons (c : Int) (cs : List Int) (i : Nat) : namesFrom (c :: cs) i = (decide (NameOk i c) && namesFrom cs (i + 1)) := rfl
def nameL (l : List Int) : Bool := namesFrom l 0 && !l.isEmpty && decide (l.length ≤ 64)
def nameP (s : ByteArray) : Bool := nameL (bytesOf s)
theorem or32 (c : Int) (h : 0 ≤ c ∧ c < 256) : Go.bits .or .u8 c 32 = if c / 32 % 2 = 0 then c + 32 else c := by
  have key : ∀ n : Fin 256, Go.bits .or .u8 (n.val : Int) 32 = if (n.val : Int) / 32 % 2 = 0 then (n.val : Int) + 32 else (n.val : Int) := by decide +kernel
  have := key ⟨c.toNat, by omega⟩
  simp only at this
  rw [Int.toNat_of_nonneg h.1] at this
  exact this
theorem names_end (s : ByteArray) (i : Nat) : (if s.toList = ([] : List UInt8) then some false else some (decide ((s.size : Int) ≤ 64))) = some (!(bytesOf s).isEmpty && decide ((bytesOf s).length ≤ 64)) := by
  rw [bytesOf_length]
  by_cases h : s.size = 0
  · rw [if_pos (toList_nil.2 h)]
    have : bytesOf s = [] := List.eq_nil_of_length_eq_zero (by rw [bytesOf_length]; exact h)
    rw [this]; rfl
  · rw [if_neg (fun e => h (toList_nil.1 e))]
    cases hb : bytesOf s with
    | nil => exact absurd (by rw [← bytesOf_length, hb]; rfl) h
    | cons _ _ =>
      congr 1
      simp only [List.isEmpty_cons, Bool.not_false, Bool.true_and]
      by_cases h64 : s.size ≤ 64
      · rw [decide_eq_true h64, decide_eq_true (by omega)]
      · rw [decide_eq_false h64, decide_eq_false (by omega)]
theorem name_l0 (s : ByteArray) (hs : s.size ≤ 4611686018427387904) : ∀ (d i : Nat), i + d = s.size → Ev (fun k => words_Name.l0 k s (s.size : Int) i) (namesFrom ((bytesOf s).drop i) i && (!(bytesOf s).isEmpty && decide ((bytesOf s).length ≤ 64))) := by
  intro d
  induction d with
  | zero =>
    intro i hi
    refine Ev.mk 1 (fun k hk => ?_)
    obtain ⟨k, rfl⟩ : ∃ m, k = m + 1 := ⟨k - 1, by omega⟩
    simp only [words_Name.l0]
    rw [if_neg (by omega), drop_end s i (by omega), names_end s i]
    simp [namesFrom]
  | succ d ih =>
    intro i hi
    rw [drop_cons s i (by omega)]
    obtain ⟨K, hK⟩ := ih (i + 1) (by omega)
    dsimp only at hK
    refine Ev.mk (K + 1) (fun k hk => ?_)
    obtain ⟨k, rfl⟩ : ∃ m, k = m + 1 := ⟨k - 1, by omega⟩
    have hc := bt_byte s (i : Int)
    have ho := or32 (bt s (i : Int)) hc
    have hk := hK k (by omega)
    simp only [words_Name.l0]
    rw [if_pos (by omega), if_pos (by omega), if_pos (by omega), wrap_succ i (by omega)]
    have e : (namesFrom (bt s (i : Int) :: (bytesOf s).drop (i + 1)) i && (!(bytesOf s).isEmpty && decide ((bytesOf s).length ≤ 64))) = (if NameOk i (bt s (i : Int)) then (namesFrom ((bytesOf s).drop (i + 1)) (i + 1) && (!(bytesOf s).isEmpty && decide ((bytesOf s).length ≤ 64))) else false) := by
      rw [namesFrom_cons]
      by_cases h : NameOk i (bt s (i : Int))
      · rw [if_pos h, decide_eq_true h]; rfl
      · rw [if_neg h, decide_eq_false h]; rfl
    rw [e]
    generalize (namesFrom ((bytesOf s).drop (i + 1)) (i + 1) && (!(bytesOf s).isEmpty && decide ((bytesOf s).length ≤ 64))) = r at hk ⊢
    generalize words_Name.l0 k s (s.size : Int) ((i + 1 : Nat) : Int) = X at hk ⊢
    subst hk
    generalize Go.bits .or .u8 (bt s (i : Int)) 32 = o at ho ⊢
    generalize bt s (i : Int) = c at hc ho ⊢
    have ho2 : (o = c + 32 ∧ c / 32 % 2 = 0) ∨ (o = c ∧ c / 32 % 2 = 1) := by
      split at ho
      · exact .inl ⟨ho, by assumption⟩
      · exact .inr ⟨ho, by omega⟩
    clear ho e hK ih
    repeat' split
    all_goals first
      | rfl
      | (exfalso; rename_i h; revert h; unfold NameOk; omega)
      | (unfold NameOk at *; exfalso; omega)
theorem name_f (s : ByteArray) (hs : s.size ≤ 4611686018427387904) : Ev (fun k => words_Name.f k s) (nameP s) := by
  obtain ⟨K, hK⟩ := name_l0 s hs s.size 0 (by omega)
  dsimp only at hK
  refine Ev.mk K (fun k hk => ?_)
  unfold words_Name.f
  have h := hK k hk
  rw [Int.natCast_zero] at h
  rw [h]
  unfold nameP nameL
  rw [List.drop_zero, Bool.and_assoc]
end Go.Proofs.YtlbmnajmjaalfaaDoor.U
