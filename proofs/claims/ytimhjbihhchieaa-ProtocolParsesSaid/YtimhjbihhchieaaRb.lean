/- Which request a line is: the program and the reference agree, in plain Lean. Conditions: as each states. -/
import Derived.Test.YtimhjbihhchieaaRd
namespace Go.Proofs.Ytimhjbihhchieaa.Q
open Go Go.V
set_option linter.unusedVariables false
set_option linter.unusedSimpArgs false
set_option maxRecDepth 100000

def kindUpto (w : ByteArray) : Nat → Int
  | 0 => 0
  | k + 1 => if w = wordR ((k + 1 : Nat) : Int) then ((k + 1 : Nat) : Int) else kindUpto w k
def guessR (l : List ByteArray) : Req where
  kind := kindUpto (atL l 0) 12
  id := if kindUpto (atL l 0) 12 ≠ 11 ∧ kindUpto (atL l 0) 12 ≠ 12 then numR (atL l 1) else 0
  role := if kindUpto (atL l 0) 12 = 1 then atL l 2 else ⟨#[]⟩
  dir := if kindUpto (atL l 0) 12 = 1 then (if atL l 3 = wCapt then 2 else 1) else 0
  ch := if kindUpto (atL l 0) 12 = 1 then numR (atL l 4) else 0
  rate := if kindUpto (atL l 0) 12 = 1 then numR (atL l 5) else 0
  lat := if kindUpto (atL l 0) 12 = 1 then numR (atL l 6) else 0
  n := if kindUpto (atL l 0) 12 = 6 ∨ kindUpto (atL l 0) 12 = 9 then numR (atL l 2) else if kindUpto (atL l 0) 12 = 7 then (if atL l 2 = wOn then 1 else 0) else 0
  dev := if kindUpto (atL l 0) 12 = 10 then IntKind.u64.wrap (numR (atL l 2)) else 0
  data := if kindUpto (atL l 0) 12 = 8 then bytesOf (atL l 2) else []
  text := if kindUpto (atL l 0) 12 = 11 then atL l 1 else ⟨#[]⟩

theorem kind_cases (w : ByteArray) : (kindUpto w 12 = 0 ∧ ∀ k : Nat, k < 12 → w ≠ wordR ((k + 1 : Nat) : Int)) ∨ ∃ k : Nat, k < 12 ∧ kindUpto w 12 = ((k + 1 : Nat) : Int) ∧ w = wordR ((k + 1 : Nat) : Int) := by
  have key : ∀ n : Nat, (kindUpto w n = 0 ∧ ∀ k : Nat, k < n → w ≠ wordR ((k + 1 : Nat) : Int)) ∨ ∃ k : Nat, k < n ∧ kindUpto w n = ((k + 1 : Nat) : Int) ∧ w = wordR ((k + 1 : Nat) : Int) := by
    intro n
    induction n with
    | zero => exact .inl ⟨rfl, fun k hk => by omega⟩
    | succ n ih =>
      by_cases h : w = wordR ((n + 1 : Nat) : Int)
      · exact .inr ⟨n, by omega, by rw [kindUpto, if_pos h], h⟩
      · rw [kindUpto, if_neg h]
        rcases ih with ⟨h1, h2⟩ | ⟨k, hk, h1, h2⟩
        · refine .inl ⟨h1, fun k hk => ?_⟩
          by_cases e : k = n
          · rw [e]; exact h
          · exact h2 k (by omega)
        · exact .inr ⟨k, by omega, h1, h2⟩
  exact key 12

/-- what a field's word may be, as a number -/
theorem num_cases (w : ByteArray) : (∃ n : Int, 0 ≤ n ∧ n ≤ 9007199254740992 ∧ numP w = (n, 0) ∧ numR w = n ∧ itoaB n = w) ∨ ((if (numP w).2 = 0 then decide ((numP w).1 ≥ 0) else false) = false ∧ numR w < 0 ∧ -9007199254740992 ≤ numR w) := by
  unfold numR
  by_cases h : (numP w).2 = 0
  · have hp : numP w = ((numP w).1, 0) := by rw [← h]
    obtain ⟨h1, h2, h3⟩ := num_canon hp
    rw [if_pos h, if_pos h]
    by_cases hn : 0 ≤ (numP w).1
    · exact .inl ⟨_, hn, h3, hp, rfl, h1⟩
    · exact .inr ⟨by simp; omega, by omega, h2⟩
  · rw [if_neg h, if_neg h]
    exact .inr ⟨rfl, by omega, by omega⟩

theorem ite_pair {α : Type} {A B : Prop} [Decidable A] [Decidable B] {q g z : α} (h : A ↔ B) (hq : A → q = g) : (if A then q else z) = if B then g else z := by
  by_cases ha : A
  · rw [if_pos ha, if_pos (h.1 ha), hq ha]
  · rw [if_neg ha, if_neg (fun hb => ha (h.2 hb))]

theorem inR_nil : InR [] := InR.nil
theorem fields_byte : ∀ (cs : List Int) (ws : List ByteArray) (ok : Bool) (q : Req), InR q.data → InR (readIn cs ws ok q).2.data
  | [], _, _, q, h => h
  | c :: cs, ws, ok, q, h => by
    unfold readIn
    split
    · refine fields_byte cs _ _ _ ?_
      unfold readP
      repeat' split
      all_goals first | exact h | exact bytesOf_range _
    · exact fields_byte cs _ _ _ h

def parseG (l : List ByteArray) : Req × Int := if validR (guessR l) = true ∧ wordsR (guessR l) = l then (guessR l, 0) else (Req.zero 0, 5)

theorem wordsR_at (r : Req) : atL (wordsR r) 0 = wordR r.kind := by
  unfold wordsR
  split <;> rfl

end Go.Proofs.Ytimhjbihhchieaa.Q
