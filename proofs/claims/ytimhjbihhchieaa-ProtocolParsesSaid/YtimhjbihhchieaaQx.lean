/- Requests: what is valid, in plain Lean. Conditions: as each states. -/
import Derived.Test.YtimhjbihhchieaaQw
namespace Go.Proofs.Ytimhjbihhchieaa.Q
open Go Go.V
set_option linter.unusedVariables false
set_option linter.unusedSimpArgs false
set_option maxRecDepth 100000

theorem zeq (x : Int) : ((0 : Int) = x) = (x = 0) := propext eq_comm
theorem strOf_inj {a b : List Int} (ha : InR a) (hb : InR b) : strOfNums a = strOfNums b ↔ a = b := by
  constructor
  · intro h
    rw [← bytesOf_strOf a ha, ← bytesOf_strOf b hb, h]
  · rintro rfl; rfl
theorem sameR_iff {a b : Req} (ha : InR a.data) (hb : InR b.data) : sameR a b = true ↔ a = b := by
  obtain ⟨a1, a2, a3, a4, a5, a6, a7, a8, a9, a10, a11⟩ := a
  obtain ⟨b1, b2, b3, b4, b5, b6, b7, b8, b9, b10, b11⟩ := b
  simp only [sameR, Bool.and_eq_true, beq_iff_eq, toList_inj, strOf_inj ha hb, Req.mk.injEq, and_assoc]
theorem sameP_iff {a b : Req} : sameP a b = true ↔ a = b := by
  obtain ⟨a1, a2, a3, a4, a5, a6, a7, a8, a9, a10, a11⟩ := a
  obtain ⟨b1, b2, b3, b4, b5, b6, b7, b8, b9, b10, b11⟩ := b
  simp only [sameP, Bool.and_eq_true, beq_iff_eq, toList_inj, eqL_iff, Req.mk.injEq, and_assoc]
theorem clean_inR {r : Req} (h : InR r.data) : InR (cleanR r).data := by
  unfold cleanR
  simp only
  split
  · exact h
  · intro x hx; cases hx
theorem inR_iff {n lo hi : Int} : inR n lo hi = true ↔ lo ≤ n ∧ n ≤ hi := by simp [inR]
theorem validR_iff {r : Req} (h : InR r.data) : validR r = true ↔ (1 ≤ r.kind ∧ r.kind ≤ 12) ∧ r = cleanR r ∧ (r.kind = 11 ∨ r.kind = 12 ∨ 1 ≤ r.id ∧ r.id ≤ 9007199254740992) ∧ fieldsR r = true := by
  unfold validR
  simp only [Bool.and_eq_true, Bool.or_eq_true, beq_iff_eq, sameR_iff h (clean_inR h), inR_iff, and_assoc, or_assoc]
theorem opensR_iff {role : ByteArray} {d c r l : Int} : opensR role d c r l = true ↔ nameP role = true ∧ (d = 1 ∨ d = 2) ∧ (1 ≤ c ∧ c ≤ 8) ∧ (1000 ≤ r ∧ r ≤ 768000) ∧ 0 ≤ l ∧ l ≤ 1099511627776 := by
  unfold opensR
  simp only [Bool.and_eq_true, Bool.or_eq_true, beq_iff_eq, inR_iff, and_assoc]

theorem valid_rng {r : Req} (h : InR r.data) (hv : validR r = true) : Rng r := by
  obtain ⟨⟨k0, k1⟩, hc, hid, hf⟩ := (validR_iff h).1 hv
  obtain ⟨kind, id, role, dir, ch, rate, lat, n, dev, data, text⟩ := r
  simp only [cleanR, Req.mk.injEq] at hc k0 k1 hid
  obtain ⟨-, c2, c3, c4, c5, c6, c7, c8, c9, c10, c11⟩ := hc
  unfold fieldsR at hf
  simp only at hf
  refine ⟨by simp only; omega, k1, ?_, ?_, ?_, ?_, ?_⟩ <;> simp only [In64]
  · split at c2 <;> omega
  all_goals
    repeat' split at hf
    all_goals (try simp only [opensR_iff, inR_iff, decide_eq_true_eq] at hf)
    all_goals
      (try subst kind)
      (try simp at c5 c6 c7 c8)
      (try omega)

theorem bytes_lit (l : List UInt8) : bytesOf ⟨l.toArray⟩ = l.map fun b => (b.toNat : Int) := rfl

theorem validFrom_mem {r : Req} : ∀ (l : List (Int × ByteArray × ByteArray × Unit)), validFrom r l = true → ∃ f ∈ l, f.1 = r.kind
  | [], h => by simp [validFrom] at h
  | f :: l, h => by
    unfold validFrom at h
    split at h
    · rename_i e; exact ⟨f, List.mem_cons_self, e⟩
    · obtain ⟨g, hg, e⟩ := validFrom_mem l h
      exact ⟨g, List.mem_cons_of_mem _ hg, e⟩
theorem forms_kinds : formsL.all (fun f => decide (1 ≤ f.1 ∧ f.1 ≤ 12)) = true := by decide
theorem validP_eq {r : Req} (h : InR r.data) : validP r = validR r := by
  rw [Bool.eq_iff_iff, validR_iff h]
  obtain ⟨kind, id, role, dir, ch, rate, lat, n, dev, data, text⟩ := r
  by_cases hk : 1 ≤ kind ∧ kind ≤ 12
  · obtain ⟨hk0, hk1⟩ := hk
    have : kind = 1 ∨ kind = 2 ∨ kind = 3 ∨ kind = 4 ∨ kind = 5 ∨ kind = 6 ∨ kind = 7 ∨ kind = 8 ∨ kind = 9 ∨ kind = 10 ∨ kind = 11 ∨ kind = 12 := by omega
    rcases this with rfl | rfl | rfl | rfl | rfl | rfl | rfl | rfl | rfl | rfl | rfl | rfl
    all_goals
      simp [validP, formsL, validFrom, validIn, bytesOf, rightP, setP, fieldsR, cleanR, sameP_iff, inR_iff, opensR_iff, zeq, Req.zero]
      try grind
  · constructor
    · intro hh
      obtain ⟨f, hf, e⟩ := validFrom_mem formsL hh
      have := of_decide_eq_true (List.all_eq_true.1 forms_kinds f hf)
      simp only at e
      omega
    · intro hh
      exact absurd hh.1 hk

theorem getD_in {α : Type} {l : List α} {i : Nat} {d : α} (h : i < l.length) : l.getD i d = l[i] := (List.getElem_eq_getD d).symm
theorem getD_out {α : Type} {l : List α} {i : Nat} {d : α} (h : l.length ≤ i) : l.getD i d = d := by simp [List.getD, h]
theorem itoaB_size {n : Int} (h : In64 n) : (itoaB n).size ≤ 30 := by
  show (Lib.itoa n).length ≤ 30
  unfold Lib.itoa
  split
  · have := digits_len n.natAbs (by omega)
    simp only [List.length_cons]; omega
  · have := digits_len n.toNat (by omega)
    omega
theorem wordR_size (k : Int) : (wordR k).size ≤ 30 := by
  have key : kindWords.all (fun w => decide (w.size ≤ 30)) = true := by decide
  unfold wordR
  by_cases h : k.toNat < kindWords.length
  · rw [getD_in h]
    exact of_decide_eq_true (List.all_eq_true.1 key _ (List.getElem_mem h))
  · rw [getD_out (by omega)]
    decide
theorem wordsR_size (r : Req) (h1 : r.role.size ≤ 1000000) (h2 : r.data.length ≤ 1000000) (h3 : r.text.size ≤ 1000000) (g : Rng r) : ∀ w ∈ wordsR r, w.size ≤ 1000000 := by
  intro w hw
  have e1 := itoaB_size g.id
  have e2 := itoaB_size g.ch
  have e3 := itoaB_size g.rate
  have e4 := itoaB_size g.lat
  have e5 := itoaB_size g.n
  have e6 := itoaB_size (wrap_64 r.dev)
  have e7 := wordR_size r.kind
  have e8 := strOf_size r.data
  unfold wordsR at hw
  rw [List.mem_append] at hw
  rcases hw with hw | hw
  · split at hw <;> simp only [List.mem_cons, List.not_mem_nil, or_false] at hw
    · subst hw; omega
    · rcases hw with rfl | rfl <;> omega
  · repeat' split at hw
    all_goals simp only [List.mem_cons, List.not_mem_nil, or_false] at hw
    all_goals first
      | exact hw.elim
      | (subst hw; first | omega | (split <;> decide) | decide)
      | (rcases hw with rfl | rfl | rfl | rfl | rfl <;> first | omega | decide)

end Go.Proofs.Ytimhjbihhchieaa.Q
