/- Numbers come from their strings alone; which requests words are. Conditions: as each states. -/
import Derived.Test.YtimhjbihhchieaaQx
namespace Go.Proofs.Ytimhjbihhchieaa.Q
open Go Go.V
set_option linter.unusedVariables false
set_option linter.unusedSimpArgs false
set_option maxRecDepth 100000

theorem loop_nonneg {l : List Int} (h : l.all digit = true) : 0 ≤ numLoop l 0 := (numLoop_range l 0 h (by omega) (by omega)).1
theorem loop_canon : ∀ (n : Nat) (l : List Int), l.length = n → l.all digit = true → l ≠ [] → (l.head? = some 48 → l.length = 1) → numLoop l 0 ≤ 9007199254740992 → l = numsOf (Lib.decDigits (numLoop l 0).toNat) := by
  intro n
  induction n with
  | zero => intro l hl _ hne; exact absurd (List.length_eq_zero_iff.1 hl) hne
  | succ n ih =>
    intro l hl hd hne hh hle
    rcases List.eq_nil_or_concat l with rfl | ⟨L, d, rfl⟩
    · exact absurd rfl hne
    rw [List.concat_eq_append] at hl hd hne hh hle ⊢
    have hd' : L.all digit = true ∧ digit d = true := by simpa using hd
    have hdd : 48 ≤ d ∧ d ≤ 57 := by simpa [digit] using hd'.2
    rw [numLoop_append] at hle ⊢
    have h0 := loop_nonneg hd'.1
    by_cases hL : L = []
    · subst hL
      have e0 : numLoop [d] (numLoop [] 0) = d - 48 := by
        show (if (0 : Int) ≤ 9007199254740992 then 10 * 0 + (d - 48) else 0) = d - 48
        rw [if_pos (by omega)]
        omega
      rw [e0, Lib.decDigits_one (by omega)]
      simp only [numsOf, List.map_cons, List.map_nil, List.nil_append, UInt8.toNat_ofNat']
      congr 1
      omega
    · have hlen : L.length = n := by simp at hl; exact hl
      have hhead : L.head? ≠ some 48 := by
        intro e
        have : (L ++ [d]).head? = some 48 := by
          cases L with
          | nil => exact absurd rfl hL
          | cons x L => simpa using e
        have := hh this
        have : L.length = 0 := by simpa using this
        exact hL (List.length_eq_zero_iff.1 this)
      have hm : numLoop L 0 ≤ 9007199254740992 := by
        simp only [numLoop] at hle
        split at hle
        · assumption
        · exact hle
      have ihL := ih L hlen hd'.1 hL (fun e => absurd e hhead) hm
      have hpos : 0 < numLoop L 0 := by
        rcases Int.lt_or_eq_of_le h0 with h | h
        · exact h
        · rw [← h] at ihL
          rw [show (0 : Int).toNat = 0 from rfl, Lib.decDigits_one (by omega)] at ihL
          rw [ihL] at hhead
          exact absurd rfl hhead
      simp only [numLoop]
      rw [if_pos hm]
      have e1 : (10 * numLoop L 0 + (d - 48)).toNat / 10 = (numLoop L 0).toNat := by omega
      have e2 : (10 * numLoop L 0 + (d - 48)).toNat % 10 = (d - 48).toNat := by omega
      rw [Lib.decDigits, dif_neg (by omega), e1, e2, numsOf_append, ← ihL]
      congr 1
      simp only [numsOf, List.map_cons, List.map_nil, UInt8.toNat_ofNat']
      congr 1
      omega

theorem numS_canon {neg : Bool} {l : List Int} {n : Int} (h : numS neg l = (n, 0)) : ∃ u : Nat, n = (if neg = true then -(u : Int) else u) ∧ l = numsOf (Lib.decDigits u) ∧ u ≤ 9007199254740992 ∧ (neg = true → 0 < u) := by
  unfold numS at h
  split at h
  · simp at h
  · rename_i c cs
    split at h
    · simp at h
    · rename_i hc
      unfold numD at h
      split at h
      · rename_i hd
        unfold numEnd at h
        split at h
        · simp at h
        · rename_i hle
          have h0 := loop_nonneg hd
          have hcan := loop_canon _ (c :: cs) rfl hd (by simp) (fun e => by
            simp only [List.head?_cons, Option.some.injEq] at e
            have : cs = [] := Classical.byContradiction fun hn => hc ⟨e, .inl hn⟩
            simp [this]) (by omega)
          refine ⟨(numLoop (c :: cs) 0).toNat, ?_, hcan, by omega, fun hn => ?_⟩
          · split at h
            · rename_i hn; simp only [Prod.mk.injEq] at h; simp only [hn, if_true]; omega
            · rename_i hn; simp only [Prod.mk.injEq] at h; simp only [hn, if_false]; simp; omega
          · apply Nat.pos_of_ne_zero
            intro e
            rw [e, Lib.decDigits_one (by omega)] at hcan
            have : c = 48 := by
              have := congrArg List.head? hcan
              simpa [numsOf] using this
            exact hc ⟨this, .inr hn⟩
      · simp at h

theorem num_canon {w : ByteArray} {n : Int} (h : numP w = (n, 0)) : itoaB n = w ∧ -9007199254740992 ≤ n ∧ n ≤ 9007199254740992 := by
  unfold numP numL at h
  split at h
  · rename_i cs hw
    obtain ⟨u, rfl, hcs, hu, hpos⟩ := numS_canon h
    have hpos := hpos rfl
    simp only [if_true] at *
    refine ⟨bytesOf_inj ?_, by omega, by omega⟩
    rw [hw, hcs]
    show bytesOf ⟨(Lib.itoa (-(u : Int))).toArray⟩ = _
    rw [bytesOf_mk]
    unfold Lib.itoa
    rw [if_pos (by omega), show (-(u : Int)).natAbs = u by omega]
    rfl
  · obtain ⟨u, rfl, hcs, hu, -⟩ := numS_canon h
    simp only [Bool.false_eq_true, if_false] at *
    refine ⟨bytesOf_inj ?_, by omega, by omega⟩
    rw [hcs]
    show bytesOf ⟨(Lib.itoa (u : Int)).toArray⟩ = _
    rw [bytesOf_mk]
    unfold Lib.itoa
    rw [if_neg (by omega)]
    rfl

end Go.Proofs.Ytimhjbihhchieaa.Q
