/- Number over V. Conditions: as each states. -/
import Derived.Test.YtimhjbihhchieaaQg
namespace Go.Proofs.Ytimhjbihhchieaa.Q
open Go Go.V
set_option linter.unusedVariables false
set_option linter.unusedSimpArgs false
set_option maxRecDepth 100000
variable {N : Nat} {WL : World}

theorem u8_in {n : Int} (h : 0 ≤ n) (h' : n < 256) : IntKind.u8.wrap n = n := by
  unfold IntKind.wrap
  simp only [IntKind.signed, IntKind.bits]
  simp
  omega
theorem congr2 {α β γ : Type} (f : α → β → γ) {a a' : α} {b b' : β} (h : a = a') (h' : b = b') : f a b = f a' b' := by rw [h, h']

set_option maxHeartbeats 8000000 in
theorem number_s (s : ByteArray) (hs : s.size ≤ 1000000) {v e : Int} (hp : numP s = (v, e)) : Sound P N WL 35 [.lf (vS s)] [] (· = .ret (.tup [vI v, vI e]) []) := by
  refine Sound.of mix [] Go.Proofs.Try.func35 rfl rfl ?_
  unfold numP at hp
  refine vif_split (fun h => ?_) (fun h => ?_) <;> (try rw [h])
  · have h : 0 < s.size := by have := h; simp at this; omega
    refine vand_i (by omega) (fun _ => ?_)
    refine vif_split (fun h2 => ?_) (fun h2 => ?_) <;> (try rw [h2])
    · have h2 : bt s 0 = 45 := by simpa using (show (bt s 0 == 45) = true from h2)
      refine vand_i ⟨by omega, by omega, by omega⟩ (fun _ => ?_)
      have hd : bytesOf (s.extract (Int.toNat 1) (Int.toNat (s.size : Int))) = (bytesOf s).drop 1 := by
        rw [bytesOf_extract, List.take_of_length_le (by rw [bytesOf_length]; simp)]
        rfl
      generalize s.extract (Int.toNat 1) (Int.toNat (s.size : Int)) = d at hd ⊢
      have hds : d.size ≤ s.size := by
        rw [← bytesOf_length d, hd, List.length_drop, bytesOf_length]; omega
      rw [bytes_cons s h, h2] at hp
      change numS true ((bytesOf s).drop 1) = (v, e) at hp
      rw [← hd] at hp
      have hdl : (bytesOf d).length = d.size := bytesOf_length _
      refine vif_split (fun h4 => ?_) (fun h4 => ?_) <;> (try rw [h4])
      · have h4 : d.size = 0 := by
          have h5 : (d.toList == ByteArray.toList ⟨#[]⟩) = true := h4
          rw [size_beq] at h5
          simpa using h5
        rw [(bytesOf_nil_iff _).2 h4] at hp
        refine ends ?_
        cases hp
        exact Eq.refl _
      have h4 : 0 < d.size := by
        have h5 : (d.toList == ByteArray.toList ⟨#[]⟩) = false := h4
        rw [size_beq] at h5
        have : d.size ≠ 0 := by simpa using h5
        omega
      have hcons := drop_cons d 0 h4
      rw [List.drop_zero] at hcons
      rw [hcons, numS_cons] at hp
      have hnil : (bytesOf d).drop (0 + 1) = [] ↔ d.size = 1 := by
        rw [← List.length_eq_zero_iff, List.length_drop, hdl]
        omega
      have hloop : (if (bt d 0 = 48 ∧ ((bytesOf d).drop (0 + 1) ≠ [] ∨ true = true)) then ((0, 5) : Int × Int) else numD true (bytesOf d)) = (v, e) := by
        rw [← hp, hcons]
        rfl
      have go : ¬ (bt d 0 = 48 ∧ ((bytesOf d).drop (0 + 1) ≠ [] ∨ true = true)) → (if (bytesOf d).all digit = true then numEnd true (numLoop (bytesOf d) 0) else (0, 5)) = (v, e) := fun h => by
        rw [if_neg h] at hloop
        exact hloop
      refine vand_i (by omega) (fun _ => ?_)
      refine vif_split (fun h5 => ?_) (fun h5 => ?_) <;> (try rw [h5])
      · have h5 : bt d 0 = 48 := by simpa using (show (bt d 0 == 48) = true from h5)
        refine vif_split (fun h6 => ?_) (fun h6 => ?_) <;> (try rw [h6])
        · have h6 : 1 < d.size := by have := h6; simp at this; omega
          rw [if_pos ⟨h5, .inl fun h => by have := hnil.1 h; omega⟩] at hloop
          refine ends ?_
          cases hloop
          exact Eq.refl _
        · have h6 : d.size = 1 := by have := h6; simp at this; omega
          rw [if_pos ⟨h5, .inr rfl⟩] at hloop
          refine ends ?_
          cases hloop
          exact Eq.refl _
      · have h5 : bt d 0 ≠ 48 := by simpa using (show (bt d 0 == 48) = false from h5)
        have hgo := go (fun h => h5 h.1)
        refine vloop_i [4, 5, 6, 36, 37] [] (fun k r m => ∃ (i : Nat) (n : Int), i + k = d.size ∧ 0 ≤ n ∧ n ≤ 90071992547409929 ∧ (if ((bytesOf d).drop i).all digit = true then numEnd true (numLoop ((bytesOf d).drop i) n) else (0, 5)) = (v, e) ∧
          r = regs 67 [(4, .lf (vB true)), (5, .lf (vS d)), (6, .lf (vI n)), (36, .lf (vI d.size)), (37, .lf (vI i))] ∧ m = []) ⟨d.size, 0, 0, by omega, by omega, by omega, hgo, rfl, rfl⟩ ?_
        rintro k r m ⟨i, n, hk, hn0, hn1, hq, rfl, rfl⟩
        refine vif_split (fun h7 => ?_) (fun h7 => ?_) <;> (try rw [h7])
        · have hlt : i < d.size := by have := h7; simp at this; omega
          have hb := bt_byte d i
          have hk1 : IntKind.i64.wrap ((i : Int) + 1) = ((i + 1 : Nat) : Int) := by rw [wrap_in (by omega) (by omega)]; omega
          rw [drop_cons d i hlt, List.all_cons] at hq
          refine vand_i (by omega) (fun _ => ?_)
          refine vif_split (fun h8 => ?_) (fun h8 => ?_) <;> (try rw [h8])
          · have h8 : bt d i < 48 := by simpa using (show decide (bt d i < 48) = true from h8)
            rw [if_neg (by simp [digit]; omega)] at hq
            refine ends ?_
            cases hq
            exact Eq.refl _
          have h8 : ¬ bt d i < 48 := by simpa using (show decide (bt d i < 48) = false from h8)
          refine vand_i (by omega) (fun _ => ?_)
          refine vif_split (fun h9 => ?_) (fun h9 => ?_) <;> (try rw [h9])
          · have h9 : bt d i > 57 := by simpa using (show decide (bt d i > 57) = true from h9)
            rw [if_neg (by simp [digit]; omega)] at hq
            refine ends ?_
            cases hq
            exact Eq.refl _
          have h9 : ¬ bt d i > 57 := by simpa using (show decide (bt d i > 57) = false from h9)
          have hdg : digit (bt d i) = true := by simp [digit]; omega
          rw [hdg, Bool.true_and, numLoop] at hq
          refine vif_split (fun h10 => ?_) (fun h10 => ?_) <;> (try rw [h10])
          · have h10 : n ≤ 9007199254740992 := by simpa using h10
            rw [if_pos h10] at hq
            refine vand_i (by omega) (fun _ => ?_)
            have hv : IntKind.i64.wrap (IntKind.i64.wrap (10 * n) + IntKind.i64.wrap (IntKind.u8.wrap (bt d i - 48))) = 10 * n + (bt d i - 48) := by
              rw [u8_in (by omega) (by omega), wrap_in (n := 10 * n) (by omega) (by omega), wrap_in (n := bt d i - 48) (by omega) (by omega), wrap_in (by omega) (by omega)]
            exact next_i (k - 1) (by omega) ⟨i + 1, 10 * n + (bt d i - 48), by omega, by omega, by omega, hq,
              congr2 (fun x y => regs 67 [(4, .lf (vB true)), (5, .lf (vS d)), (6, .lf (vI x)), (36, .lf (vI d.size)), (37, .lf (vI y))]) hv hk1, rfl⟩
          · have h10 : ¬ n ≤ 9007199254740992 := by simpa using h10
            rw [if_neg h10] at hq
            exact next_i (k - 1) (by omega) ⟨i + 1, n, by omega, hn0, hn1, hq,
              congrArg (fun y => regs 67 [(4, .lf (vB true)), (5, .lf (vS d)), (6, .lf (vI n)), (36, .lf (vI d.size)), (37, .lf (vI y))]) hk1, rfl⟩
        · have hge : d.size ≤ i := by have := h7; simp at this; omega
          rw [drop_end d i hge, if_pos List.all_nil, numLoop] at hq
          unfold numEnd at hq
          refine vif_split (fun h8 => ?_) (fun h8 => ?_) <;> (try rw [h8])
          · have h8 : n > 9007199254740992 := by simpa using h8
            rw [if_pos h8] at hq
            refine ends ?_
            cases hq
            exact Eq.refl _
          · have h8 : ¬ 9007199254740992 < n := by have := h8; simp at this; omega
            rw [if_neg h8] at hq
            rw [if_pos rfl] at hq
            have hng : IntKind.i64.wrap (0 - n) = -n := by rw [wrap_in (by omega) (by omega)]; omega
            rw [← hng] at hq
            refine ends ?_
            cases hq
            exact Eq.refl _
    · have h2 : bt s 0 ≠ 45 := by simpa using (show (bt s 0 == 45) = false from h2)
      have hp : numS false (bytesOf s) = (v, e) := by
        rw [← hp]
        rw [bytes_cons s h]
        unfold numL
        split
        · rename_i cs heq
          exact absurd (List.cons.inj heq).1 h2
        · rfl
      have hdl : (bytesOf s).length = s.size := bytesOf_length _
      refine vif_split (fun h4 => ?_) (fun h4 => ?_) <;> (try rw [h4])
      · have h4 : s.size = 0 := by
          have h5 : (s.toList == ByteArray.toList ⟨#[]⟩) = true := h4
          rw [size_beq] at h5
          simpa using h5
        rw [(bytesOf_nil_iff _).2 h4] at hp
        refine ends ?_
        cases hp
        exact Eq.refl _
      have h4 : 0 < s.size := by
        have h5 : (s.toList == ByteArray.toList ⟨#[]⟩) = false := h4
        rw [size_beq] at h5
        have : s.size ≠ 0 := by simpa using h5
        omega
      have hcons := drop_cons s 0 h4
      rw [List.drop_zero] at hcons
      rw [hcons, numS_cons] at hp
      have hnil : (bytesOf s).drop (0 + 1) = [] ↔ s.size = 1 := by
        rw [← List.length_eq_zero_iff, List.length_drop, hdl]
        omega
      have hloop : (if (bt s 0 = 48 ∧ ((bytesOf s).drop (0 + 1) ≠ [] ∨ false = true)) then ((0, 5) : Int × Int) else numD false (bytesOf s)) = (v, e) := by
        rw [← hp, hcons]
        rfl
      have go : ¬ (bt s 0 = 48 ∧ ((bytesOf s).drop (0 + 1) ≠ [] ∨ false = true)) → (if (bytesOf s).all digit = true then numEnd false (numLoop (bytesOf s) 0) else (0, 5)) = (v, e) := fun h => by
        rw [if_neg h] at hloop
        exact hloop
      refine vand_i (by omega) (fun _ => ?_)
      refine vif_split (fun h5 => ?_) (fun h5 => ?_) <;> (try rw [h5])
      · have h5 : bt s 0 = 48 := by simpa using (show (bt s 0 == 48) = true from h5)
        refine vif_split (fun h6 => ?_) (fun h6 => ?_) <;> (try rw [h6])
        · have h6 : 1 < s.size := by have := h6; simp at this; omega
          rw [if_pos ⟨h5, .inl fun h => by have := hnil.1 h; omega⟩] at hloop
          refine ends ?_
          cases hloop
          exact Eq.refl _
        · have h6 : s.size = 1 := by have := h6; simp at this; omega
          have hgo := go (fun h => by rcases h.2 with h | h; exact h (hnil.2 h6); cases h)
          refine vloop_i [4, 5, 6, 36, 37] [] (fun k r m => ∃ (i : Nat) (n : Int), i + k = s.size ∧ 0 ≤ n ∧ n ≤ 90071992547409929 ∧ (if ((bytesOf s).drop i).all digit = true then numEnd false (numLoop ((bytesOf s).drop i) n) else (0, 5)) = (v, e) ∧
            r = regs 67 [(4, .lf (vB false)), (5, .lf (vS s)), (6, .lf (vI n)), (36, .lf (vI s.size)), (37, .lf (vI i))] ∧ m = []) ⟨s.size, 0, 0, by omega, by omega, by omega, hgo, rfl, rfl⟩ ?_
          rintro k r m ⟨i, n, hk, hn0, hn1, hq, rfl, rfl⟩
          refine vif_split (fun h7 => ?_) (fun h7 => ?_) <;> (try rw [h7])
          · have hlt : i < s.size := by have := h7; simp at this; omega
            have hb := bt_byte s i
            have hk1 : IntKind.i64.wrap ((i : Int) + 1) = ((i + 1 : Nat) : Int) := by rw [wrap_in (by omega) (by omega)]; omega
            rw [drop_cons s i hlt, List.all_cons] at hq
            refine vand_i (by omega) (fun _ => ?_)
            refine vif_split (fun h8 => ?_) (fun h8 => ?_) <;> (try rw [h8])
            · have h8 : bt s i < 48 := by simpa using (show decide (bt s i < 48) = true from h8)
              rw [if_neg (by simp [digit]; omega)] at hq
              refine ends ?_
              cases hq
              exact Eq.refl _
            have h8 : ¬ bt s i < 48 := by simpa using (show decide (bt s i < 48) = false from h8)
            refine vand_i (by omega) (fun _ => ?_)
            refine vif_split (fun h9 => ?_) (fun h9 => ?_) <;> (try rw [h9])
            · have h9 : bt s i > 57 := by simpa using (show decide (bt s i > 57) = true from h9)
              rw [if_neg (by simp [digit]; omega)] at hq
              refine ends ?_
              cases hq
              exact Eq.refl _
            have h9 : ¬ bt s i > 57 := by simpa using (show decide (bt s i > 57) = false from h9)
            have hdg : digit (bt s i) = true := by simp [digit]; omega
            rw [hdg, Bool.true_and, numLoop] at hq
            refine vif_split (fun h10 => ?_) (fun h10 => ?_) <;> (try rw [h10])
            · have h10 : n ≤ 9007199254740992 := by simpa using h10
              rw [if_pos h10] at hq
              refine vand_i (by omega) (fun _ => ?_)
              have hv : IntKind.i64.wrap (IntKind.i64.wrap (10 * n) + IntKind.i64.wrap (IntKind.u8.wrap (bt s i - 48))) = 10 * n + (bt s i - 48) := by
                rw [u8_in (by omega) (by omega), wrap_in (n := 10 * n) (by omega) (by omega), wrap_in (n := bt s i - 48) (by omega) (by omega), wrap_in (by omega) (by omega)]
              exact next_i (k - 1) (by omega) ⟨i + 1, 10 * n + (bt s i - 48), by omega, by omega, by omega, hq,
                congr2 (fun x y => regs 67 [(4, .lf (vB false)), (5, .lf (vS s)), (6, .lf (vI x)), (36, .lf (vI s.size)), (37, .lf (vI y))]) hv hk1, rfl⟩
            · have h10 : ¬ n ≤ 9007199254740992 := by simpa using h10
              rw [if_neg h10] at hq
              exact next_i (k - 1) (by omega) ⟨i + 1, n, by omega, hn0, hn1, hq,
                congrArg (fun y => regs 67 [(4, .lf (vB false)), (5, .lf (vS s)), (6, .lf (vI n)), (36, .lf (vI s.size)), (37, .lf (vI y))]) hk1, rfl⟩
          · have hge : s.size ≤ i := by have := h7; simp at this; omega
            rw [drop_end s i hge, if_pos List.all_nil, numLoop] at hq
            unfold numEnd at hq
            refine vif_split (fun h8 => ?_) (fun h8 => ?_) <;> (try rw [h8])
            · have h8 : n > 9007199254740992 := by simpa using h8
              rw [if_pos h8] at hq
              refine ends ?_
              cases hq
              exact Eq.refl _
            · have h8 : ¬ 9007199254740992 < n := by have := h8; simp at this; omega
              rw [if_neg h8] at hq
              rw [if_neg (by simp)] at hq
              refine ends ?_
              cases hq
              exact Eq.refl _
      · have h5 : bt s 0 ≠ 48 := by simpa using (show (bt s 0 == 48) = false from h5)
        have hgo := go (fun h => h5 h.1)
        refine vloop_i [4, 5, 6, 36, 37] [] (fun k r m => ∃ (i : Nat) (n : Int), i + k = s.size ∧ 0 ≤ n ∧ n ≤ 90071992547409929 ∧ (if ((bytesOf s).drop i).all digit = true then numEnd false (numLoop ((bytesOf s).drop i) n) else (0, 5)) = (v, e) ∧
          r = regs 67 [(4, .lf (vB false)), (5, .lf (vS s)), (6, .lf (vI n)), (36, .lf (vI s.size)), (37, .lf (vI i))] ∧ m = []) ⟨s.size, 0, 0, by omega, by omega, by omega, hgo, rfl, rfl⟩ ?_
        rintro k r m ⟨i, n, hk, hn0, hn1, hq, rfl, rfl⟩
        refine vif_split (fun h7 => ?_) (fun h7 => ?_) <;> (try rw [h7])
        · have hlt : i < s.size := by have := h7; simp at this; omega
          have hb := bt_byte s i
          have hk1 : IntKind.i64.wrap ((i : Int) + 1) = ((i + 1 : Nat) : Int) := by rw [wrap_in (by omega) (by omega)]; omega
          rw [drop_cons s i hlt, List.all_cons] at hq
          refine vand_i (by omega) (fun _ => ?_)
          refine vif_split (fun h8 => ?_) (fun h8 => ?_) <;> (try rw [h8])
          · have h8 : bt s i < 48 := by simpa using (show decide (bt s i < 48) = true from h8)
            rw [if_neg (by simp [digit]; omega)] at hq
            refine ends ?_
            cases hq
            exact Eq.refl _
          have h8 : ¬ bt s i < 48 := by simpa using (show decide (bt s i < 48) = false from h8)
          refine vand_i (by omega) (fun _ => ?_)
          refine vif_split (fun h9 => ?_) (fun h9 => ?_) <;> (try rw [h9])
          · have h9 : bt s i > 57 := by simpa using (show decide (bt s i > 57) = true from h9)
            rw [if_neg (by simp [digit]; omega)] at hq
            refine ends ?_
            cases hq
            exact Eq.refl _
          have h9 : ¬ bt s i > 57 := by simpa using (show decide (bt s i > 57) = false from h9)
          have hdg : digit (bt s i) = true := by simp [digit]; omega
          rw [hdg, Bool.true_and, numLoop] at hq
          refine vif_split (fun h10 => ?_) (fun h10 => ?_) <;> (try rw [h10])
          · have h10 : n ≤ 9007199254740992 := by simpa using h10
            rw [if_pos h10] at hq
            refine vand_i (by omega) (fun _ => ?_)
            have hv : IntKind.i64.wrap (IntKind.i64.wrap (10 * n) + IntKind.i64.wrap (IntKind.u8.wrap (bt s i - 48))) = 10 * n + (bt s i - 48) := by
              rw [u8_in (by omega) (by omega), wrap_in (n := 10 * n) (by omega) (by omega), wrap_in (n := bt s i - 48) (by omega) (by omega), wrap_in (by omega) (by omega)]
            exact next_i (k - 1) (by omega) ⟨i + 1, 10 * n + (bt s i - 48), by omega, by omega, by omega, hq,
              congr2 (fun x y => regs 67 [(4, .lf (vB false)), (5, .lf (vS s)), (6, .lf (vI x)), (36, .lf (vI s.size)), (37, .lf (vI y))]) hv hk1, rfl⟩
          · have h10 : ¬ n ≤ 9007199254740992 := by simpa using h10
            rw [if_neg h10] at hq
            exact next_i (k - 1) (by omega) ⟨i + 1, n, by omega, hn0, hn1, hq,
              congrArg (fun y => regs 67 [(4, .lf (vB false)), (5, .lf (vS s)), (6, .lf (vI n)), (36, .lf (vI s.size)), (37, .lf (vI y))]) hk1, rfl⟩
        · have hge : s.size ≤ i := by have := h7; simp at this; omega
          rw [drop_end s i hge, if_pos List.all_nil, numLoop] at hq
          unfold numEnd at hq
          refine vif_split (fun h8 => ?_) (fun h8 => ?_) <;> (try rw [h8])
          · have h8 : n > 9007199254740992 := by simpa using h8
            rw [if_pos h8] at hq
            refine ends ?_
            cases hq
            exact Eq.refl _
          · have h8 : ¬ 9007199254740992 < n := by have := h8; simp at this; omega
            rw [if_neg h8] at hq
            rw [if_neg (by simp)] at hq
            refine ends ?_
            cases hq
            exact Eq.refl _
  · have h : s.size = 0 := by have := of_decide_eq_false h; omega
    have hp : numS false (bytesOf s) = (v, e) := by
      rw [← hp, (bytesOf_nil_iff _).2 h]
      rfl
    refine vif_split (fun h4 => ?_) (fun h4 => ?_) <;> (try rw [h4])
    · rw [(bytesOf_nil_iff _).2 h] at hp
      refine ends ?_
      cases hp
      exact Eq.refl _
    · have h5 : (s.toList == ByteArray.toList ⟨#[]⟩) = false := h4
      rw [size_beq] at h5
      simp [h] at h5

end Go.Proofs.Ytimhjbihhchieaa.Q
