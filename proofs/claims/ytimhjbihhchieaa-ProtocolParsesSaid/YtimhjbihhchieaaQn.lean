/- The reference's Format over V. Conditions: as each states. -/
import Derived.Test.YtimhjbihhchieaaQm
namespace Go.Proofs.Ytimhjbihhchieaa.Q
open Go Go.V
set_option linter.unusedVariables false
set_option linter.unusedSimpArgs false
set_option maxRecDepth 100000
variable {N : Nat} {WL : World}

set_option maxHeartbeats 8000000 in
theorem format02_s (n : Int) (hn0 : -9223372036854775808 ≤ n) (hn1 : n ≤ 9223372036854775807) : Sound P N WL 30 [.lf (vI n)] [] (· = .ret (.lf (vS ⟨(Lib.itoa n).toArray⟩)) []) := by
  refine Sound.of mix [] Go.Proofs.Try.func30 rfl rfl ?_
  refine vif_split (fun h => ?_) (fun h => ?_) <;> (try rw [h])
  · have hn : n < 0 := of_decide_eq_true h
    have hu : IntKind.u64.wrap (0 - IntKind.u64.wrap n) = ((n.natAbs : Nat) : Int) := by rw [u64_wrap, u64_wrap]; omega
    have h0 : (⟨#[45]⟩ : ByteArray) ++ ⟨(Lib.decDigits n.natAbs ++ []).toArray⟩ = ⟨(Lib.itoa n).toArray⟩ := by
      rw [List.append_nil]
      apply ba_ext
      rw [ByteArray.data_append, Array.toList_append]
      unfold Lib.itoa
      rw [if_pos hn]
      rfl
    refine vloop_i [3, 4, 5] [] (fun k r m => ∃ (u : Nat) (x : List UInt8), u = k ∧ u < 18446744073709551616 ∧ (Lib.decDigits u ++ x).length ≤ 100 ∧ (⟨#[45]⟩ : ByteArray) ++ ⟨(Lib.decDigits u ++ x).toArray⟩ = ⟨(Lib.itoa n).toArray⟩ ∧
      r = regs 28 [(3, .lf (vU u)), (4, .lf (vS ⟨#[45]⟩)), (5, .lf (vS ⟨x.toArray⟩))] ∧ m = []) ⟨n.natAbs, n.natAbs, [], rfl, by omega, by rw [List.append_nil]; have := digits_len n.natAbs (by omega); omega, h0, congrArg (fun y => regs 28 [(3, .lf (vU y)), (4, .lf (vS ⟨#[45]⟩)), (5, .lf (vS ⟨#[]⟩))]) hu, rfl⟩ ?_
    rintro k r m ⟨u, x, rfl, hul, hx, hq, rfl, rfl⟩
    have hs1 : strOfNums [IntKind.u8.wrap (IntKind.u64.wrap (48 + (Int.tmod (u : Int) 10)))] ++ (⟨x.toArray⟩ : ByteArray) = ⟨(UInt8.ofNat (48 + u % 10) :: x).toArray⟩ := by
      have e : IntKind.u8.wrap (IntKind.u64.wrap (48 + (Int.tmod (u : Int) 10))) = ((48 + u % 10 : Nat) : Int) := by
        rw [Int.tmod_eq_emod_of_nonneg (by omega), u64_id _ (by omega) (by omega), u8_in (by omega) (by omega)]
        omega
      rw [e]
      apply ba_ext
      rw [ByteArray.data_append, Array.toList_append]
      simp only [strOfNums, List.map_cons, List.map_nil, Int.toNat_natCast]
      rfl
    have hdiv : IntKind.u64.wrap (Int.tdiv (u : Int) 10) = ((u / 10 : Nat) : Int) := by
      rw [Int.tdiv_eq_ediv_of_nonneg (by omega), u64_id _ (by omega) (by omega)]
      omega
    have hdec : Lib.decDigits u ++ x = if u < 10 then UInt8.ofNat (48 + u % 10) :: x else Lib.decDigits (u / 10) ++ (UInt8.ofNat (48 + u % 10) :: x) := by
      rw [Lib.decDigits]
      split
      · rw [show u % 10 = u by omega]; rfl
      · simp
    have hxl : x.length ≤ 100 := by rw [List.length_append] at hx; omega
    rw [hdec] at hx hq
    refine vand_i (by decide) (fun _ => ?_)
    refine vand_i (show (strOfNums [IntKind.u8.wrap (IntKind.u64.wrap (48 + (Int.tmod (u : Int) 10)))]).size + (⟨x.toArray⟩ : ByteArray).size ≤ 9223372036854775807 by
      have e1 : (⟨x.toArray⟩ : ByteArray).size = x.length := rfl
      rw [strOf_size, e1]; simp; omega) (fun _ => ?_)
    erw [hs1]
    refine vand_i (by decide) (fun _ => ?_)
    rw [hdiv]
    refine vif_split (fun h3 => ?_) (fun h3 => ?_) <;> (try rw [h3])
    · have h3 : (((u / 10 : Nat) : Int) == 0) = true := h3
      have h10 : u < 10 := by have := beq_iff_eq.1 h3; omega
      rw [if_pos h10] at hq
      refine vand_i (show (⟨#[45]⟩ : ByteArray).size + (⟨(UInt8.ofNat (48 + u % 10) :: x).toArray⟩ : ByteArray).size ≤ 9223372036854775807 by
        have e1 : (⟨(UInt8.ofNat (48 + u % 10) :: x).toArray⟩ : ByteArray).size = x.length + 1 := rfl
        have e2 : (⟨#[45]⟩ : ByteArray).size ≤ 1 := by decide
        rw [e1]; omega) (fun _ => ?_)
      exact ends (ret1 (aS hq))
    · have h3 : (((u / 10 : Nat) : Int) == 0) = false := h3
      have h10 : ¬ u < 10 := by have := beq_eq_false_iff_ne.1 h3; omega
      rw [if_neg h10] at hq hx
      exact next_i (u / 10) (by omega) ⟨u / 10, UInt8.ofNat (48 + u % 10) :: x, rfl, by omega, hx, hq, rfl, rfl⟩
  · have hn : ¬ n < 0 := of_decide_eq_false h
    have hu : IntKind.u64.wrap n = ((n.toNat : Nat) : Int) := by rw [u64_wrap]; omega
    have h0 : (⟨#[]⟩ : ByteArray) ++ ⟨(Lib.decDigits n.toNat ++ []).toArray⟩ = ⟨(Lib.itoa n).toArray⟩ := by
      rw [List.append_nil]
      apply ba_ext
      rw [ByteArray.data_append, Array.toList_append]
      unfold Lib.itoa
      rw [if_neg hn]
      rfl
    refine vloop_i [3, 4, 5] [] (fun k r m => ∃ (u : Nat) (x : List UInt8), u = k ∧ u < 18446744073709551616 ∧ (Lib.decDigits u ++ x).length ≤ 100 ∧ (⟨#[]⟩ : ByteArray) ++ ⟨(Lib.decDigits u ++ x).toArray⟩ = ⟨(Lib.itoa n).toArray⟩ ∧
      r = regs 28 [(3, .lf (vU u)), (4, .lf (vS ⟨#[]⟩)), (5, .lf (vS ⟨x.toArray⟩))] ∧ m = []) ⟨n.toNat, n.toNat, [], rfl, by omega, by rw [List.append_nil]; have := digits_len n.toNat (by omega); omega, h0, congrArg (fun y => regs 28 [(3, .lf (vU y)), (4, .lf (vS ⟨#[]⟩)), (5, .lf (vS ⟨#[]⟩))]) hu, rfl⟩ ?_
    rintro k r m ⟨u, x, rfl, hul, hx, hq, rfl, rfl⟩
    have hs1 : strOfNums [IntKind.u8.wrap (IntKind.u64.wrap (48 + (Int.tmod (u : Int) 10)))] ++ (⟨x.toArray⟩ : ByteArray) = ⟨(UInt8.ofNat (48 + u % 10) :: x).toArray⟩ := by
      have e : IntKind.u8.wrap (IntKind.u64.wrap (48 + (Int.tmod (u : Int) 10))) = ((48 + u % 10 : Nat) : Int) := by
        rw [Int.tmod_eq_emod_of_nonneg (by omega), u64_id _ (by omega) (by omega), u8_in (by omega) (by omega)]
        omega
      rw [e]
      apply ba_ext
      rw [ByteArray.data_append, Array.toList_append]
      simp only [strOfNums, List.map_cons, List.map_nil, Int.toNat_natCast]
      rfl
    have hdiv : IntKind.u64.wrap (Int.tdiv (u : Int) 10) = ((u / 10 : Nat) : Int) := by
      rw [Int.tdiv_eq_ediv_of_nonneg (by omega), u64_id _ (by omega) (by omega)]
      omega
    have hdec : Lib.decDigits u ++ x = if u < 10 then UInt8.ofNat (48 + u % 10) :: x else Lib.decDigits (u / 10) ++ (UInt8.ofNat (48 + u % 10) :: x) := by
      rw [Lib.decDigits]
      split
      · rw [show u % 10 = u by omega]; rfl
      · simp
    have hxl : x.length ≤ 100 := by rw [List.length_append] at hx; omega
    rw [hdec] at hx hq
    refine vand_i (by decide) (fun _ => ?_)
    refine vand_i (show (strOfNums [IntKind.u8.wrap (IntKind.u64.wrap (48 + (Int.tmod (u : Int) 10)))]).size + (⟨x.toArray⟩ : ByteArray).size ≤ 9223372036854775807 by
      have e1 : (⟨x.toArray⟩ : ByteArray).size = x.length := rfl
      rw [strOf_size, e1]; simp; omega) (fun _ => ?_)
    erw [hs1]
    refine vand_i (by decide) (fun _ => ?_)
    rw [hdiv]
    refine vif_split (fun h3 => ?_) (fun h3 => ?_) <;> (try rw [h3])
    · have h3 : (((u / 10 : Nat) : Int) == 0) = true := h3
      have h10 : u < 10 := by have := beq_iff_eq.1 h3; omega
      rw [if_pos h10] at hq
      refine vand_i (show (⟨#[]⟩ : ByteArray).size + (⟨(UInt8.ofNat (48 + u % 10) :: x).toArray⟩ : ByteArray).size ≤ 9223372036854775807 by
        have e1 : (⟨(UInt8.ofNat (48 + u % 10) :: x).toArray⟩ : ByteArray).size = x.length + 1 := rfl
        have e2 : (⟨#[]⟩ : ByteArray).size ≤ 1 := by decide
        rw [e1]; omega) (fun _ => ?_)
      exact ends (ret1 (aS hq))
    · have h3 : (((u / 10 : Nat) : Int) == 0) = false := h3
      have h10 : ¬ u < 10 := by have := beq_eq_false_iff_ne.1 h3; omega
      rw [if_neg h10] at hq hx
      exact next_i (u / 10) (by omega) ⟨u / 10, UInt8.ofNat (48 + u % 10) :: x, rfl, by omega, hx, hq, rfl, rfl⟩

end Go.Proofs.Ytimhjbihhchieaa.Q
