/- Requests out of lists of numbers, over V. Conditions: as each states. -/
import Derived.Test.YtimhjbihhchieaaQx
namespace Go.Proofs.Ytimhjbihhchieaa.Q
open Go Go.V
set_option linter.unusedVariables false
set_option linter.unusedSimpArgs false
set_option maxRecDepth 100000
variable {N : Nat} {WL : World}

abbrev deck (L : List Int) (p : Nat) : Mem := [(1000, [vIs L, vI p])]

theorem new_s (L : List Int) : Sound P N WL 7 [.lf (vIs L)] [] (· = .ret (.lf (.ptr 2000 0)) [(2000, [vIs L, vI 0])]) := by
  refine Sound.of mix [1005] Go.Proofs.Try.func7 rfl rfl ?_
  refine ends ?_
  exact Eq.refl _

theorem left_s (L : List Int) (p : Nat) : Sound P N WL 31 [.lf (.ptr 1000 0)] (deck L p) (· = .ret (.lf (vB (decide ((p : Int) < (L.length : Int))))) (deck L p)) := by
  refine Sound.of mix [] Go.Proofs.Try.func31 rfl rfl ?_
  refine draw_i true [] [(0, 1), (1, 1), (2, 1), (3, 1), (4, 1), (5, 1), (6, 1), (7, 1), (8, 1), (9, 1), (10, 0)] (by decide +kernel) ?_
  refine ends ?_
  exact Eq.refl _

set_option maxHeartbeats 4000000 in
theorem next_s (L : List Int) (hL : L.length ≤ 4611686018427387904) (p : Nat) (n : Int) (h0 : 0 < n) (h1 : n ≤ 4611686018427387904) : Sound P N WL 17 [.lf (.ptr 1000 0), .lf (vI n)] (deck L p)
    (fun o => ∃ (v : Int) (q : Nat), 0 ≤ v ∧ v < n ∧ o = .ret (.lf (vI v)) (deck L q)) := by
  refine Sound.of mix [] Go.Proofs.Try.func17 rfl rfl ?_
  refine vcall_intro [1000] [] (and_i (left_s L p) ?_)
  rintro o rfl
  refine vif_split (fun h => ?_) (fun h => ?_) <;> (try rw [h])
  · exact ⟨0, p, by omega, h0, rfl⟩
  · have h : (!decide ((p : Int) < (L.length : Int))) = false := h
    have hlt : p < L.length := by simp at h; omega
    have e1 : IntKind.i64.wrap ((p : Int) + 1) = ((p + 1 : Nat) : Int) := by rw [wrap_in (by omega) (by omega)]; omega
    have e2 : IntKind.i64.wrap (IntKind.i64.wrap ((p : Int) + 1) - 1) = (p : Int) := by rw [e1, wrap_in (by omega) (by omega)]; omega
    refine draw_i false [] [(0, 1), (1, 1), (2, 1), (3, 1), (4, 1), (5, 1), (6, 1), (7, 1), (8, 1), (9, 1), (10, 1), (11, 1), (12, 0), (13, 0)] (by decide +kernel) ?_
    refine vand_i (show (0 : Int) ≤ IntKind.i64.wrap (IntKind.i64.wrap ((p : Int) + 1) - 1) ∧ IntKind.i64.wrap (IntKind.i64.wrap ((p : Int) + 1) - 1) < (L.length : Int) by rw [e2]; omega) (fun _ => ?_)
    refine vcall_intro [] [] (and_i (mod_s _ n h0 h1) ?_)
    rintro o rfl
    refine ⟨mod (List.getD L (IntKind.i64.wrap (IntKind.i64.wrap ((p : Int) + 1) - 1)).toNat 0) n, p + 1, (mod_in h0).1, (mod_in h0).2, ?_⟩
    refine ends ?_
    rw [show deck L (p + 1) = [(1000, [vIs L, vI (IntKind.i64.wrap ((p : Int) + 1))])] by rw [e1]]
    rfl

theorem range_s (L : List Int) (hL : L.length ≤ 4611686018427387904) (p : Nat) (lo hi : Int) (h0 : 0 ≤ lo) (h1 : lo ≤ hi) (h2 : hi ≤ 2305843009213693952) : Sound P N WL 15 [.lf (.ptr 1000 0), .lf (vI lo), .lf (vI hi)] (deck L p)
    (fun o => ∃ (v : Int) (q : Nat), lo ≤ v ∧ v ≤ hi ∧ o = .ret (.lf (vI v)) (deck L q)) := by
  refine Sound.of mix [] Go.Proofs.Try.func15 rfl rfl ?_
  have e1 : IntKind.i64.wrap (IntKind.i64.wrap (hi - lo) + 1) = hi - lo + 1 := by rw [wrap_in (n := hi - lo) (by omega) (by omega), wrap_in (by omega) (by omega)]
  refine vcall_intro [1000] [] (and_i (next_s L hL p _ (by rw [e1]; omega) (by rw [e1]; omega)) ?_)
  rintro o ⟨v, q, hv0, hv1, rfl⟩
  rw [e1] at hv1
  have e2 : IntKind.i64.wrap (lo + v) = lo + v := wrap_in (by omega) (by omega)
  exact ⟨IntKind.i64.wrap (lo + v), q, by rw [e2]; omega, by rw [e2]; omega, Eq.refl _⟩

def roles : List ByteArray := [⟨#[109, 117, 115, 105, 99]⟩, ⟨#[118, 111, 105, 99, 101]⟩, ⟨#[97, 108, 97, 114, 109]⟩, ⟨#[103, 97, 109, 101]⟩]
theorem role_s (L : List Int) (hL : L.length ≤ 4611686018427387904) (p : Nat) : Sound P N WL 16 [.lf (.ptr 1000 0)] (deck L p)
    (fun o => ∃ (w : ByteArray) (q : Nat), w ∈ roles ∧ o = .ret (.lf (vS w)) (deck L q)) := by
  refine Sound.of mix [] Go.Proofs.Try.func16 rfl rfl ?_
  refine vcall_intro [1000] [] (and_i (next_s L hL p 4 (by decide) (by decide)) ?_)
  rintro o ⟨v, q, hv0, hv1, rfl⟩
  refine vand_i (show (0 : Int) ≤ v ∧ v < (4 : Int) by omega) (fun _ => ?_)
  refine ⟨roles.getD v.toNat ByteArray.empty, q, ?_, ?_⟩
  · have h4 : v.toNat < roles.length := by have : roles.length = 4 := rfl; omega
    rw [show roles.getD v.toNat ByteArray.empty = roles[v.toNat] by simp [List.getD, h4]]
    exact List.getElem_mem h4
  · refine ends ?_
    exact Eq.refl _

theorem roles_ok {w : ByteArray} (h : w ∈ roles) : nameP w = true ∧ w.size ≤ 10 := by
  simp only [roles, List.mem_cons, List.not_mem_nil, or_false] at h
  rcases h with rfl | rfl | rfl | rfl <;> exact ⟨by decide +kernel, by decide⟩

def texts : List ByteArray := [⟨#[]⟩, ⟨#[114, 111, 117, 116, 101, 32, 97, 110, 121, 32, 104, 101, 97, 100, 115, 101, 116, 10]⟩, ⟨#[100, 117, 99, 107, 32, 109, 117, 115, 105, 99, 32, 50, 48, 32, 119, 104, 101, 110, 32, 97, 99, 116, 105, 118, 101, 32, 118, 111, 105, 99, 101, 10]⟩, ⟨#[109, 117, 116, 101, 32, 103, 97, 109, 101, 10, 114, 111, 117, 116, 101, 32, 118, 111, 105, 99, 101, 32, 115, 112, 101, 97, 107, 101, 114]⟩, ⟨#[114, 111, 117, 116, 101, 32, 109, 117, 115, 105, 99]⟩, ⟨#[35, 32, 110, 111, 110, 101, 10, 10, 100, 117, 99, 107, 32, 97, 110, 121, 32, 53, 48, 32, 119, 104, 101, 110, 32, 110, 111, 116, 32, 112, 114, 101, 115, 101, 110, 116, 32, 109, 105, 99]⟩]

/-- what the mill's requests are like -/
structure Milled (r : Req) : Prop where
  valid : validR r = true
  byte : InR r.data
  data : r.data.length ≤ 80
  role : r.role.size ≤ 10
  text : r.text.size ≤ 100

theorem three {a b c : Int} {v : Int} (h0 : 0 ≤ v) (h1 : v < 3) (lo hi : Int) (ha : lo ≤ a ∧ a ≤ hi) (hb : lo ≤ b ∧ b ≤ hi) (hc : lo ≤ c ∧ c ≤ hi) : lo ≤ List.getD [a, b, c] v.toNat 0 ∧ List.getD [a, b, c] v.toNat 0 ≤ hi := by
  have : v = 0 ∨ v = 1 ∨ v = 2 := by omega
  rcases this with rfl | rfl | rfl
  · exact ha
  · exact hb
  · exact hc
theorem texts_ok {v : Int} (h0 : 0 ≤ v) (h1 : v < 6) : (List.getD texts v.toNat ByteArray.empty).size ≤ 100 := by
  have : v = 0 ∨ v = 1 ∨ v = 2 ∨ v = 3 ∨ v = 4 ∨ v = 5 := by omega
  rcases this with rfl | rfl | rfl | rfl | rfl | rfl <;> decide
theorem dir_ok {v : Int} (h0 : 0 ≤ v) (h1 : v < 4) : IntKind.i64.wrap (1 + IntKind.i64.wrap (v.tdiv 3)) = 1 ∨ IntKind.i64.wrap (1 + IntKind.i64.wrap (v.tdiv 3)) = 2 := by
  have : v = 0 ∨ v = 1 ∨ v = 2 ∨ v = 3 := by omega
  rcases this with rfl | rfl | rfl | rfl <;> decide
theorem milled_of {r : Req} (h : InR r.data) (h1 : (1 ≤ r.kind ∧ r.kind ≤ 12) ∧ r = cleanR r ∧ (r.kind = 11 ∨ r.kind = 12 ∨ 1 ≤ r.id ∧ r.id ≤ 9007199254740992) ∧ fieldsR r = true) (h2 : r.data.length ≤ 80) (h3 : r.role.size ≤ 10) (h4 : r.text.size ≤ 100) : Milled r :=
  ⟨(validR_iff h).2 h1, h, h2, h3, h4⟩

set_option maxHeartbeats 16000000 in
theorem request_a (L : List Int) (hL : L.length ≤ 4611686018427387904) (p : Nat) : Sound P N WL 6 [.lf (.ptr 1000 0)] (deck L p)
    (fun o => ∃ (q : Req) (p' : Nat), Milled q ∧ o = .ret (.lf q.v) (deck L p')) := by
  refine Sound.of mix [] Go.Proofs.Try.func6 rfl rfl ?_
  refine vcall_intro [1000] [] (and_i (range_s L hL p 1 12 (by decide) (by decide) (by decide)) ?_)
  rintro o ⟨k, p1, hk0, hk1, rfl⟩
  by_cases h1 : k = 1
  · repeat' (refine vif_split (fun h => ?_) (fun h => ?_) <;> (try rw [h]) <;> (try simp only [beq_iff_eq, beq_eq_false_iff_ne, bne_iff_ne, bne_eq_false_iff_eq, ne_eq] at h) <;> (try (exfalso; omega)))
    refine vcall_intro [1000] [] (and_i (range_s L hL _ 1 4 (by decide) (by decide) (by decide)) ?_)
    rintro o ⟨id, p3, hi0, hi1, rfl⟩
    repeat' (refine vif_split (fun h => ?_) (fun h => ?_) <;> (try rw [h]) <;> (try simp only [beq_iff_eq, beq_eq_false_iff_ne, bne_iff_ne, bne_eq_false_iff_eq, ne_eq] at h) <;> (try (exfalso; omega)))
    refine draw_i false [] [(0, 1), (2, 2), (6, 2), (8, 2), (9, 2), (13, 2), (14, 2), (1, 0), (18, 2), (3, 0), (4, 2), (5, 2), (7, 0), (10, 0), (11, 2), (12, 2), (15, 0), (16, 2), (17, 2), (19, 0), (20, 1), (21, 0), (22, 1), (23, 0), (24, 1), (25, 0), (26, 1), (27, 0)] (by decide +kernel) ?_
    refine vcall_intro [1000] [] (and_i (role_s L hL _) ?_)
    rintro o ⟨w, p2, hw, rfl⟩
    refine vcall_intro [1000] [] (and_i (next_s L hL _ 4 (by decide) (by decide)) ?_)
    rintro o ⟨dir, p5, hd0, hd1, rfl⟩
    refine vand_j (by decide) ?_
    refine vcall_intro [1000] [] (and_i (range_s L hL _ 1 3 (by decide) (by decide) (by decide)) ?_)
    rintro o ⟨ch, p4, hc0, hc1, rfl⟩
    refine vcall_intro [1000] [] (and_i (next_s L hL _ 3 (by decide) (by decide)) ?_)
    rintro o ⟨v, p6, hv0, hv1, rfl⟩
    refine vand_j (show (0 : Int) ≤ v ∧ v < ((3 : Nat) : Int) by omega) ?_
    refine vcall_intro [1000] [] (and_i (next_s L hL _ 3 (by decide) (by decide)) ?_)
    rintro o ⟨u, p7, hu0, hu1, rfl⟩
    refine vand_j (show (0 : Int) ≤ u ∧ u < ((3 : Nat) : Int) by omega) ?_
    refine ⟨⟨k, id, w, IntKind.i64.wrap (1 + IntKind.i64.wrap (dir.tdiv 3)), ch, List.getD [48000, 44100, 24000] v.toNat 0, List.getD [20000, 100000, 500] u.toNat 0, 0, 0, [], ⟨#[]⟩⟩, p7, ?_, Eq.refl _⟩
    obtain ⟨hw1, hw2⟩ := roles_ok hw
    have r1 := three (a := 48000) (b := 44100) (c := 24000) hv0 hv1 1000 768000 (by omega) (by omega) (by omega)
    have r2 := three (a := 20000) (b := 100000) (c := 500) hu0 hu1 0 1099511627776 (by omega) (by omega) (by omega)
    have r3 := dir_ok hd0 hd1
    generalize (List.getD [48000, 44100, 24000] v.toNat 0 : Int) = rate at r1 ⊢
    generalize (List.getD [20000, 100000, 500] u.toNat 0 : Int) = lat at r2 ⊢
    generalize IntKind.i64.wrap (1 + IntKind.i64.wrap (dir.tdiv 3)) = dd at r3 ⊢
    subst h1
    refine milled_of InR.nil ⟨⟨by simp only; omega, by simp only; omega⟩, ?_, ?_, ?_⟩ (by simp) hw2 (by simp only; decide)
    · simp [cleanR]
    · simp; omega
    · simp [fieldsR, opensR_iff, hw1]; omega
  by_cases h8 : k = 8
  · repeat' (refine vif_split (fun h => ?_) (fun h => ?_) <;> (try rw [h]) <;> (try simp only [beq_iff_eq, beq_eq_false_iff_ne, bne_iff_ne, bne_eq_false_iff_eq, ne_eq] at h) <;> (try (exfalso; omega)))
    refine vcall_intro [1000] [] (and_i (range_s L hL _ 1 4 (by decide) (by decide) (by decide)) ?_)
    rintro o ⟨id, p3, hi0, hi1, rfl⟩
    repeat' (refine vif_split (fun h => ?_) (fun h => ?_) <;> (try rw [h]) <;> (try simp only [beq_iff_eq, beq_eq_false_iff_ne, bne_iff_ne, bne_eq_false_iff_eq, ne_eq] at h) <;> (try (exfalso; omega)))
    refine vcall_intro [1000] [] (and_i (next_s L hL _ 80 (by decide) (by decide)) ?_)
    rintro o ⟨v, p6, hv0, hv1, rfl⟩
    refine vloop_i [0, 2, 3, 4] [2, 3, 1000] (fun n r m => ∃ (x : Nat) (data : List Int) (p : Nat), x = n ∧ data.length + x ≤ 80 ∧ InR data ∧
      r = regs 92 [(0, .lf (.ptr 1000 0)), (2, .lf (.ptr 2 0)), (3, .lf (.ptr 3 0)), (4, .lf (vI x))] ∧
      m = [(2, (Req.zero 0).cellsD (.al (.ce 2 9) (.int .u8) [])), (3, Req.cellsD ⟨k, id, ⟨#[]⟩, 0, 0, 0, 0, 0, 0, data, ⟨#[]⟩⟩ (.al (.ce 3 9) (.int .u8) data)), (1000, [vIs L, vI p])]) ⟨v.toNat, v.toNat, [], p6, rfl, by simp; omega, InR.nil, congrArg (fun y => regs 92 [(0, .lf (.ptr 1000 0)), (2, .lf (.ptr 2 0)), (3, .lf (.ptr 3 0)), (4, .lf (vI y))]) (by omega), rfl⟩ ?_
    rintro n r m ⟨x, data, p, rfl, hlen, hin, rfl, rfl⟩
    refine vif_split (fun h3 => ?_) (fun h3 => ?_) <;> (try rw [h3])
    · have h3 : decide ((x : Int) > 0) = true := h3
      have h3 := of_decide_eq_true h3
      have hx1 : IntKind.i64.wrap ((x : Int) - 1) = ((x - 1 : Nat) : Int) := by rw [wrap_in (by omega) (by omega)]; omega
      have hnext : ∀ (w : Int) (p' : Nat), 0 ≤ w → w < 256 → ∃ n', n' < x ∧ ∃ (y : Nat) (d2 : List Int) (p : Nat), y = n' ∧ d2.length + y ≤ 80 ∧ InR d2 ∧
          regs 92 [(0, .lf (.ptr 1000 0)), (2, .lf (.ptr 2 0)), (3, .lf (.ptr 3 0)), (4, .lf (vI (IntKind.i64.wrap ((x : Int) - 1))))] = regs 92 [(0, .lf (.ptr 1000 0)), (2, .lf (.ptr 2 0)), (3, .lf (.ptr 3 0)), (4, .lf (vI y))] ∧
          [(2, (Req.zero 0).cellsD (.al (.ce 2 9) (.int .u8) [])), (3, Req.cellsD ⟨k, id, ⟨#[]⟩, 0, 0, 0, 0, 0, 0, data ++ [IntKind.u8.wrap w], ⟨#[]⟩⟩ (.al (.ce 3 9) (.int .u8) (data ++ [IntKind.u8.wrap w]))), (1000, [vIs L, vI p'])] =
          [(2, (Req.zero 0).cellsD (.al (.ce 2 9) (.int .u8) [])), (3, Req.cellsD ⟨k, id, ⟨#[]⟩, 0, 0, 0, 0, 0, 0, d2, ⟨#[]⟩⟩ (.al (.ce 3 9) (.int .u8) d2)), (1000, [vIs L, vI p])] := fun w p' hw0 hw1 =>
        ⟨x - 1, by omega, x - 1, data ++ [IntKind.u8.wrap w], p', rfl, by simp; omega, InR.append hin (fun z hz => by
          simp only [List.mem_singleton] at hz
          rw [hz, u8_in hw0 hw1]
          exact ⟨hw0, hw1⟩), by rw [hx1], rfl⟩
      refine drawT_i false [] (.st 2 1 (.st 0 2 (.alt 1 3 (.st 3 0 (.st 4 1 (.st 5 1 (.st 6 0 (.st 7 1 (.st 8 0 (.nil))))))) (.st 3 0 (.st 4 1 (.st 5 1 (.st 1 3 (.st 6 0 (.st 7 1 (.st 8 0 (.nil))))))))))) (by decide +kernel) (and_i ?_ ?_)
      all_goals
        refine vcall_intro [1000] [] (and_i (next_s L hL _ 256 (by decide) (by decide)) ?_)
        rintro o ⟨w, p', hw0, hw1, rfl⟩
        refine vand_j (fits_i (n := data.length + 1) 1 rfl ⟨by omega, by omega⟩) ?_
        exact hnext w p' hw0 hw1
    · refine ⟨⟨k, id, ⟨#[]⟩, 0, 0, 0, 0, 0, 0, data, ⟨#[]⟩⟩, p, ?_, Eq.refl _⟩
      subst h8
      refine milled_of hin ⟨⟨by simp only; omega, by simp only; omega⟩, ?_, ?_, ?_⟩ (by simp only; omega) (by simp only; decide) (by simp only; decide)
      · simp [cleanR]
      · simp; omega
      · simp [fieldsR]; omega
  by_cases h11 : k = 11
  · repeat' (refine vif_split (fun h => ?_) (fun h => ?_) <;> (try rw [h]) <;> (try simp only [beq_iff_eq, beq_eq_false_iff_ne, bne_iff_ne, bne_eq_false_iff_eq, ne_eq] at h) <;> (try (exfalso; omega)))
    refine vcall_intro [1000] [] (and_i (next_s L hL _ 6 (by decide) (by decide)) ?_)
    rintro o ⟨v, p6, hv0, hv1, rfl⟩
    refine vand_j (show (0 : Int) ≤ v ∧ v < ((6 : Nat) : Int) by omega) ?_
    refine ⟨⟨k, 0, ⟨#[]⟩, 0, 0, 0, 0, 0, 0, [], List.getD texts v.toNat ByteArray.empty⟩, p6, ?_, Eq.refl _⟩
    have ht := texts_ok hv0 hv1
    generalize List.getD texts v.toNat ByteArray.empty = t at ht ⊢
    subst h11
    refine milled_of InR.nil ⟨⟨by simp only; omega, by simp only; omega⟩, ?_, ?_, ?_⟩ (by simp) (by simp only; decide) ht
    · simp [cleanR]
    · simp
    · simp [fieldsR]; omega
  · repeat' first
      | (refine vif_split (fun h => ?_) (fun h => ?_) <;> (try rw [h]) <;> (try simp only [beq_iff_eq, beq_eq_false_iff_ne, bne_iff_ne, bne_eq_false_iff_eq, ne_eq] at h) <;> (try (exfalso; omega)))
      | (refine vcall_intro [1000] [] (and_i (range_s L hL _ 1 4 (by decide) (by decide) (by decide)) ?_); rintro o ⟨id, p3, hi0, hi1, rfl⟩)
      | (refine vcall_intro [1000] [] (and_i (next_s L hL _ _ (by decide) (by decide)) ?_); rintro o ⟨v, p6, hv0, hv1, rfl⟩)
    all_goals
      refine ⟨⟨_, _, _, _, _, _, _, _, _, _, _⟩, _, ?_, Eq.refl _⟩
      refine milled_of InR.nil ⟨⟨hk0, hk1⟩, ?_, ?_, ?_⟩ (Nat.zero_le _) (by simp only; decide) (by simp only; decide)
      · first
          | (simp [cleanR, *] <;> rfl)
          | simp [cleanR, *]
      · first
          | exact .inr (.inl (by assumption))
          | exact .inr (.inr ⟨by simp only; omega, by simp only; omega⟩)
      · first
          | (simp [fieldsR, inR_iff, u64_wrap, *] <;> omega)
          | simp [fieldsR, inR_iff, u64_wrap, *]

end Go.Proofs.Ytimhjbihhchieaa.Q
