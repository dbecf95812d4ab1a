/- The reference's Format, the sanity check and the law ProtocolParses over V. Conditions: as each states. -/
import Derived.Test.YtimhjbihhchieaaRc
import Derived.Test.YtimhjbihhchieaaRe
import Derived.Test.YtimhjbihhchieaaQy
namespace Go.Proofs.Ytimhjbihhchieaa.Q
open Go Go.V
set_option linter.unusedVariables false
set_option linter.unusedSimpArgs false
set_option maxRecDepth 100000
variable {N : Nat} {WL : World}

set_option maxHeartbeats 4000000 in
theorem format35_s (r : Req) (hb : InR r.data) (h1 : r.role.size ≤ 1000000) (h2 : r.data.length ≤ 1000000) (h3 : r.text.size ≤ 1000000) {w : ByteArray} {e : Int} (hp : formatR r = (w, e)) :
    Sound P N WL 5 [.lf r.v] [] (· = .ret (.tup [vS w, vI e]) []) := by
  refine Sound.of mix [] Go.Proofs.Try.func5 rfl rfl ?_
  unfold formatR at hp
  refine vcall_intro [] [] (and_i (valid35_s r h1) ?_)
  rintro o rfl
  refine vif_split (fun h => ?_) (fun h => ?_) <;> (try rw [h])
  · have h : (!validR r) = true := h
    rw [if_neg (by simp at h; simp [h])] at hp
    cases hp
    refine ends ?_
    exact Eq.refl _
  · have h : (!validR r) = false := h
    rw [Bool.not_eq_false'] at h
    rw [if_pos h] at hp
    have g := valid_rng hb h
    refine vcall_intro [] [] (and_i (words35_s r g) ?_)
    rintro o rfl
    refine vcall_intro [] [] (and_i (join02_s (wordsR r) (wordsR_size r h1 h2 h3 g) hp) ?_)
    rintro o rfl
    refine ends ?_
    exact Eq.refl _

abbrev saneA : ByteArray := ⟨#[111, 112, 101, 110, 32, 51, 32, 109, 117, 115, 105, 99, 32, 112, 108, 97, 121, 98, 97, 99, 107, 32, 50, 32, 52, 56, 48, 48, 48, 32, 57, 54, 48]⟩
abbrev saneB : ByteArray := ⟨#[109, 117, 116, 101, 32, 51, 32, 111, 110]⟩
theorem sane_a : (parseP saneA).2 = 0 ∧ (parseP saneA).1.kind = 1 ∧ (parseP saneA).1.id = 3 ∧ (parseP saneA).1.lat = 960 ∧ (parseP saneA).1.dir = 1 := by decide +kernel
theorem sane_b : (parseP saneB).2 = 0 ∧ (parseP saneB).1.n = 1 := by decide +kernel

set_option maxHeartbeats 4000000 in
theorem sane35_s : Sound P N WL 4 [] [] (· = .ret (.lf (vB true)) []) := by
  refine Sound.of mix [] Go.Proofs.Try.func4 rfl rfl ?_
  obtain ⟨a1, a2, a3, a4, a5⟩ := sane_a
  obtain ⟨b1, b2⟩ := sane_b
  refine vcall_intro [] [] (and_i (parse_s saneA (q := (parseP saneA).1) (e := (parseP saneA).2) rfl) ?_)
  rintro o rfl
  generalize parseP saneA = pa at *
  refine vcall_intro [] [] (and_i (parse_s saneB (q := (parseP saneB).1) (e := (parseP saneB).2) rfl) ?_)
  rintro o rfl
  generalize parseP saneB = pb at *
  obtain ⟨⟨k, id, role, dir, ch, rate, lat, n, dev, data, text⟩, e⟩ := pa
  obtain ⟨⟨k', id', role', dir', ch', rate', lat', n', dev', data', text'⟩, e'⟩ := pb
  simp only at a1 a2 a3 a4 a5 b1 b2
  subst a1 a2 a3 a4 a5 b1 b2
  repeat' (refine vif_split (fun h => ?_) (fun h => ?_) <;> (try rw [h]) <;> (try exact absurd h (by decide)))
  all_goals
    refine ends ?_
    exact Eq.refl _

theorem same_self (q : Req) : sameR q q = true := by simp [sameR]

theorem parseRef_eq (s : ByteArray) : parseRef s = parseP s := by
  unfold parseRef parseP
  rw [parse_agree]

set_option maxHeartbeats 8000000 in
theorem law_parses (L : List Int) (hL : L.length ≤ 4611686018427387904) (raw : ByteArray) (at0 by0 : Int) : Sound P N WL 3 [.lf (vIs L), .lf (vS raw), .lf (vI at0), .lf (v8 by0)] [] (· = .ret (.lf (vB true)) []) := by
  refine Sound.of mix [] Go.Proofs.Try.func3 rfl rfl ?_
  refine vcall_intro [] [] (and_i sane35_s ?_)
  rintro o rfl
  refine vif_split (fun h => ?_) (fun h => ?_) <;> (try rw [h])
  · refine ends ?_
    exact Eq.refl _
  have h : decide ((raw.size : Int) > 300) = false := h
  have hraw : raw.size ≤ 300 := by have := of_decide_eq_false h; omega
  refine vcall_intro [] [] (and_i (new_s L) ?_)
  rintro o rfl
  refine vcall_intro [3026] [] (and_i (request_a L hL 0) ?_)
  rintro o ⟨q, p, hq, rfl⟩
  generalize hf : formatR q = f
  obtain ⟨s, e⟩ := f
  have hs : s.size ≤ 4096 := by
    unfold formatR at hf
    split at hf
    · rw [joinP_eq] at hf
      split at hf
      · cases hf; decide
      · cases hf
        rw [strOf_size]
        omega
    · cases hf; decide
  refine vcall_intro [] [] (and_i (format35_s q hq.byte (by have := hq.role; omega) (by have := hq.data; omega) (by have := hq.text; omega) hf) ?_)
  rintro o rfl
  have hw : IntKind.i64.wrap (((numsOfStr s).length : Int) + 1) = ((s.size + 1 : Nat) : Int) := by
    rw [show (numsOfStr s).length = s.size from bytesOf_length s, wrap_in (by omega) (by omega)]; omega
  refine vcall_intro [] [] (and_i (mod_s at0 (IntKind.i64.wrap (((numsOfStr s).length : Int) + 1)) (by rw [hw]; omega) (by rw [hw]; omega)) ?_)
  rintro o rfl
  have hk := mod_in (v := at0) (n := IntKind.i64.wrap (((numsOfStr s).length : Int) + 1)) (by rw [hw]; omega)
  generalize mod at0 (IntKind.i64.wrap (((numsOfStr s).length : Int) + 1)) = k at hk ⊢
  rw [hw] at hk
  have hns : (numsOfStr s).length = s.size := bytesOf_length s
  refine vif_split (fun h => ?_) (fun h => ?_) <;> (try rw [h]) <;> (try refine vand_j (show (0 : Int) ≤ k ∧ k < ((numsOfStr s).length : Int) from ⟨hk.1, of_decide_eq_true h⟩) ?_)
  all_goals
    refine draw_i false [] [(0, 1), (1, 1), (2, 1), (3, 1), (4, 1), (5, 1), (6, 1), (7, 1), (8, 1), (9, 1), (10, 1), (11, 1), (12, 1), (13, 1), (14, 1), (15, 1), (16, 1), (17, 1)] (by decide +kernel) ?_
    refine vand_j (show (0 : Int) ≤ 0 ∧ 0 ≤ k ∧ k ≤ (s.size : Int) by omega) ?_
    refine vand_j (show s.size + (⟨#[32]⟩ : ByteArray).size ≤ 9223372036854775807 by have e : (⟨#[32]⟩ : ByteArray).size = 1 := rfl; omega) ?_
    refine vand_j (show (s ++ (⟨#[32]⟩ : ByteArray)).size + raw.size ≤ 9223372036854775807 by rw [ByteArray.size_append]; have e : (⟨#[32]⟩ : ByteArray).size = 1 := rfl; omega) ?_
    refine vand_j (show (⟨#[109, 117, 116, 101, 32, 49, 32]⟩ : ByteArray).size + raw.size ≤ 9223372036854775807 by have e : (⟨#[109, 117, 116, 101, 32, 49, 32]⟩ : ByteArray).size = 7 := rfl; omega) ?_
    refine vand_j (show (⟨#[111, 112, 101, 110, 32]⟩ : ByteArray).size + raw.size ≤ 9223372036854775807 by have e : (⟨#[111, 112, 101, 110, 32]⟩ : ByteArray).size = 5 := rfl; omega) ?_
    refine vloop_i [61, 62, 63] [] (fun n r m => ∃ (ws : List ByteArray) (i : Nat), r = regs 87 [(61, .lf (vSs ws)), (62, .lf (vI ws.length)), (63, .lf (vI i))] ∧ m = [] ∧ ws.length ≤ 7 ∧ i + n = ws.length) ⟨7, _, 0, rfl, rfl, Nat.le_refl 7, rfl⟩ ?_
    rintro n r m ⟨ws, i, rfl, rfl, h7, hn⟩
    refine vif_split (fun h3 => ?_) (fun h3 => ?_) <;> (try rw [h3])
    · have h3 : decide ((i : Int) < (ws.length : Int)) = true := h3
      have hlt : i < ws.length := by have := of_decide_eq_true h3; omega
      have hi1 : IntKind.i64.wrap ((i : Int) + 1) = ((i + 1 : Nat) : Int) := by rw [wrap_in (by omega) (by omega)]; omega
      refine vand_j (show (0 : Int) ≤ (i : Int) ∧ (i : Int) < (ws.length : Int) by omega) ?_
      generalize hp : parseP (List.getD ws (Int.toNat (i : Int)) ByteArray.empty) = pe
      obtain ⟨q2, e2⟩ := pe
      refine vcall_intro [] [] (and_i (parse_s _ hp) ?_)
      rintro o rfl
      refine vcall_intro [] [] (and_i (parse35_s _ ((parseRef_eq _).trans hp)) ?_)
      rintro o rfl
      refine vif_split (fun h4 => ?_) (fun h4 => ?_) <;> (try rw [h4])
      · have h4 : (e2 != e2) = true := h4
        simp at h4
      refine vcall_intro [] [] (and_i (same35_s q2 q2) ?_)
      rintro o rfl
      refine vif_split (fun h5 => ?_) (fun h5 => ?_)
      · have h5 : (!sameR q2 q2) = true := h5
        rw [same_self] at h5
        cases h5
      · exact next_i (n - 1) (by omega) ⟨ws, i + 1, congrArg (fun x => regs 87 [(61, .lf (vSs ws)), (62, .lf (vI ws.length)), (63, .lf (vI x))]) hi1, rfl, h7, by omega⟩
    · refine ends ?_
      exact Eq.refl _

end Go.Proofs.Ytimhjbihhchieaa.Q
