/- The reference's words and Format over V. Conditions: as each states. -/
import Derived.Test.YtimhjbihhchieaaQv
namespace Go.Proofs.Ytimhjbihhchieaa.Q
open Go Go.V
set_option linter.unusedVariables false
set_option linter.unusedSimpArgs false
set_option maxRecDepth 100000
variable {N : Nat} {WL : World}

theorem vand_j {p k : Prop} (h1 : p) (h2 : k) : vand p k := ⟨h1, h2⟩
abbrev itoaB (n : Int) : ByteArray := ⟨(Lib.itoa n).toArray⟩
abbrev In64 (n : Int) : Prop := -9223372036854775808 ≤ n ∧ n ≤ 9223372036854775807
theorem wrap_64 (n : Int) : In64 (IntKind.i64.wrap n) := by
  rw [wrap_eq]
  unfold wrap64 In64
  omega
/-- numbers of a request are in their kind's range -/
structure Rng (r : Req) : Prop where
  k0 : 0 ≤ r.kind
  k1 : r.kind ≤ 12
  id : In64 r.id
  ch : In64 r.ch
  rate : In64 r.rate
  lat : In64 r.lat
  n : In64 r.n

def wordsR (r : Req) : List ByteArray :=
  (if r.kind = 11 ∨ r.kind = 12 then [wordR r.kind] else [wordR r.kind, itoaB r.id]) ++
  (if r.kind = 1 then [r.role, if r.dir = 2 then ⟨#[99, 97, 112, 116, 117, 114, 101]⟩ else ⟨#[112, 108, 97, 121, 98, 97, 99, 107]⟩, itoaB r.ch, itoaB r.rate, itoaB r.lat]
  else if r.kind = 6 ∨ r.kind = 9 then [itoaB r.n]
  else if r.kind = 7 then [if r.n = 1 then ⟨#[111, 110]⟩ else ⟨#[111, 102, 102]⟩]
  else if r.kind = 8 then [strOfNums r.data]
  else if r.kind = 10 then [itoaB (IntKind.i64.wrap r.dev)]
  else if r.kind = 11 then [r.text]
  else [])

set_option maxHeartbeats 16000000 in
theorem words35_s (r : Req) (g : Rng r) : Sound P N WL 14 [.lf r.v] [] (· = .ret (.lf (vSs (wordsR r))) []) := by
  obtain ⟨k0, k1, g1, g2, g3, g4, g5⟩ := g
  obtain ⟨kind, id, role, dir, ch, rate, lat, n, dev, data, text⟩ := r
  have gd := wrap_64 dev
  refine Sound.of mix [] Go.Proofs.Try.func14 rfl rfl ?_
  refine vcall_intro [] [] (and_i (word35_s kind k0 k1) ?_)
  rintro o rfl
  repeat' first
    | (refine vif_split (fun h => ?_) (fun h => ?_) <;> (try rw [h]) <;> (try simp only [beq_iff_eq, beq_eq_false_iff_ne, bne_iff_ne, bne_eq_false_iff_eq, ne_eq, Bool.not_eq_true', Bool.not_eq_false'] at h) <;> (try (exfalso; omega)))
    | (refine vand_j (fits_i (n := 2) 16 rfl ⟨by omega, by omega⟩) ?_)
    | (refine vand_j (fits_i (n := 3) 16 rfl ⟨by omega, by omega⟩) ?_)
    | (refine vand_j (fits_i (n := 7) 16 rfl ⟨by omega, by omega⟩) ?_)
    | (refine vcall_intro [] [] (and_i (format02_s id g1.1 g1.2) ?_); rintro o rfl)
    | (refine vcall_intro [] [] (and_i (format02_s n g5.1 g5.2) ?_); rintro o rfl)
    | (refine vcall_intro [] [] (and_i (format02_s _ gd.1 gd.2) ?_); rintro o rfl)
    | refine drawT_i true [1] (.st 4 1 (.st 5 1 (.st 1 2 (.st 2 2 (.st 3 2 (.st 7 2 (.st 8 2 (.st 10 2 (.st 11 2 (.alt 0 3 (.st 6 0 (.st 9 0 (.st 12 0 (.st 13 1 (.st 14 0 (.st 15 0 (.nil))))))) (.st 6 0 (.alt 0 3 (.st 9 0 (.st 12 0 (.st 13 1 (.st 14 0 (.st 15 0 (.nil)))))) (.st 9 0 (.alt 0 3 (.st 12 0 (.st 13 1 (.st 14 0 (.st 15 0 (.nil))))) (.st 12 0 (.st 13 1 (.st 0 3 (.st 14 0 (.st 15 0 (.nil)))))))))))))))))))) (by decide +kernel) ?_
    | (refine vcall_intro [] [] (and_i ⟨rfl, format02_s ch g2.1 g2.2⟩ ?_); rintro o rfl)
    | (refine vcall_intro [] [] (and_i ⟨rfl, format02_s rate g3.1 g3.2⟩ ?_); rintro o rfl)
    | (refine vcall_intro [] [] (and_i ⟨rfl, format02_s lat g4.1 g4.2⟩ ?_); rintro o rfl)
    | refine and_i ?_ ?_
  all_goals first
    | (refine ends (ret1 (aL ?_)); simp [wordsR, *] <;> rfl)

def formatR (r : Req) : ByteArray × Int := if validR r = true then joinP (wordsR r) else (⟨#[]⟩, 1)

end Go.Proofs.Ytimhjbihhchieaa.Q
