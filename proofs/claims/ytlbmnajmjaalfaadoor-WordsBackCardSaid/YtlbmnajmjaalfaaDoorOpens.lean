/- Arguments that came in, as the print's rows tell them: a slice of strings. Conditions: as each states. -/
import Derived.Test.YtlbmnajmjaalfaaDoorWSized
import Derived.Test.YtlbmnajmjaalfaaDoorWMore
import Derived.SliceStrings
namespace Go.Proofs.YtlbmnajmjaalfaaDoorW.Mine
open Go.RowKit Go.ChangeShapes Go.WideShapes Go.Proofs.YtlbmnajmjaalfaaDoorW.PrintWords Go.Proofs.YtlbmnajmjaalfaaDoorW.PrintLast Go.Proofs.YtlbmnajmjaalfaaDoorW.PrintMore

theorem C_string_of {w : World} {x : Addr} {len cap : Nat} {ss : List ByteArray} (hl : len ≤ cap) (hm : cap ≤ maxLen) (hs : len ≤ ss.length) (hcell : ∀ i, i < ss.length → w.cell? (x.add i) = some (.string (ss.getD i ByteArray.empty))) : Kd.C Kd.string w (some x) (ss.take len).length (ss.take len) := by
  unfold maxLen at hm
  refine ⟨rfl, by rw [List.length_take]; omega, fun _ => ⟨x, rfl, fun j p hj => ⟨[.string p], rfl, rfl, fun i u hu => ?_⟩⟩⟩
  have hj1 : j < (ss.take len).length := (List.getElem?_eq_some_iff.1 hj).1
  rw [List.length_take] at hj1
  cases i with
  | succ i => simp at hu
  | zero =>
    simp at hu
    subst hu
    have e : j * (Kd.string).sz + 0 = j := by show j * 1 + 0 = j; omega
    rw [e, hcell j (by omega)]
    rw [List.getElem?_take_of_lt (by omega)] at hj
    simp [List.getD_eq_getElem?_getD, hj]
theorem opened_strings {H : Type} {enc : TypeId × Value → H} {P : Program} {W : World} {base : Nat} {held : Bool} {t e : TypeId} {a : Option Addr} {len cap : Nat} {d : DataW H} {ps : List MemPlace}
    (hu : P.underlying t = some (.slice e)) (he : P.underlying e = some .string) (hc : P.cellsOf e = 1) (h : DataW.Trod enc P W base (fun _ => true) held t (.slice a len cap) d ps) :
    ∃ l : List ByteArray, len = l.length ∧ l.length ≤ cap ∧ Kd.C Kd.string W a l.length l ∧ ∀ s ∈ l, s.size ≤ maxLen := by
  obtain ⟨fuel, hf⟩ := h
  rcases open_strings hu he hc hf with ⟨hcs, _⟩ | ⟨x, l, c, ss, hcs, _, hl, hm, hz, _, hcell, hsz⟩
  · simp [Value.cells] at hcs
    obtain ⟨rfl, rfl, rfl⟩ := hcs
    exact ⟨[], rfl, Nat.le_refl _, ⟨rfl, by simp, fun h => absurd h (by simp)⟩, by simp⟩
  · simp [Value.cells] at hcs
    obtain ⟨rfl, rfl, rfl⟩ := hcs
    simp only [if_true] at hz
    have hlt : (ss.take len).length = len := by rw [List.length_take]; omega
    exact ⟨ss.take len, hlt.symm, by omega, C_string_of hl hm (by omega) hcell, fun s hs => hsz s (List.mem_of_mem_take hs)⟩
end Go.Proofs.YtlbmnajmjaalfaaDoorW.Mine
