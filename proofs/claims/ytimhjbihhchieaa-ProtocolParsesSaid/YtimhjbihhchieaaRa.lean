/- The protocol's read over V. Conditions: as each states. -/
import Derived.Test.YtimhjbihhchieaaQz
namespace Go.Proofs.Ytimhjbihhchieaa.Q
open Go Go.V
set_option linter.unusedVariables false
set_option linter.unusedSimpArgs false
set_option maxRecDepth 100000
variable {N : Nat} {WL : World}

abbrev wPlay : ByteArray := ⟨#[112, 108, 97, 121, 98, 97, 99, 107]⟩
abbrev wCapt : ByteArray := ⟨#[99, 97, 112, 116, 117, 114, 101]⟩
abbrev wOn : ByteArray := ⟨#[111, 110]⟩
abbrev wOff : ByteArray := ⟨#[111, 102, 102]⟩

def readP (q : Req) (c : Int) (w : ByteArray) : Bool × Req :=
  if c = 82 then (true, { q with role := w })
  else if c = 66 then (true, { q with data := bytesOf w })
  else if c = 84 then (true, { q with text := w })
  else if c = 68 then (if w = wPlay then true else decide (w = wCapt), { q with dir := if w = wCapt then 2 else 1 })
  else if c = 77 then (if w = wOn then true else decide (w = wOff), { q with n := if w = wOn then 1 else q.n })
  else (if (numP w).2 = 0 then decide ((numP w).1 ≥ 0) else false,
    if c = 73 then { q with id := (numP w).1 }
    else if c = 67 then { q with ch := (numP w).1 }
    else if c = 83 then { q with rate := (numP w).1 }
    else if c = 76 then { q with lat := (numP w).1 }
    else if c = 71 then { q with dev := IntKind.u64.wrap (vpure.maxI (numP w).1 0) }
    else { q with n := (numP w).1 })

theorem toList_beq (a b : ByteArray) : (a.toList == b.toList) = decide (a = b) := by
  by_cases h : a = b
  · subst h; simp
  · have : ¬ a.toList = b.toList := fun e => h (toList_inj.1 e)
    simp [h, this]
theorem namesD_s (c : Int) (h : c = 68) : Sound P N WL 34 [.lf (v8 c)] [] (· = .ret (.tup [vS wPlay, vS wCapt]) []) := by
  have := names_s (N := N) (WL := WL) c
  rw [if_pos h, if_pos h] at this
  exact this
theorem namesN_s (c : Int) (h : c ≠ 68) : Sound P N WL 34 [.lf (v8 c)] [] (· = .ret (.tup [vS wOn, vS wOff]) []) := by
  have := names_s (N := N) (WL := WL) c
  rw [if_neg h, if_neg h] at this
  exact this

set_option maxHeartbeats 16000000 in
theorem read_s (q : Req) (c : Int) (w : ByteArray) (hw : w.size ≤ 1000000) (d : A0) (hd : dOK 1000 d q.data) {b : Bool} {q' : Req} (hp : readP q c w = (b, q')) :
    Sound P N WL 20 [.lf (.ptr 1000 0), .lf (v8 c), .lf (vS w)] [(1000, q.cellsD d)]
    (fun o => ∃ d', dOK 1000 d' q'.data ∧ o = .ret (.lf (vB b)) [(1000, q'.cellsD d')]) := by
  obtain ⟨kind, id, role, dir, ch, rate, lat, n, dev, data, text⟩ := q
  by_cases h68 : c = 68
  · rcases hd with rfl | rfl
    all_goals
      refine Sound.of mix [] Go.Proofs.Try.func20 rfl rfl ?_
      refine vcall_intro [] [] (and_i (namesD_s c h68) ?_)
      rintro o rfl
      repeat' (refine vif_split (fun h => ?_) (fun h => ?_) <;> (try rw [h]) <;> (try simp only [beq_iff_eq, beq_eq_false_iff_ne, ne_eq, toList_inj] at h) <;> (try (exfalso; omega)))
      all_goals
        first
          | contradiction
          | (simp [readP, *] at hp
             obtain ⟨rfl, rfl⟩ := hp
             first
               | exact ⟨_, .inl rfl, Eq.refl _⟩
               | exact ⟨_, .inr rfl, Eq.refl _⟩
               | (refine ⟨_, .inl rfl, ?_⟩; refine ends ?_; rw [toList_beq]; simp [*]; rfl)
               | (refine ⟨_, .inr rfl, ?_⟩; refine ends ?_; rw [toList_beq]; simp [*]; rfl))
  · rcases hd with rfl | rfl
    all_goals
      refine Sound.of mix [] Go.Proofs.Try.func20 rfl rfl ?_
      refine vcall_intro [] [] (and_i (namesN_s c h68) ?_)
      rintro o rfl
      repeat' first
        | (refine vif_split (fun h => ?_) (fun h => ?_) <;> (try rw [h]) <;> (try simp only [beq_iff_eq, beq_eq_false_iff_ne, ne_eq, toList_inj] at h) <;> (try (exfalso; omega)))
        | (refine vcall_intro [] [] (and_i (number_s w hw (v := (numP w).1) (e := (numP w).2) rfl) ?_); rintro o rfl)
      all_goals
        first
          | contradiction
          | (simp [readP, *] at hp
             obtain ⟨rfl, rfl⟩ := hp
             first
               | exact ⟨_, .inl rfl, Eq.refl _⟩
               | exact ⟨_, .inr rfl, Eq.refl _⟩
               | (refine ⟨_, .inl rfl, ?_⟩; refine ends ?_; rw [toList_beq]; simp [*]; rfl)
               | (refine ⟨_, .inr rfl, ?_⟩; refine ends ?_; rw [toList_beq]; simp [*]; rfl))

end Go.Proofs.Ytimhjbihhchieaa.Q
