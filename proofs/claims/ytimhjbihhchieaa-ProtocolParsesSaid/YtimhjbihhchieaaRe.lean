/- Which request a line is: the program and the reference agree. Conditions: as each states. -/
import Derived.Test.YtimhjbihhchieaaRb
namespace Go.Proofs.Ytimhjbihhchieaa.Q
open Go Go.V
set_option linter.unusedVariables false
set_option linter.unusedSimpArgs false
set_option maxRecDepth 100000

theorem parseFrom_none {l : List ByteArray} : ∀ (fs : List (Int × ByteArray × ByteArray × Unit)), (∀ f ∈ fs, atL l 0 ≠ f.2.1) → parseFrom l fs = (Req.zero 0, 5)
  | [], _ => rfl
  | f :: fs, h => by
    rw [parseFrom, if_neg (fun hh => h f List.mem_cons_self hh.2)]
    exact parseFrom_none fs fun g hg => h g (List.mem_cons_of_mem _ hg)
theorem readIn_false : ∀ (cs : List Int) (ws : List ByteArray) (q : Req), readIn cs ws false q = (false, q)
  | [], _, _ => rfl
  | c :: cs, ws, q => by rw [readIn, if_neg (by decide)]; exact readIn_false cs _ q
theorem readIn_true (c : Int) (cs : List Int) (ws : List ByteArray) (q : Req) : readIn (c :: cs) ws true q = if (readP q c (atL ws 0)).1 = true then readIn cs (ws.drop 1) true (readP q c (atL ws 0)).2 else (false, (readP q c (atL ws 0)).2) := by
  rw [readIn, if_pos rfl]
  split
  · rename_i h; rw [h]
  · rename_i h
    rw [Bool.not_eq_true] at h
    rw [h, readIn_false]

theorem num_cases2 (w : ByteArray) : (∃ n : Int, 0 ≤ n ∧ n ≤ 9007199254740992 ∧ numP w = (n, 0) ∧ numR w = n ∧ itoaB n = w) ∨ (((numP w).2 = 0 → (numP w).1 < 0) ∧ numR w < 0 ∧ -9007199254740992 ≤ numR w) := by
  rcases num_cases w with h | ⟨h1, h2⟩
  · exact .inl h
  · refine .inr ⟨fun e => ?_, h2⟩
    rw [if_pos e] at h1
    have := of_decide_eq_false h1
    omega

theorem guess_wrong {l : List ByteArray} (h : ¬ (validR (guessR l) = true ∧ wordsR (guessR l) = l)) : parseG l = (Req.zero 0, 5) := by
  unfold parseG
  rw [if_neg h]
theorem wordsR_len {l : List ByteArray} {k : Int} {m : Nat} (hk : kindUpto (atL l 0) 12 = k) (hm : ∀ r : Req, r.kind = k → (wordsR r).length = m) (hl : l.length ≠ m) : parseG l = (Req.zero 0, 5) := by
  refine guess_wrong fun hh => hl ?_
  rw [← hh.2]
  exact hm _ hk

theorem len1 {l : List ByteArray} (h : l.length = 1) : ∃ a, l = [a] := List.length_eq_one_iff.1 h
theorem len2 {l : List ByteArray} (h : l.length = 2) : ∃ a b, l = [a, b] := by
  obtain _ | ⟨a, l⟩ := l
  · simp at h
  obtain ⟨b, rfl⟩ := len1 (l := l) (by simpa using h)
  exact ⟨a, b, rfl⟩
theorem len3 {l : List ByteArray} (h : l.length = 3) : ∃ a b c, l = [a, b, c] := by
  obtain _ | ⟨a, l⟩ := l
  · simp at h
  obtain ⟨b, c, rfl⟩ := len2 (l := l) (by simpa using h)
  exact ⟨a, b, c, rfl⟩
theorem len7 {l : List ByteArray} (h : l.length = 7) : ∃ a b c d e f g, l = [a, b, c, d, e, f, g] := by
  obtain _ | ⟨a, l⟩ := l
  · simp at h
  obtain _ | ⟨b, l⟩ := l
  · simp at h
  obtain _ | ⟨c, l⟩ := l
  · simp at h
  obtain _ | ⟨d, l⟩ := l
  · simp at h
  obtain ⟨e, f, g, rfl⟩ := len3 (l := l) (by simpa using h)
  exact ⟨a, b, c, d, e, f, g, rfl⟩

theorem valid_neg {r : Req} (hb : InR r.data) (h : ¬ ((r.kind = 11 ∨ r.kind = 12 ∨ 1 ≤ r.id ∧ r.id ≤ 9007199254740992) ∧ fieldsR r = true)) : validR r = false := by
  rw [Bool.eq_false_iff]
  intro hv
  exact h ((validR_iff hb).1 hv).2.2

/-- only the form of the word counts -/
theorem parseFrom_one {l : List ByteArray} {k : Int} {w ff : ByteArray} (A B : List (Int × ByteArray × ByteArray × Unit)) (hA : ∀ f ∈ A, w ≠ f.2.1) (hB : ∀ f ∈ B, w ≠ f.2.1) (h0 : atL l 0 = w) :
    parseFrom l (A ++ (k, w, ff, ()) :: B) = if l.length = ff.size + 1 then (if (readIn (bytesOf ff) (l.drop 1) true (Req.zero k)).1 = true ∧ validP (readIn (bytesOf ff) (l.drop 1) true (Req.zero k)).2 = true then ((readIn (bytesOf ff) (l.drop 1) true (Req.zero k)).2, 0) else (Req.zero 0, 5)) else (Req.zero 0, 5) := by
  induction A with
  | nil =>
    rw [List.nil_append, parseFrom]
    have hB' := parseFrom_none (l := l) B (fun f hf => by rw [h0]; exact hB f hf)
    by_cases hl : l.length = ff.size + 1
    · rw [if_pos ⟨hl, h0⟩, if_pos hl, hB']
    · rw [if_neg (fun hh => hl hh.1), if_neg hl, hB']
  | cons f A ih =>
    rw [List.cons_append, parseFrom, if_neg (fun hh => hA f List.mem_cons_self (h0 ▸ hh.2))]
    exact ih fun g hg => hA g (List.mem_cons_of_mem _ hg)

theorem validP_zero {r : Req} (h : InR r.data) : (validP r = true) = (validR r = true) := by rw [validP_eq h]

def isNum (c : Int) : Bool := !(c == 82 || c == 66 || c == 84 || c == 68 || c == 77)
theorem readP_num {q : Req} {c : Int} {w : ByteArray} (hc : isNum c = true) (h : (readP q c w).1 = true) : (numP w).2 = 0 ∧ 0 ≤ (numP w).1 := by
  simp only [isNum, Bool.not_eq_true', Bool.or_eq_false_iff, beq_eq_false_iff_ne, ne_eq] at hc
  obtain ⟨⟨⟨⟨h1, h2⟩, h3⟩, h4⟩, h5⟩ := hc
  unfold readP at h
  rw [if_neg h1, if_neg h2, if_neg h3, if_neg h4, if_neg h5] at h
  simp only at h
  split at h
  · rename_i e; exact ⟨e, by simpa using h⟩
  · cases h
theorem readIn_ok : ∀ (cs : List Int) (ws : List ByteArray) (q : Req), (readIn cs ws true q).1 = true → ∀ i : Nat, i < cs.length → isNum (cs.getD i 0) = true → (numP (atL ws i)).2 = 0 ∧ 0 ≤ (numP (atL ws i)).1
  | [], _, _, _, i, hi, _ => by simp at hi
  | c :: cs, ws, q, h, i, hi, hn => by
    rw [readIn_true] at h
    split at h
    · rename_i hr
      cases i with
      | zero => exact readP_num hn hr
      | succ i =>
        have := readIn_ok cs (ws.drop 1) _ h i (by simpa using hi) (by simpa using hn)
        rw [atL_drop, Nat.add_comm] at this
        exact this
    · cases h
/-- a number that is none: neither takes it -/
theorem both_bad {cs : List Int} {ws : List ByteArray} {q g : Req} {l : List ByteArray} (i : Nat) (hi : i < cs.length) (hn : isNum (cs.getD i 0) = true) (hbad : (numP (atL ws i)).2 = 0 → (numP (atL ws i)).1 < 0) (hb : InR g.data)
    (hg : ¬ ((g.kind = 11 ∨ g.kind = 12 ∨ 1 ≤ g.id ∧ g.id ≤ 9007199254740992) ∧ fieldsR g = true)) :
    (if (readIn cs ws true q).1 = true ∧ validP (readIn cs ws true q).2 = true then ((readIn cs ws true q).2, (0 : Int)) else (Req.zero 0, 5)) = if validR g = true ∧ wordsR g = l then (g, 0) else (Req.zero 0, 5) := by
  rw [if_neg, if_neg]
  · rintro ⟨h, _⟩
    rw [valid_neg hb hg] at h
    cases h
  · rintro ⟨h, _⟩
    obtain ⟨h1, h2⟩ := readIn_ok cs ws q h i hi hn
    have := hbad h1
    omega
theorem both_good {cs : List Int} {ws : List ByteArray} {q g g' : Req} {l : List ByteArray} (h : readIn cs ws true q = (true, g)) (he : g' = g) (hb : InR g.data) (hw : wordsR g = l) :
    (if (readIn cs ws true q).1 = true ∧ validP (readIn cs ws true q).2 = true then ((readIn cs ws true q).2, (0 : Int)) else (Req.zero 0, 5)) = if validR g' = true ∧ wordsR g' = l then (g', 0) else (Req.zero 0, 5) := by
  subst he
  rw [h]
  refine ite_pair ?_ (fun _ => rfl)
  simp only [true_and, validP_eq hb, hw, and_true]

theorem agree1 {l : List ByteArray} (hk : kindUpto (atL l 0) 12 = 1) (h0 : atL l 0 = wordR 1) : parseFrom l formsL = parseG l := by
  refine (parseFrom_one (k := 1) (w := wordR 1) (ff := ⟨#[73, 82, 68, 67, 83, 76]⟩) [] (formsL.drop 1) (by simp) (by decide) h0).trans ?_
  by_cases hl : l.length = 7
  · refine (if_pos hl).trans ?_
    obtain ⟨w0, w1, w2, w3, w4, w5, w6, rfl⟩ := len7 hl
    have h00 : wordR 1 = w0 := h0.symm
    have hg : guessR [w0, w1, w2, w3, w4, w5, w6] = ⟨1, numR w1, w2, if w3 = wCapt then 2 else 1, numR w4, numR w5, numR w6, 0, 0, [], ⟨#[]⟩⟩ := by
      unfold guessR
      rw [hk]
      rfl
    unfold parseG
    rw [hg]
    rcases num_cases2 w1 with ⟨n1, a1, b1, c1, d1, e1⟩ | ⟨a1, b1, c1⟩
    · rcases num_cases2 w4 with ⟨n4, a4, b4, c4, d4, e4⟩ | ⟨a4, b4, c4⟩
      · rcases num_cases2 w5 with ⟨n5, a5, b5, c5, d5, e5⟩ | ⟨a5, b5, c5⟩
        · rcases num_cases2 w6 with ⟨n6, a6, b6, c6, d6, e6⟩ | ⟨a6, b6, c6⟩
          · by_cases hp : w3 = wPlay
            · subst hp
              have e : readIn [73, 82, 68, 67, 83, 76] [w1, w2, wPlay, w4, w5, w6] true (Req.zero 1) = (true, ⟨1, n1, w2, 1, n4, n5, n6, 0, 0, [], ⟨#[]⟩⟩) := by
                simp [readIn_true, readP, atL, c1, c4, c5, c6, a1, a4, a5, a6, readIn, Req.zero]
              exact both_good e (by rw [if_neg (by decide), d1, d4, d5, d6]) InR.nil (by simp [wordsR, h00, e1, e4, e5, e6])
            · by_cases hq : w3 = wCapt
              · subst hq
                have e : readIn [73, 82, 68, 67, 83, 76] [w1, w2, wCapt, w4, w5, w6] true (Req.zero 1) = (true, ⟨1, n1, w2, 2, n4, n5, n6, 0, 0, [], ⟨#[]⟩⟩) := by
                  simp [readIn_true, readP, atL, c1, c4, c5, c6, a1, a4, a5, a6, readIn, Req.zero]
                exact both_good e (by rw [if_pos rfl, d1, d4, d5, d6]) InR.nil (by simp [wordsR, h00, e1, e4, e5, e6])
              · refine (if_neg ?_).trans (if_neg ?_).symm
                · rintro ⟨h, _⟩
                  have e : readIn [73, 82, 68, 67, 83, 76] [w1, w2, w3, w4, w5, w6] true (Req.zero 1) = (false, ⟨1, n1, w2, 1, 0, 0, 0, 0, 0, [], ⟨#[]⟩⟩) := by
                    simp [readIn_true, readP, atL, c1, a1, readIn, Req.zero, hp, hq]
                  have h : (readIn [73, 82, 68, 67, 83, 76] [w1, w2, w3, w4, w5, w6] true (Req.zero 1)).1 = true := h
                  rw [e] at h
                  cases h
                · rintro ⟨_, h⟩
                  have := congrArg (fun l => atL l 3) h
                  simp [wordsR, atL, hq] at this
                  exact hp this.symm
          · exact both_bad 5 (by decide) (by decide) a6 InR.nil (by rintro ⟨_, h⟩; simp [fieldsR, opensR_iff] at h; omega)
        · exact both_bad 4 (by decide) (by decide) a5 InR.nil (by rintro ⟨_, h⟩; simp [fieldsR, opensR_iff] at h; omega)
      · exact both_bad 3 (by decide) (by decide) a4 InR.nil (by rintro ⟨_, h⟩; simp [fieldsR, opensR_iff] at h; omega)
    · exact both_bad 0 (by decide) (by decide) a1 InR.nil (by rintro ⟨h, _⟩; simp at h; omega)
  · refine (if_neg hl).trans ?_
    exact (wordsR_len hk (m := 7) (by intro r hr; simp [wordsR, hr]) hl).symm

theorem agree2 {l : List ByteArray} (hk : kindUpto (atL l 0) 12 = 2) (h0 : atL l 0 = wordR 2) : parseFrom l formsL = parseG l := by
  refine (parseFrom_one (k := 2) (w := wordR 2) (ff := ⟨#[73]⟩) (formsL.take 1) (formsL.drop 2) (by decide) (by decide) h0).trans ?_
  by_cases hl : l.length = 2
  · refine (if_pos hl).trans ?_
    obtain ⟨w0, w1, rfl⟩ := len2 hl
    have h00 : wordR 2 = w0 := h0.symm
    have hg : guessR [w0, w1] = ⟨2, numR w1, ⟨#[]⟩, 0, 0, 0, 0, 0, 0, [], ⟨#[]⟩⟩ := by
      unfold guessR
      rw [hk]
      rfl
    unfold parseG
    rw [hg]
    rcases num_cases2 w1 with ⟨n1, a1, b1, c1, d1, e1⟩ | ⟨a1, b1, c1⟩
    · have e : readIn [73] [w1] true (Req.zero 2) = (true, ⟨2, n1, ⟨#[]⟩, 0, 0, 0, 0, 0, 0, [], ⟨#[]⟩⟩) := by
        simp [readIn_true, readP, atL, c1, a1, readIn, Req.zero]
      exact both_good e (by rw [d1]) InR.nil (by simp [wordsR, h00, e1])
    · exact both_bad 0 (by decide) (by decide) a1 InR.nil (by rintro ⟨h, _⟩; simp at h; omega)
  · refine (if_neg hl).trans ?_
    exact (wordsR_len hk (m := 2) (by intro r hr; simp [wordsR, hr]) hl).symm

theorem agree3 {l : List ByteArray} (hk : kindUpto (atL l 0) 12 = 3) (h0 : atL l 0 = wordR 3) : parseFrom l formsL = parseG l := by
  refine (parseFrom_one (k := 3) (w := wordR 3) (ff := ⟨#[73]⟩) (formsL.take 2) (formsL.drop 3) (by decide) (by decide) h0).trans ?_
  by_cases hl : l.length = 2
  · refine (if_pos hl).trans ?_
    obtain ⟨w0, w1, rfl⟩ := len2 hl
    have h00 : wordR 3 = w0 := h0.symm
    have hg : guessR [w0, w1] = ⟨3, numR w1, ⟨#[]⟩, 0, 0, 0, 0, 0, 0, [], ⟨#[]⟩⟩ := by
      unfold guessR
      rw [hk]
      rfl
    unfold parseG
    rw [hg]
    rcases num_cases2 w1 with ⟨n1, a1, b1, c1, d1, e1⟩ | ⟨a1, b1, c1⟩
    · have e : readIn [73] [w1] true (Req.zero 3) = (true, ⟨3, n1, ⟨#[]⟩, 0, 0, 0, 0, 0, 0, [], ⟨#[]⟩⟩) := by
        simp [readIn_true, readP, atL, c1, a1, readIn, Req.zero]
      exact both_good e (by rw [d1]) InR.nil (by simp [wordsR, h00, e1])
    · exact both_bad 0 (by decide) (by decide) a1 InR.nil (by rintro ⟨h, _⟩; simp at h; omega)
  · refine (if_neg hl).trans ?_
    exact (wordsR_len hk (m := 2) (by intro r hr; simp [wordsR, hr]) hl).symm

theorem agree4 {l : List ByteArray} (hk : kindUpto (atL l 0) 12 = 4) (h0 : atL l 0 = wordR 4) : parseFrom l formsL = parseG l := by
  refine (parseFrom_one (k := 4) (w := wordR 4) (ff := ⟨#[73]⟩) (formsL.take 3) (formsL.drop 4) (by decide) (by decide) h0).trans ?_
  by_cases hl : l.length = 2
  · refine (if_pos hl).trans ?_
    obtain ⟨w0, w1, rfl⟩ := len2 hl
    have h00 : wordR 4 = w0 := h0.symm
    have hg : guessR [w0, w1] = ⟨4, numR w1, ⟨#[]⟩, 0, 0, 0, 0, 0, 0, [], ⟨#[]⟩⟩ := by
      unfold guessR
      rw [hk]
      rfl
    unfold parseG
    rw [hg]
    rcases num_cases2 w1 with ⟨n1, a1, b1, c1, d1, e1⟩ | ⟨a1, b1, c1⟩
    · have e : readIn [73] [w1] true (Req.zero 4) = (true, ⟨4, n1, ⟨#[]⟩, 0, 0, 0, 0, 0, 0, [], ⟨#[]⟩⟩) := by
        simp [readIn_true, readP, atL, c1, a1, readIn, Req.zero]
      exact both_good e (by rw [d1]) InR.nil (by simp [wordsR, h00, e1])
    · exact both_bad 0 (by decide) (by decide) a1 InR.nil (by rintro ⟨h, _⟩; simp at h; omega)
  · refine (if_neg hl).trans ?_
    exact (wordsR_len hk (m := 2) (by intro r hr; simp [wordsR, hr]) hl).symm

theorem agree5 {l : List ByteArray} (hk : kindUpto (atL l 0) 12 = 5) (h0 : atL l 0 = wordR 5) : parseFrom l formsL = parseG l := by
  refine (parseFrom_one (k := 5) (w := wordR 5) (ff := ⟨#[73]⟩) (formsL.take 4) (formsL.drop 5) (by decide) (by decide) h0).trans ?_
  by_cases hl : l.length = 2
  · refine (if_pos hl).trans ?_
    obtain ⟨w0, w1, rfl⟩ := len2 hl
    have h00 : wordR 5 = w0 := h0.symm
    have hg : guessR [w0, w1] = ⟨5, numR w1, ⟨#[]⟩, 0, 0, 0, 0, 0, 0, [], ⟨#[]⟩⟩ := by
      unfold guessR
      rw [hk]
      rfl
    unfold parseG
    rw [hg]
    rcases num_cases2 w1 with ⟨n1, a1, b1, c1, d1, e1⟩ | ⟨a1, b1, c1⟩
    · have e : readIn [73] [w1] true (Req.zero 5) = (true, ⟨5, n1, ⟨#[]⟩, 0, 0, 0, 0, 0, 0, [], ⟨#[]⟩⟩) := by
        simp [readIn_true, readP, atL, c1, a1, readIn, Req.zero]
      exact both_good e (by rw [d1]) InR.nil (by simp [wordsR, h00, e1])
    · exact both_bad 0 (by decide) (by decide) a1 InR.nil (by rintro ⟨h, _⟩; simp at h; omega)
  · refine (if_neg hl).trans ?_
    exact (wordsR_len hk (m := 2) (by intro r hr; simp [wordsR, hr]) hl).symm

theorem agree6 {l : List ByteArray} (hk : kindUpto (atL l 0) 12 = 6) (h0 : atL l 0 = wordR 6) : parseFrom l formsL = parseG l := by
  refine (parseFrom_one (k := 6) (w := wordR 6) (ff := ⟨#[73, 86]⟩) (formsL.take 5) (formsL.drop 6) (by decide) (by decide) h0).trans ?_
  by_cases hl : l.length = 3
  · refine (if_pos hl).trans ?_
    obtain ⟨w0, w1, w2, rfl⟩ := len3 hl
    have h00 : wordR 6 = w0 := h0.symm
    have hg : guessR [w0, w1, w2] = ⟨6, numR w1, ⟨#[]⟩, 0, 0, 0, 0, numR w2, 0, [], ⟨#[]⟩⟩ := by
      unfold guessR
      rw [hk]
      rfl
    unfold parseG
    rw [hg]
    rcases num_cases2 w1 with ⟨n1, a1, b1, c1, d1, e1⟩ | ⟨a1, b1, c1⟩
    · rcases num_cases2 w2 with ⟨n2, a2, b2, c2, d2, e2⟩ | ⟨a2, b2, c2⟩
      · have e : readIn [73, 86] [w1, w2] true (Req.zero 6) = (true, ⟨6, n1, ⟨#[]⟩, 0, 0, 0, 0, n2, 0, [], ⟨#[]⟩⟩) := by
          simp [readIn_true, readP, atL, c1, a1, c2, a2, readIn, Req.zero]
        exact both_good e (by rw [d1, d2]) InR.nil (by simp [wordsR, h00, e1, e2])
      · exact both_bad 1 (by decide) (by decide) a2 InR.nil (by rintro ⟨_, h⟩; simp [fieldsR, inR_iff] at h; omega)
    · exact both_bad 0 (by decide) (by decide) a1 InR.nil (by rintro ⟨h, _⟩; simp at h; omega)
  · refine (if_neg hl).trans ?_
    exact (wordsR_len hk (m := 3) (by intro r hr; simp [wordsR, hr]) hl).symm

theorem agree9 {l : List ByteArray} (hk : kindUpto (atL l 0) 12 = 9) (h0 : atL l 0 = wordR 9) : parseFrom l formsL = parseG l := by
  refine (parseFrom_one (k := 9) (w := wordR 9) (ff := ⟨#[73, 70]⟩) (formsL.take 8) (formsL.drop 9) (by decide) (by decide) h0).trans ?_
  by_cases hl : l.length = 3
  · refine (if_pos hl).trans ?_
    obtain ⟨w0, w1, w2, rfl⟩ := len3 hl
    have h00 : wordR 9 = w0 := h0.symm
    have hg : guessR [w0, w1, w2] = ⟨9, numR w1, ⟨#[]⟩, 0, 0, 0, 0, numR w2, 0, [], ⟨#[]⟩⟩ := by
      unfold guessR
      rw [hk]
      rfl
    unfold parseG
    rw [hg]
    rcases num_cases2 w1 with ⟨n1, a1, b1, c1, d1, e1⟩ | ⟨a1, b1, c1⟩
    · rcases num_cases2 w2 with ⟨n2, a2, b2, c2, d2, e2⟩ | ⟨a2, b2, c2⟩
      · have e : readIn [73, 70] [w1, w2] true (Req.zero 9) = (true, ⟨9, n1, ⟨#[]⟩, 0, 0, 0, 0, n2, 0, [], ⟨#[]⟩⟩) := by
          simp [readIn_true, readP, atL, c1, a1, c2, a2, readIn, Req.zero]
        exact both_good e (by rw [d1, d2]) InR.nil (by simp [wordsR, h00, e1, e2])
      · exact both_bad 1 (by decide) (by decide) a2 InR.nil (by rintro ⟨_, h⟩; simp [fieldsR, inR_iff] at h; omega)
    · exact both_bad 0 (by decide) (by decide) a1 InR.nil (by rintro ⟨h, _⟩; simp at h; omega)
  · refine (if_neg hl).trans ?_
    exact (wordsR_len hk (m := 3) (by intro r hr; simp [wordsR, hr]) hl).symm

theorem agree7 {l : List ByteArray} (hk : kindUpto (atL l 0) 12 = 7) (h0 : atL l 0 = wordR 7) : parseFrom l formsL = parseG l := by
  refine (parseFrom_one (k := 7) (w := wordR 7) (ff := ⟨#[73, 77]⟩) (formsL.take 6) (formsL.drop 7) (by decide) (by decide) h0).trans ?_
  by_cases hl : l.length = 3
  · refine (if_pos hl).trans ?_
    obtain ⟨w0, w1, w2, rfl⟩ := len3 hl
    have h00 : wordR 7 = w0 := h0.symm
    have hg : guessR [w0, w1, w2] = ⟨7, numR w1, ⟨#[]⟩, 0, 0, 0, 0, if w2 = wOn then 1 else 0, 0, [], ⟨#[]⟩⟩ := by
      unfold guessR
      rw [hk]
      rfl
    unfold parseG
    rw [hg]
    rcases num_cases2 w1 with ⟨n1, a1, b1, c1, d1, e1⟩ | ⟨a1, b1, c1⟩
    · by_cases hp : w2 = wOn
      · subst hp
        have e : readIn [73, 77] [w1, wOn] true (Req.zero 7) = (true, ⟨7, n1, ⟨#[]⟩, 0, 0, 0, 0, 1, 0, [], ⟨#[]⟩⟩) := by
          simp [readIn_true, readP, atL, c1, a1, readIn, Req.zero]
        exact both_good e (by rw [d1, if_pos rfl]) InR.nil (by simp [wordsR, h00, e1])
      · by_cases hq : w2 = wOff
        · subst hq
          have e : readIn [73, 77] [w1, wOff] true (Req.zero 7) = (true, ⟨7, n1, ⟨#[]⟩, 0, 0, 0, 0, 0, 0, [], ⟨#[]⟩⟩) := by
            simp [readIn_true, readP, atL, c1, a1, readIn, Req.zero]
          exact both_good e (by rw [d1, if_neg (by decide)]) InR.nil (by simp [wordsR, h00, e1])
        · refine (if_neg ?_).trans (if_neg ?_).symm
          · rintro ⟨h, _⟩
            have e : readIn [73, 77] [w1, w2] true (Req.zero 7) = (false, ⟨7, n1, ⟨#[]⟩, 0, 0, 0, 0, 0, 0, [], ⟨#[]⟩⟩) := by
              simp [readIn_true, readP, atL, c1, a1, readIn, Req.zero, hp, hq]
            have h : (readIn [73, 77] [w1, w2] true (Req.zero 7)).1 = true := h
            rw [e] at h
            cases h
          · rintro ⟨_, h⟩
            have := congrArg (fun l => atL l 2) h
            simp [wordsR, atL, hp] at this
            exact hq this.symm
    · exact both_bad 0 (by decide) (by decide) a1 InR.nil (by rintro ⟨h, _⟩; simp at h; omega)
  · refine (if_neg hl).trans ?_
    exact (wordsR_len hk (m := 3) (by intro r hr; simp [wordsR, hr]) hl).symm

theorem agree8 {l : List ByteArray} (hk : kindUpto (atL l 0) 12 = 8) (h0 : atL l 0 = wordR 8) : parseFrom l formsL = parseG l := by
  refine (parseFrom_one (k := 8) (w := wordR 8) (ff := ⟨#[73, 66]⟩) (formsL.take 7) (formsL.drop 8) (by decide) (by decide) h0).trans ?_
  by_cases hl : l.length = 3
  · refine (if_pos hl).trans ?_
    obtain ⟨w0, w1, w2, rfl⟩ := len3 hl
    have h00 : wordR 8 = w0 := h0.symm
    have hg : guessR [w0, w1, w2] = ⟨8, numR w1, ⟨#[]⟩, 0, 0, 0, 0, 0, 0, bytesOf w2, ⟨#[]⟩⟩ := by
      unfold guessR
      rw [hk]
      rfl
    unfold parseG
    rw [hg]
    rcases num_cases2 w1 with ⟨n1, a1, b1, c1, d1, e1⟩ | ⟨a1, b1, c1⟩
    · have e : readIn [73, 66] [w1, w2] true (Req.zero 8) = (true, ⟨8, n1, ⟨#[]⟩, 0, 0, 0, 0, 0, 0, bytesOf w2, ⟨#[]⟩⟩) := by
        simp [readIn_true, readP, atL, c1, a1, readIn, Req.zero]
      exact both_good e (by rw [d1]) (bytesOf_range w2) (by simp [wordsR, h00, e1, strOf_bytesOf])
    · exact both_bad 0 (by decide) (by decide) a1 (bytesOf_range w2) (by rintro ⟨h, _⟩; simp at h; omega)
  · refine (if_neg hl).trans ?_
    exact (wordsR_len hk (m := 3) (by intro r hr; simp [wordsR, hr]) hl).symm

theorem agree10 {l : List ByteArray} (hk : kindUpto (atL l 0) 12 = 10) (h0 : atL l 0 = wordR 10) : parseFrom l formsL = parseG l := by
  refine (parseFrom_one (k := 10) (w := wordR 10) (ff := ⟨#[73, 71]⟩) (formsL.take 9) (formsL.drop 10) (by decide) (by decide) h0).trans ?_
  by_cases hl : l.length = 3
  · refine (if_pos hl).trans ?_
    obtain ⟨w0, w1, w2, rfl⟩ := len3 hl
    have h00 : wordR 10 = w0 := h0.symm
    have hg : guessR [w0, w1, w2] = ⟨10, numR w1, ⟨#[]⟩, 0, 0, 0, 0, 0, IntKind.u64.wrap (numR w2), [], ⟨#[]⟩⟩ := by
      unfold guessR
      rw [hk]
      rfl
    unfold parseG
    rw [hg]
    rcases num_cases2 w1 with ⟨n1, a1, b1, c1, d1, e1⟩ | ⟨a1, b1, c1⟩
    · rcases num_cases2 w2 with ⟨n2, a2, b2, c2, d2, e2⟩ | ⟨a2, b2, c2⟩
      · have hu : IntKind.u64.wrap n2 = n2 := u64_id n2 (by omega) (by omega)
        have e : readIn [73, 71] [w1, w2] true (Req.zero 10) = (true, ⟨10, n1, ⟨#[]⟩, 0, 0, 0, 0, 0, n2, [], ⟨#[]⟩⟩) := by
          have hm : vpure.maxI n2 0 = n2 := by unfold vpure.maxI; rw [if_neg (by omega)]
          simp [readIn_true, readP, atL, c1, a1, c2, a2, readIn, Req.zero, hm, hu]
        exact both_good e (by rw [d1, d2, hu]) InR.nil (by simp [wordsR, h00, e1, e2, wrap_in (show -9223372036854775808 ≤ n2 by omega) (show n2 ≤ 9223372036854775807 by omega)])
      · exact both_bad 1 (by decide) (by decide) a2 InR.nil (by rintro ⟨_, h⟩; simp [fieldsR, u64_wrap] at h; omega)
    · exact both_bad 0 (by decide) (by decide) a1 InR.nil (by rintro ⟨h, _⟩; simp at h; omega)
  · refine (if_neg hl).trans ?_
    exact (wordsR_len hk (m := 3) (by intro r hr; simp [wordsR, hr]) hl).symm

theorem agree11 {l : List ByteArray} (hk : kindUpto (atL l 0) 12 = 11) (h0 : atL l 0 = wordR 11) : parseFrom l formsL = parseG l := by
  refine (parseFrom_one (k := 11) (w := wordR 11) (ff := ⟨#[84]⟩) (formsL.take 10) (formsL.drop 11) (by decide) (by decide) h0).trans ?_
  by_cases hl : l.length = 2
  · refine (if_pos hl).trans ?_
    obtain ⟨w0, w1, rfl⟩ := len2 hl
    have h00 : wordR 11 = w0 := h0.symm
    have hg : guessR [w0, w1] = ⟨11, 0, ⟨#[]⟩, 0, 0, 0, 0, 0, 0, [], w1⟩ := by
      unfold guessR
      rw [hk]
      rfl
    unfold parseG
    rw [hg]
    have e : readIn [84] [w1] true (Req.zero 11) = (true, ⟨11, 0, ⟨#[]⟩, 0, 0, 0, 0, 0, 0, [], w1⟩) := by
      simp [readIn_true, readP, atL, readIn, Req.zero]
    exact both_good e rfl InR.nil (by simp [wordsR, h00])
  · refine (if_neg hl).trans ?_
    exact (wordsR_len hk (m := 2) (by intro r hr; simp [wordsR, hr]) hl).symm

theorem agree12 {l : List ByteArray} (hk : kindUpto (atL l 0) 12 = 12) (h0 : atL l 0 = wordR 12) : parseFrom l formsL = parseG l := by
  refine (parseFrom_one (k := 12) (w := wordR 12) (ff := ⟨#[]⟩) (formsL.take 11) (formsL.drop 12) (by decide) (by decide) h0).trans ?_
  by_cases hl : l.length = 1
  · refine (if_pos hl).trans ?_
    obtain ⟨w0, rfl⟩ := len1 hl
    have h00 : wordR 12 = w0 := h0.symm
    have hg : guessR [w0] = ⟨12, 0, ⟨#[]⟩, 0, 0, 0, 0, 0, 0, [], ⟨#[]⟩⟩ := by
      unfold guessR
      rw [hk]
      rfl
    unfold parseG
    rw [hg]
    exact both_good (cs := []) (ws := []) (q := Req.zero 12) rfl rfl InR.nil (by simp [wordsR, h00])
  · refine (if_neg hl).trans ?_
    exact (wordsR_len hk (m := 1) (by intro r hr; simp [wordsR, hr]) hl).symm

theorem forms_words : ∀ f ∈ formsL, ∃ k : Nat, k < 12 ∧ f.2.1 = wordR ((k + 1 : Nat) : Int) := by
  intro f hf
  simp only [formsL, List.mem_cons, List.not_mem_nil, or_false] at hf
  rcases hf with rfl | rfl | rfl | rfl | rfl | rfl | rfl | rfl | rfl | rfl | rfl | rfl
  · exact ⟨0, by decide, rfl⟩
  · exact ⟨1, by decide, rfl⟩
  · exact ⟨2, by decide, rfl⟩
  · exact ⟨3, by decide, rfl⟩
  · exact ⟨4, by decide, rfl⟩
  · exact ⟨5, by decide, rfl⟩
  · exact ⟨6, by decide, rfl⟩
  · exact ⟨7, by decide, rfl⟩
  · exact ⟨8, by decide, rfl⟩
  · exact ⟨9, by decide, rfl⟩
  · exact ⟨10, by decide, rfl⟩
  · exact ⟨11, by decide, rfl⟩

theorem guess_byte' (l : List ByteArray) : InR (guessR l).data := by
  unfold guessR
  simp only
  split
  · exact bytesOf_range _
  · exact InR.nil

theorem parse_agree (l : List ByteArray) : parseFrom l formsL = parseG l := by
  rcases kind_cases (atL l 0) with ⟨hk, hno⟩ | ⟨k, hk12, hk, hw⟩
  · rw [parseFrom_none formsL (fun f hf => by
      obtain ⟨k, h1, h2⟩ := forms_words f hf
      rw [h2]
      exact hno k h1)]
    refine (guess_wrong fun hh => ?_).symm
    have := ((validR_iff (guess_byte' l)).1 hh.1).1
    have e : (guessR l).kind = 0 := hk
    omega
  · have : k = 0 ∨ k = 1 ∨ k = 2 ∨ k = 3 ∨ k = 4 ∨ k = 5 ∨ k = 6 ∨ k = 7 ∨ k = 8 ∨ k = 9 ∨ k = 10 ∨ k = 11 := by omega
    rcases this with rfl | rfl | rfl | rfl | rfl | rfl | rfl | rfl | rfl | rfl | rfl | rfl
    · exact agree1 hk hw
    · exact agree2 hk hw
    · exact agree3 hk hw
    · exact agree4 hk hw
    · exact agree5 hk hw
    · exact agree6 hk hw
    · exact agree7 hk hw
    · exact agree8 hk hw
    · exact agree9 hk hw
    · exact agree10 hk hw
    · exact agree11 hk hw
    · exact agree12 hk hw


end Go.Proofs.Ytimhjbihhchieaa.Q
