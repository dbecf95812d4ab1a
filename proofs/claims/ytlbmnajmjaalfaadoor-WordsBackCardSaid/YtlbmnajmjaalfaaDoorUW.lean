/- The words of a line: the program's reader and the reference come to the same. Conditions: as each states. -/
import Derived.Test.YtlbmnajmjaalfaaDoorUA
import Derived.Test.YtlbmnajmjaalfaaDoorPx
namespace Go.Proofs.YtlbmnajmjaalfaaDoor.U
set_option linter.unusedSimpArgs false
set_option linter.unusedVariables false
open Go.RowKit Go.Proofs.YtlbmnajmjaalfaaDoor.P Go.Proofs.YtlbmnajmjaalfaaDoorW.PrintWords Go.Proofs.YtlbmnajmjaalfaaDoorW.PrintLast Go.Proofs.YtlbmnajmjaalfaaDoorW.PrintMore Go.Proofs.YtlbmnajmjaalfaaDoorW.Mine

/-- A quoted word behind its first quote: the word, and what is left behind the last one. -/
def qword : List Int → List Int → Option (List Int × List Int)
  | [], _ => none
  | c :: cs, acc => if c = 34 then some (acc, cs) else if c = 10 then none else if c = 13 then none else if c = 92 then
      (match cs with | [] => none | x :: cs' => if (wmeaning x).2 = true then qword cs' (acc ++ [(wmeaning x).1]) else none) else qword cs (acc ++ [c])

theorem qword_len : ∀ (n : Nat) (bs acc w r : List Int), bs.length ≤ n → qword bs acc = some (w, r) → r.length < bs.length ∧ r = bs.drop (bs.length - r.length) := by
  intro n
  induction n with
  | zero => intro bs acc w r hn h; cases bs with
    | nil => simp [qword] at h
    | cons _ _ => simp at hn
  | succ n ih =>
    intro bs acc w r hn h
    cases bs with
    | nil => simp [qword] at h
    | cons c cs =>
      have hdrop : ∀ (m : List Int), r.length < m.length → r = m.drop (m.length - r.length) → m.length ≤ cs.length → (∃ p, cs = p ++ m) → r.length < (c :: cs).length ∧ r = (c :: cs).drop ((c :: cs).length - r.length) := by
        intro m h1 h2 h3 ⟨p, hp⟩
        refine ⟨by simp; omega, ?_⟩
        rw [hp]
        have e : (c :: (p ++ m)).length - r.length = (c :: p).length + (m.length - r.length) := by simp; omega
        rw [e, show c :: (p ++ m) = (c :: p) ++ m from rfl, List.drop_append, List.drop_eq_nil_of_le (by omega), List.nil_append]
        rw [show (c :: p).length + (m.length - r.length) - (c :: p).length = m.length - r.length by omega]
        exact h2
      unfold qword at h
      split at h
      · injection h with h
        injection h with h1 h2
        subst h2
        exact ⟨by simp, by simp⟩
      split at h
      · cases h
      split at h
      · cases h
      split at h
      · cases cs with
        | nil => cases h
        | cons x cs' =>
          simp only at h
          split at h
          · obtain ⟨h1, h2⟩ := ih cs' _ w r (by simp at hn; omega) h
            exact hdrop cs' h1 h2 (by simp) ⟨[x], rfl⟩
          · cases h
      · obtain ⟨h1, h2⟩ := ih cs _ w r (by simp at hn; omega) h
        exact hdrop cs h1 h2 (Nat.le_refl _) ⟨[], rfl⟩

/-- The end of a line: too many words, or these. -/
def fin (out : List ByteArray) : List ByteArray × Int := if 64 < out.length then ([], 3) else (out, 0)
/-- What follows a word. -/
def after (r : List Int) (out : List ByteArray) : List ByteArray × Int :=
  match r with
  | [] => fin out
  | c :: cs => if c = 32 then wsplit cs 0 [] out else ([], 5)

theorem wsplit_ended (bs : List Int) (word : List Int) (acc : List ByteArray) : wsplit bs 4 word acc = after bs (acc ++ [strOfNums word]) := by
  cases bs with
  | nil => simp [wsplit, after, fin]
  | cons c cs =>
    unfold wsplit after
    by_cases h : c = 32 <;> simp [wtake, h]
theorem wsplit_plain : ∀ (bs : List Int) (word : List Int) (acc : List ByteArray), wsplit bs 1 word acc = after (bs.dropWhile wsimple) (acc ++ [strOfNums (word ++ bs.takeWhile wsimple)]) := by
  intro bs
  induction bs with
  | nil => intro word acc; simp [wsplit, after, fin]
  | cons c cs ih =>
    intro word acc
    by_cases h : c = 32
    · subst h
      have hs : wsimple 32 = false := by decide
      simp [wsplit, wtake, hs, after]
    · cases hs : wsimple c with
      | true =>
        have : wsplit (c :: cs) 1 word acc = wsplit cs 1 (word ++ [c]) acc := by
          rw [wsplit]; simp [wtake, h, hs]
        rw [this, ih]
        simp [hs]
      | false =>
        have : wsplit (c :: cs) 1 word acc = ([], 5) := by
          rw [wsplit]; simp [wtake, h, hs]
        rw [this]
        simp [hs, after, h]
theorem wsplit_quoted : ∀ (n : Nat) (bs : List Int) (word : List Int) (acc : List ByteArray), bs.length ≤ n → wsplit bs 2 word acc = match qword bs word with
    | none => ([], 5)
    | some (w, r) => after r (acc ++ [strOfNums w]) := by
  intro n
  induction n with
  | zero => intro bs word acc hn; cases bs with
    | nil => simp [wsplit, qword]
    | cons _ _ => simp at hn
  | succ n ih =>
    intro bs word acc hn
    cases bs with
    | nil => simp [wsplit, qword]
    | cons c cs =>
      have hn' : cs.length ≤ n := by simpa using hn
      by_cases h34 : c = 34
      · subst h34
        rw [wsplit, qword.eq_def]
        simp [wtake, wsplit_ended]
      by_cases h10 : c = 10
      · subst h10
        rw [wsplit, qword.eq_def]; simp [wtake]
      by_cases h13 : c = 13
      · subst h13
        rw [wsplit, qword.eq_def]; simp [wtake]
      by_cases h92 : c = 92
      · subst h92
        rw [wsplit]
        cases cs with
        | nil => simp [wtake, qword, wsplit]
        | cons x cs' =>
          simp only [wtake]
          rw [qword]
          simp only [show ¬ ((92 : Int) = 34) by decide, show ¬ ((92 : Int) = 10) by decide, show ¬ ((92 : Int) = 13) by decide, if_false, if_true, show ¬ ((2 : Int) = 0) by decide, show ¬ ((2 : Int) = 1) by decide, show ¬ ((2 : Int) = 4) by decide]
          rw [wsplit]
          simp only [wtake, show ¬ ((3 : Int) = 0) by decide, show ¬ ((3 : Int) = 1) by decide, show ¬ ((3 : Int) = 4) by decide, show ¬ ((3 : Int) = 2) by decide, if_false]
          by_cases hm : (wmeaning x).2 = true
          · rw [if_pos hm, if_pos hm]
            exact ih cs' _ acc (by simp at hn'; omega)
          · rw [if_neg hm, if_neg hm]
      · have e1 : wsplit (c :: cs) 2 word acc = wsplit cs 2 (word ++ [c]) acc := by
          rw [wsplit]; simp [wtake, h34, h10, h13, h92]
        have e2 : qword (c :: cs) word = qword cs (word ++ [c]) := by
          rw [qword.eq_def]; simp [h34, h10, h13, h92]
        rw [e1, e2]
        exact ih cs _ acc hn'
/-- A word at the beginning. -/
theorem wsplit_begin (bs : List Int) (acc : List ByteArray) : wsplit bs 0 [] acc = match bs with
    | [] => ([], 5)
    | c :: cs => if c = 34 then (match qword cs [] with | none => ([], 5) | some (w, r) => after r (acc ++ [strOfNums w]))
        else if wsimple c = true then after (bs.dropWhile wsimple) (acc ++ [strOfNums (bs.takeWhile wsimple)]) else ([], 5) := by
  cases bs with
  | nil => simp [wsplit]
  | cons c cs =>
    simp only
    by_cases h : c = 34
    · subst h
      rw [if_pos rfl, wsplit]
      simp only [wtake, if_true]
      exact wsplit_quoted _ cs [] acc (Nat.le_refl _)
    · rw [if_neg h, wsplit]
      simp only [wtake, if_neg h, if_true]
      cases hs : wsimple c with
      | true => simp [wsplit_plain, hs]
      | false => simp
theorem takeWhile_take {α : Type} (p : α → Bool) : ∀ l : List α, l.take (l.takeWhile p).length = l.takeWhile p ∧ l.drop (l.takeWhile p).length = l.dropWhile p
  | [] => by simp
  | x :: l => by
    obtain ⟨h1, h2⟩ := takeWhile_take p l
    cases h : p x <;> simp [h, h1, h2]
theorem split_words_len (s : ByteArray) : (words_Split.p s).1.length ≤ 64 := by
  have hw : ∀ (bs : List Int) (st : Int) (word : List Int) (ws : List ByteArray), (wsplit bs st word ws).1.length ≤ 64 := by
    intro bs
    induction bs with
    | nil => intro st word ws; unfold wsplit; split <;> simp <;> split <;> simp_all
    | cons c cs ih => intro st word ws; unfold wsplit; split <;> simp_all
  unfold words_Split.p
  split
  · simp
  split
  · simp
  · exact hw _ _ _ _
end Go.Proofs.YtlbmnajmjaalfaaDoor.U
