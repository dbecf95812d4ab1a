/- A line that was split is joined from the same words, and is not longer. Conditions: as each states. -/
import Derived.Test.YtlbmnajmjaalfaaDoorUJ
namespace Go.Proofs.YtlbmnajmjaalfaaDoor.U
set_option linter.unusedSimpArgs false
set_option linter.unusedVariables false
open Go.RowKit Go.Proofs.YtlbmnajmjaalfaaDoor.P Go.Proofs.YtlbmnajmjaalfaaDoorW.PrintWords Go.Proofs.YtlbmnajmjaalfaaDoorW.PrintLast Go.Proofs.YtlbmnajmjaalfaaDoorW.PrintMore Go.Proofs.YtlbmnajmjaalfaaDoorW.Mine

def InR (l : List Int) : Prop := ∀ x ∈ l, 0 ≤ x ∧ x < 256
theorem InR.cons {c : Int} {l : List Int} (h : InR (c :: l)) : (0 ≤ c ∧ c < 256) ∧ InR l := ⟨h c List.mem_cons_self, fun x hx => h x (List.mem_cons_of_mem _ hx)⟩
theorem InR.mk {c : Int} {l : List Int} (h : 0 ≤ c ∧ c < 256) (h' : InR l) : InR (c :: l) := fun x hx => by
  rcases List.mem_cons.1 hx with rfl | hx
  · exact h
  · exact h' x hx
theorem InR.append {a b : List Int} (h : InR a) (h' : InR b) : InR (a ++ b) := fun x hx => by
  rcases List.mem_append.1 hx with hx | hx
  · exact h x hx
  · exact h' x hx
theorem InR.nil : InR [] := fun x hx => by cases hx
theorem meaning_inR (c : Int) : 0 ≤ (wmeaning c).1 ∧ (wmeaning c).1 < 256 := by
  unfold wmeaning
  repeat' split
  all_goals simp
theorem esc_meaning (x : Int) (h : (wmeaning x).2 = true) : (esc (wmeaning x).1).length ≤ 2 := (esc_len _).2
theorem qword_cost : ∀ (n : Nat) (bs acc w r : List Int), bs.length ≤ n → InR bs → qword bs acc = some (w, r) → ∃ w', w = acc ++ w' ∧ InR w' ∧ (escs w').length + 1 + r.length ≤ bs.length ∧ InR r := by
  intro n
  induction n with
  | zero => intro bs acc w r hn _ h; cases bs with
    | nil => simp [qword] at h
    | cons _ _ => simp at hn
  | succ n ih =>
    intro bs acc w r hn hR h
    cases bs with
    | nil => simp [qword] at h
    | cons c cs =>
      obtain ⟨hc, hcs⟩ := hR.cons
      have hn' : cs.length ≤ n := by simpa using hn
      rw [qword.eq_def] at h
      simp only at h
      by_cases h34 : c = 34
      · rw [if_pos h34] at h
        injection h with h
        injection h with h1 h2
        subst h1; subst h2
        exact ⟨[], by simp, InR.nil, by simp [escs]; omega, hcs⟩
      rw [if_neg h34] at h
      by_cases h10 : c = 10
      · rw [if_pos h10] at h; cases h
      rw [if_neg h10] at h
      by_cases h13 : c = 13
      · rw [if_pos h13] at h; cases h
      rw [if_neg h13] at h
      by_cases h92 : c = 92
      · rw [if_pos h92] at h
        cases cs with
        | nil => cases h
        | cons x cs' =>
          obtain ⟨hx, hcs'⟩ := hcs.cons
          simp only at h
          by_cases hm : (wmeaning x).2 = true
          · rw [if_pos hm] at h
            obtain ⟨w', h1, h2, h3, h4⟩ := ih cs' _ w r (by simp at hn'; omega) hcs' h
            refine ⟨(wmeaning x).1 :: w', by rw [h1]; simp, InR.mk (meaning_inR x) h2, ?_, h4⟩
            have := (esc_len (wmeaning x).1).2
            rw [escs_cons, List.length_append, List.length_cons, List.length_cons]
            omega
          · rw [if_neg hm] at h; cases h
      · rw [if_neg h92] at h
        obtain ⟨w', h1, h2, h3, h4⟩ := ih cs _ w r hn' hcs h
        refine ⟨c :: w', by rw [h1]; simp, InR.mk hc h2, ?_, h4⟩
        have he : esc c = [c] := by unfold esc; rw [if_neg (by omega), if_neg h10, if_neg h13]
        rw [escs_cons, he, List.length_append, List.length_cons, List.length_cons, List.length_nil]
        omega
theorem wordL_cost (w : List Int) : (wordL w).length ≤ (escs w).length + 2 := by
  unfold wordL
  have := escs_len w
  split
  · omega
  · simp
theorem wlineL_cons (w : List Int) (L : List (List Int)) (h : L ≠ []) : wlineL (w :: L) = wordL w ++ 32 :: wlineL L := by
  cases L with
  | nil => exact absurd rfl h
  | cons v l => rfl
/-- What is split right: the words, their bytes, and the line that is written of them. -/
theorem wsplit_right : ∀ (n : Nat) (bs : List Int) (acc out : List ByteArray), bs.length ≤ n → InR bs → wsplit bs 0 [] acc = (out, 0) →
    ∃ L : List (List Int), L ≠ [] ∧ out = acc ++ L.map strOfNums ∧ (∀ w ∈ L, InR w) ∧ (wlineL L).length ≤ bs.length ∧ out.length ≤ 64 := by
  intro n
  induction n with
  | zero => intro bs acc out hn _ h; cases bs with
    | nil => simp [wsplit] at h
    | cons _ _ => simp at hn
  | succ n ih =>
    intro bs acc out hn hR h
    -- behind a word
    have key : ∀ (w r : List Int), InR w → InR r → r.length < bs.length → (wordL w).length + r.length ≤ bs.length → after r (acc ++ [strOfNums w]) = (out, 0) →
        ∃ L : List (List Int), L ≠ [] ∧ out = acc ++ L.map strOfNums ∧ (∀ w ∈ L, InR w) ∧ (wlineL L).length ≤ bs.length ∧ out.length ≤ 64 := by
      intro w r hw hr hlt hlen ha
      unfold after at ha
      cases r with
      | nil =>
        simp only [fin] at ha
        by_cases h64 : 64 < (acc ++ [strOfNums w]).length
        · rw [if_pos h64] at ha; injection ha with _ h2; cases h2
        · rw [if_neg h64] at ha
          injection ha with h1 _
          rw [h1] at h64
          refine ⟨[w], by simp, by rw [← h1]; simp, fun v hv => ?_, by simpa [wlineL] using hlen, by omega⟩
          rw [List.mem_singleton] at hv
          rw [hv]; exact hw
      | cons c cs =>
        simp only at ha
        split at ha
        · obtain ⟨L, h1, h2, h3, h4, h5⟩ := ih cs _ out (by simp at hlt hn; omega) hr.cons.2 ha
          refine ⟨w :: L, by simp, by rw [h2]; simp, fun v hv => ?_, ?_, h5⟩
          · rcases List.mem_cons.1 hv with rfl | hv
            · exact hw
            · exact h3 v hv
          · rw [wlineL_cons w L h1, List.length_append, List.length_cons]
            simp at hlen
            omega
        · injection ha with _ h2; cases h2
    rw [wsplit_begin] at h
    cases bs with
    | nil => simp at h
    | cons c cs =>
      simp only at h
      obtain ⟨hc, hcs⟩ := hR.cons
      by_cases h34 : c = 34
      · rw [if_pos h34] at h
        cases hq : qword cs [] with
        | none => rw [hq] at h; simp at h
        | some wr =>
          obtain ⟨w, r⟩ := wr
          rw [hq] at h
          simp only at h
          obtain ⟨w', h1, h2, h3, h4⟩ := qword_cost _ _ _ _ _ (Nat.le_refl _) hcs hq
          rw [List.nil_append] at h1
          subst h1
          have := wordL_cost w
          exact key w r h2 h4 (by simp; omega) (by simp; omega) h
      · rw [if_neg h34] at h
        split at h
        · rename_i hs
          obtain ⟨t1, t2⟩ := takeWhile_take wsimple (c :: cs)
          have hw : InR ((c :: cs).takeWhile wsimple) := fun x hx => hR x ((List.takeWhile_prefix wsimple).subset hx)
          have hr : InR ((c :: cs).dropWhile wsimple) := fun x hx => hR x ((List.dropWhile_suffix wsimple).subset hx)
          have hl : ((c :: cs).takeWhile wsimple).length + ((c :: cs).dropWhile wsimple).length = (c :: cs).length := by
            rw [← List.length_append, List.takeWhile_append_dropWhile]
          have hpos : 0 < ((c :: cs).takeWhile wsimple).length := by simp [hs]
          have hb : wordL ((c :: cs).takeWhile wsimple) = (c :: cs).takeWhile wsimple := by
            unfold wordL
            rw [if_pos]
            unfold bareL
            rw [Bool.and_eq_true]
            refine ⟨List.all_takeWhile, ?_⟩
            cases hh : (c :: cs).takeWhile wsimple with
            | nil => rw [hh] at hpos; simp at hpos
            | cons _ _ => rfl
          exact key _ _ hw hr (by omega) (by rw [hb]; omega) h
        · injection h with _ h2; cases h2
theorem Bts_map (L : List (List Int)) (h : ∀ w ∈ L, InR w) : Bts (L.map strOfNums) = L := by
  unfold Bts
  rw [List.map_map]
  conv => rhs; rw [← List.map_id L]
  apply List.map_congr_left
  intro w hw
  exact bytesOf_strOf w (h w hw)
theorem wordL_inR {w : List Int} (h : InR w) : InR (wordL w) := by
  have he : ∀ l : List Int, InR l → InR (escs l) := by
    intro l
    induction l with
    | nil => intro _; exact InR.nil
    | cons c l ih =>
      intro hl
      rw [escs_cons]
      refine InR.append ?_ (ih hl.cons.2)
      have hc := hl.cons.1
      unfold esc
      split
      · exact InR.mk (by omega) (InR.mk hc InR.nil)
      split
      · exact InR.mk (by omega) (InR.mk (by omega) InR.nil)
      split
      · exact InR.mk (by omega) (InR.mk (by omega) InR.nil)
      · exact InR.mk hc InR.nil
  unfold wordL
  split
  · exact h
  · exact InR.mk (by omega) (InR.append (he w h) (InR.mk (by omega) InR.nil))
theorem wlineL_inR : ∀ (L : List (List Int)), (∀ w ∈ L, InR w) → InR (wlineL L)
  | [], _ => InR.nil
  | [w], h => wordL_inR (h w List.mem_cons_self)
  | w :: v :: l, h => InR.append (wordL_inR (h w List.mem_cons_self)) (InR.mk (by omega) (wlineL_inR (v :: l) (fun x hx => h x (List.mem_cons_of_mem _ hx))))
theorem jline_inR (l : List ByteArray) : InR (jline l) := wlineL_inR _ (fun w hw => by
  obtain ⟨s, _, rfl⟩ := List.mem_map.1 hw
  exact bytesOf_range s)
theorem strOf_size (l : List Int) : (strOfNums l).size = l.length := by
  have : (strOfNums l).data.size = l.length := by simp [strOfNums]
  exact this
theorem map_strOf_Bts (l : List ByteArray) : (Bts l).map strOfNums = l := by
  unfold Bts
  rw [List.map_map]
  conv => rhs; rw [← List.map_id l]
  apply List.map_congr_left
  intro w _
  exact strOf_bytesOf w
theorem wlineL_pos : ∀ (L : List (List Int)), L ≠ [] → 0 < (wlineL L).length
  | [], h => absurd rfl h
  | [w], _ => by
    unfold wlineL wordL bareL
    cases w with
    | nil => simp
    | cons c l => split <;> simp
  | w :: v :: l, _ => by rw [wlineL]; simp only [List.length_append, List.length_cons]; omega
/-- Words come back from their line. -/
theorem split_join (l : List ByteArray) (h64 : l.length ≤ 64) (hlen : (jline l).length ≤ 4096) : words_Split.p (strOfNums (jline l)) = (l, 0) := by
  unfold words_Split.p
  rw [strOf_size, if_neg (by omega)]
  cases l with
  | nil => rfl
  | cons w r =>
    have hne : Bts (w :: r) ≠ [] := by simp [Bts]
    rw [if_neg (by have := wlineL_pos _ hne; unfold jline; omega), bytesOf_strOf _ (jline_inR _)]
    unfold jline
    rw [wsplit_wline _ _ hne, List.nil_append, map_strOf_Bts]
    unfold fin
    rw [if_neg (by omega)]
/-- A line that was split right is joined from the same words, and is not longer. -/
theorem join_split (s : ByteArray) (l : List ByteArray) (h : words_Split.p s = (l, 0)) : l.length ≤ 64 ∧ (jline l).length ≤ s.size ∧ s.size ≤ 4096 := by
  unfold words_Split.p at h
  split at h
  · injection h with _ h2; cases h2
  split at h
  · injection h with h1 _
    subst h1
    exact ⟨by simp, by simp [jline, Bts, wlineL], by omega⟩
  · obtain ⟨L, h1, h2, h3, h4, h5⟩ := wsplit_right _ _ _ _ (Nat.le_refl _) (bytesOf_range s) h
    rw [List.nil_append] at h2
    subst h2
    refine ⟨h5, ?_, by omega⟩
    unfold jline
    rw [Bts_map L h3]
    rw [bytesOf_length] at h4
    exact h4
theorem split_err (s : ByteArray) (h : (words_Split.p s).2 ≠ 0) : (words_Split.p s).1 = [] := by
  have hw : ∀ (bs : List Int) (st : Int) (word : List Int) (ws : List ByteArray), (wsplit bs st word ws).2 ≠ 0 → (wsplit bs st word ws).1 = [] := by
    intro bs
    induction bs with
    | nil =>
      intro st word ws
      unfold wsplit
      split
      · split
        · simp
        · simp
      · simp
    | cons c cs ih =>
      intro st word ws
      unfold wsplit
      split
      · exact ih _ _ _
      · simp
  unfold words_Split.p at h ⊢
  split
  · rfl
  split
  · rfl
  · rename_i h1 h2
    rw [if_neg h1, if_neg h2] at h
    exact hw _ _ _ _ h
end Go.Proofs.YtlbmnajmjaalfaaDoor.U
