/- The reference's Join is the program's. Conditions: as each states. -/
import Derived.Test.YtlbmnajmjaalfaaUO
namespace Go.Proofs.Ytlbmnajmjaalfaa.U
set_option linter.unusedSimpArgs false
set_option linter.unusedVariables false
open Go.RowKit Go.Proofs.Ytlbmnajmjaalfaa.P Go.Proofs.YtlbmnajmjaalfaaW.PrintWords Go.Proofs.YtlbmnajmjaalfaaW.PrintLast Go.Proofs.YtlbmnajmjaalfaaW.PrintMore Go.Proofs.YtlbmnajmjaalfaaW.Mine

theorem refplain_l0 (s : ByteArray) (hs : s.size ≤ 4294967296) : ∀ (d i : Nat), i + d = s.size → Ev (fun k => soundserviceref02_Plain.l0 k s i) (((bytesOf s).drop i).all wsimple && (s.size != 0)) := by
  intro d
  induction d with
  | zero =>
    intro i hi
    refine Ev.mk 1 (fun k hk => ?_)
    obtain ⟨k, rfl⟩ : ∃ m, k = m + 1 := ⟨k - 1, by omega⟩
    simp only [soundserviceref02_Plain.l0]
    rw [if_neg (by omega), drop_end s i (by omega)]
    congr 1
    simp only [List.all_nil, Bool.true_and]
    by_cases h : s.size = 0
    · rw [toList_nil.2 h]; simp [h]
    · have h2 : s.toList ≠ [] := fun e => h (toList_nil.1 e)
      rw [bne_iff_ne.2 h2, bne_iff_ne.2 h]
  | succ d ih =>
    intro i hi
    rw [drop_cons s i (by omega)]
    obtain ⟨K, hK⟩ := ih (i + 1) (by omega)
    dsimp only at hK
    refine Ev.mk (K + 1) (fun k hk => ?_)
    obtain ⟨k, rfl⟩ : ∃ m, k = m + 1 := ⟨k - 1, by omega⟩
    simp only [soundserviceref02_Plain.l0]
    rw [if_pos (by omega), if_pos (by omega), plain_eq]
    simp only [Option.bind_some]
    cases hc : wsimple (bt s (i : Int)) with
    | true => rw [if_pos rfl, wrap_succ i (by omega), hK k (by omega)]; simp [hc]
    | false => simp [hc]
theorem refplain_f (s : ByteArray) (hs : s.size ≤ 4294967296) : Ev (fun k => soundserviceref02_Plain.f k s) (bareL (bytesOf s)) := by
  obtain ⟨K, hK⟩ := refplain_l0 s hs s.size 0 (by omega)
  dsimp only at hK
  refine Ev.mk K (fun k hk => ?_)
  unfold soundserviceref02_Plain.f
  have h := hK k hk
  rw [Int.natCast_zero] at h
  rw [h]
  congr 1
  unfold bareL
  rw [List.drop_zero]
  congr 1
  by_cases h : s.size = 0
  · rw [(bytesOf_nil_iff s).2 h, h]; rfl
  · cases hb : bytesOf s with
    | nil => exact absurd ((bytesOf_nil_iff s).1 hb) h
    | cons _ _ => simpa using h
theorem refwritten_l0 (s : ByteArray) (hs : s.size ≤ 4294967296) : ∀ (d i : Nat) (acc : List Int), i + d = s.size → acc.length + 2 * (s.size - i) < 140737488355300 →
    Ev (fun k => soundserviceref02_written.l0 k s acc i) (strOfNums (acc ++ escs ((bytesOf s).drop i) ++ [34])) := by
  intro d
  induction d with
  | zero =>
    intro i acc hi hl
    refine Ev.mk 1 (fun k hk => ?_)
    obtain ⟨k, rfl⟩ : ∃ m, k = m + 1 := ⟨k - 1, by omega⟩
    simp only [soundserviceref02_written.l0]
    rw [if_neg (by omega), if_pos (by omega), drop_end s i (by omega), escs_nil, List.append_nil]
  | succ d ih =>
    intro i acc hi hl
    rw [drop_cons s i (by omega), escs_cons]
    have hel := esc_len (bt s (i : Int))
    obtain ⟨K, hK⟩ := ih (i + 1) (acc ++ esc (bt s (i : Int))) (by omega) (by rw [List.length_append]; omega)
    dsimp only at hK
    have e2 : acc ++ (esc (bt s (i : Int)) ++ escs ((bytesOf s).drop (i + 1))) ++ [34] = acc ++ esc (bt s (i : Int)) ++ escs ((bytesOf s).drop (i + 1)) ++ [34] := by simp
    rw [e2]
    refine Ev.mk (K + 2) (fun k hk => ?_)
    obtain ⟨k, rfl⟩ : ∃ m, k = m + 2 := ⟨k - 2, by omega⟩
    rw [← hK k (by omega)]
    simp only [soundserviceref02_written.l0]
    rw [if_pos (by omega), if_pos (by omega)]
    by_cases h34 : bt s (i : Int) = 34
    · rw [if_pos h34]
      simp only [soundserviceref02_written.j1, h34, beq_self_eq_true, if_true, Option.bind_some]
      rw [if_pos (by simp; omega), wrap_succ i (by omega)]
      simp [esc]
    rw [if_neg h34]
    by_cases h92 : bt s (i : Int) = 92
    · simp only [soundserviceref02_written.j1, h92, beq_self_eq_true, if_true, Option.bind_some]
      rw [if_pos (by simp; omega), wrap_succ i (by omega)]
      simp [esc]
    have hb : (bt s (i : Int) == 92) = false := beq_eq_false_iff_ne.mpr h92
    simp only [soundserviceref02_written.j1, hb, Bool.false_eq_true, if_false]
    by_cases h10 : bt s (i : Int) = 10
    · rw [if_pos h10]
      simp only [Option.bind_some]
      rw [if_pos (by simp; omega), wrap_succ i (by omega), h10]
      simp [esc]
    rw [if_neg h10]
    by_cases h13 : bt s (i : Int) = 13
    · rw [if_pos h13]
      simp only [Option.bind_some]
      rw [if_pos (by simp; omega), wrap_succ i (by omega), h13]
      simp [esc]
    rw [if_neg h13, if_pos (by omega), wrap_succ i (by omega)]
    simp [esc, h34, h92, h10, h13]
theorem refwritten_f (s : ByteArray) (hs : s.size ≤ 4294967296) : Ev (fun k => soundserviceref02_written.f k s) (strOfNums (wordL (bytesOf s))) := by
  obtain ⟨K, hK⟩ := refplain_f s hs
  obtain ⟨K', hK'⟩ := refwritten_l0 s hs s.size 0 [34] (by omega) (by simp; omega)
  dsimp only at hK hK'
  refine Ev.mk (K + K') (fun k hk => ?_)
  unfold soundserviceref02_written.f
  rw [hK k (by omega)]
  simp only [Option.bind_some]
  unfold wordL
  cases hb : bareL (bytesOf s) with
  | true => rw [if_pos rfl, if_pos rfl, strOf_bytesOf]
  | false =>
    simp only [Bool.false_eq_true, if_false]
    have h := hK' k (by omega)
    rw [Int.natCast_zero] at h
    rw [h]
    simp
theorem strOf_append (a b : List Int) : strOfNums a ++ strOfNums b = strOfNums (a ++ b) := by
  apply ba_ext
  simp [strOfNums, ByteArray.data_append]
theorem app_space (a : List Int) : strOfNums a ++ (⟨#[32]⟩ : ByteArray) = strOfNums (a ++ [32]) := by
  rw [← strOf_append]; rfl
/-- The reference stops as soon as the line is too long; so it is at the end. -/
theorem refjoin_l0 (l : List ByteArray) (hl : l.length ≤ 64) (hsz : ∀ w ∈ l, w.size ≤ 4294967296) : ∀ (d i : Nat) (acc : List Int), i + d = l.length → acc.length ≤ 4096 →
    Ev (fun k => soundserviceref02_Join.l0 k (strOfNums acc) l (l.length : Int) i) (if 4096 < (acc ++ jl (i == 0) (l.drop i)).length then (⟨#[]⟩, 3) else (strOfNums (acc ++ jl (i == 0) (l.drop i)), 0)) := by
  intro d
  induction d with
  | zero =>
    intro i acc hi ha
    have e : l.drop i = [] := List.drop_eq_nil_of_le (by omega)
    rw [e]
    refine Ev.mk 1 (fun k hk => ?_)
    obtain ⟨k, rfl⟩ : ∃ m, k = m + 1 := ⟨k - 1, by omega⟩
    simp only [soundserviceref02_Join.l0]
    rw [if_neg (by omega)]
    simp only [jl, List.append_nil]
    rw [if_neg (by omega)]
  | succ d ih =>
    intro i acc hi ha
    have hlt : i < l.length := by omega
    rw [List.drop_eq_getElem_cons hlt]
    have hrd := rdOf_nat l i hlt
    have hsi := hsz l[i] (List.getElem_mem hlt)
    have hwl := wordL_len (bytesOf l[i])
    rw [bytesOf_length] at hwl
    have step : ∀ (pre : List Int), pre.length ≤ 1 → (i == 0) = true ∧ pre = [] ∨ (i == 0) = false ∧ pre = [32] →
        Ev (fun k => (soundserviceref02_written.f k l[i]).bind fun t => (if (strOfNums (acc ++ pre)).size + t.size ≤ 9223372036854775807 then (if ((strOfNums (acc ++ pre) ++ t).size : Int) > 4096 then (some ((⟨#[]⟩ : ByteArray), (3 : Int))) else (soundserviceref02_Join.l0 k (strOfNums (acc ++ pre) ++ t) l (l.length : Int) (wrap64 ((i : Int) + 1)))) else (none))) (if 4096 < (acc ++ jl (i == 0) (l[i] :: l.drop (i + 1))).length then (⟨#[]⟩, 3) else (strOfNums (acc ++ jl (i == 0) (l[i] :: l.drop (i + 1))), 0)) := by
      intro pre hp hpre
      have ej : acc ++ jl (i == 0) (l[i] :: l.drop (i + 1)) = acc ++ pre ++ wordL (bytesOf l[i]) ++ jl (i + 1 == 0) (l.drop (i + 1)) := by
        have h0 : (i + 1 == 0) = false := by simp
        rw [h0]
        rcases hpre with ⟨h1, h2⟩ | ⟨h1, h2⟩
        · rw [h1, h2]; simp [jl]
        · rw [h1, h2]; simp [jl]
      rw [ej]
      refine Ev.bind (refwritten_f l[i] hsi) ?_
      have hb : (strOfNums (acc ++ pre)).size + (strOfNums (wordL (bytesOf l[i]))).size ≤ 9223372036854775807 := by
        rw [strOf_size, strOf_size, List.length_append]; omega
      refine Ev.if_pos' hb ?_
      have hsz2 : ((strOfNums (acc ++ pre) ++ strOfNums (wordL (bytesOf l[i]))).size) = (acc ++ pre ++ wordL (bytesOf l[i])).length := by rw [strOf_append, strOf_size]
      by_cases hbig : 4096 < (acc ++ pre ++ wordL (bytesOf l[i])).length
      · refine Ev.if_pos' (by rw [hsz2]; omega) ?_
        rw [if_pos (by rw [List.length_append]; omega)]
        exact Ev.now _
      · refine Ev.if_neg' (by rw [hsz2]; omega) ?_
        rw [strOf_append, wrap_succ i (by omega)]
        exact ih (i + 1) _ (by omega) (by omega)
    by_cases h0 : i = 0
    · obtain ⟨K, hK⟩ := step [] (by simp) (.inl ⟨by simp [h0], rfl⟩)
      dsimp only at hK
      refine Ev.mk (K + 1) (fun k hk => ?_)
      obtain ⟨k, rfl⟩ : ∃ m, k = m + 1 := ⟨k - 1, by omega⟩
      rw [← hK k (by omega)]
      simp only [soundserviceref02_Join.l0]
      rw [if_pos (by omega), if_pos (by omega), if_pos (by omega), hrd, if_neg (by omega), List.append_nil]
    · obtain ⟨K, hK⟩ := step [32] (by simp) (.inr ⟨by simpa using h0, rfl⟩)
      dsimp only at hK
      refine Ev.mk (K + 1) (fun k hk => ?_)
      obtain ⟨k, rfl⟩ : ∃ m, k = m + 1 := ⟨k - 1, by omega⟩
      rw [← hK k (by omega)]
      simp only [soundserviceref02_Join.l0]
      rw [if_pos (by omega), if_pos (by omega), if_pos (by omega), hrd, if_pos (by omega), if_pos (by rw [strOf_size]; omega), app_space]
theorem ref_join (l : List ByteArray) (hsz : ∀ w ∈ l, w.size ≤ 4294967296) : Ev (fun k => soundserviceref02_Join.f k l) (joinP l) := by
  rw [joinP_eq]
  by_cases h : 64 < l.length
  · rw [if_pos (.inl h)]
    refine Ev.mk 0 (fun k _ => ?_)
    unfold soundserviceref02_Join.f
    rw [if_pos (by omega)]
  · obtain ⟨K, hK⟩ := refjoin_l0 l (by omega) hsz l.length 0 [] (by omega) (by simp)
    dsimp only at hK
    refine Ev.mk K (fun k hk => ?_)
    unfold soundserviceref02_Join.f
    rw [if_neg (by omega)]
    have h2 := hK k hk
    rw [Int.natCast_zero] at h2
    have e0 : strOfNums [] = (⟨#[]⟩ : ByteArray) := rfl
    rw [e0] at h2
    rw [h2]
    simp only [List.drop_zero, List.nil_append, beq_self_eq_true, jl_true, h, false_or]
end Go.Proofs.Ytlbmnajmjaalfaa.U
