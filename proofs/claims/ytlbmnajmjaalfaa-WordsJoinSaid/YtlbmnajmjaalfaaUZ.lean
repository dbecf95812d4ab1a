/- The statements about Split and Join: WordsOnce, WordsJoin, WordsLimits, over lists and numbers. Conditions: as each states. -/
import Derived.Test.YtlbmnajmjaalfaaUR
import Derived.Test.YtlbmnajmjaalfaaUY
namespace Go.Proofs.Ytlbmnajmjaalfaa.U
set_option linter.unusedSimpArgs false
set_option linter.unusedVariables false
open Go.RowKit Go.Proofs.Ytlbmnajmjaalfaa.P Go.Proofs.YtlbmnajmjaalfaaW.PrintWords Go.Proofs.YtlbmnajmjaalfaaW.PrintLast Go.Proofs.YtlbmnajmjaalfaaW.PrintMore Go.Proofs.YtlbmnajmjaalfaaW.Mine

theorem joinP_ok (l : List ByteArray) (h1 : l.length ≤ 64) (h2 : (jline l).length ≤ 4096) : joinP l = (strOfNums (jline l), 0) := by
  rw [joinP_eq, if_neg (by omega)]

theorem WordsOnce_pure : soundservicelaw02_WordsOnce.Pure := by
  intro a0 ha
  obtain ⟨K1, h1⟩ := sane_ev
  obtain ⟨K2, h2⟩ := join_f (words_Split.p a0).1
  obtain ⟨K3, h3⟩ := same_refl (words_Split.p a0).1 (by have := split_words_len a0; omega)
  dsimp only at h1 h2 h3
  refine ⟨K1 + K2 + K3 + 1, ?_⟩
  unfold soundservicelaw02_WordsOnce.f
  rw [h1 _ (by omega)]
  simp only [Option.bind_some, if_true]
  split
  · rfl
  · simp only [words_Split.f, Option.bind_some]
    cases he : words_Split.p a0 with
    | mk l e =>
      rw [he] at h2 h3
      simp only at h2 h3 ⊢
      by_cases h0 : e = 0
      · subst h0
        obtain ⟨g1, g2, g3⟩ := join_split a0 l he
        rw [if_pos rfl, h2 _ (by omega), joinP_ok l g1 (by omega)]
        simp only [Option.bind_some, if_true]
        rw [split_join l g1 (by omega)]
        simp only [if_true]
        rw [h3 _ (by omega)]
        simp only [Option.bind_some, if_true]
        rw [strOf_size]
        congr 1
        exact decide_eq_true (by omega)
      · rw [if_neg h0]
        have := split_err a0 (by rw [he]; exact h0)
        rw [he] at this
        simp only at this
        subst this
        rfl

def keptB (l : List ByteArray) : Bool := decide (l.length ≤ 70) && l.all fun w => decide (w.size ≤ 200)
theorem kept_l0 (l : List ByteArray) (hl : l.length ≤ 70) : ∀ (d i : Nat), i + d = l.length → Ev (fun k => soundservicelaw02_kept.l0 k l (l.length : Int) i) ((l.drop i).all fun w => decide (w.size ≤ 200)) := by
  intro d
  induction d with
  | zero =>
    intro i hi
    refine Ev.mk 1 (fun k hk => ?_)
    obtain ⟨k, rfl⟩ : ∃ m, k = m + 1 := ⟨k - 1, by omega⟩
    simp only [soundservicelaw02_kept.l0]
    rw [if_neg (by omega), List.drop_eq_nil_of_le (by omega)]
    rfl
  | succ d ih =>
    intro i hi
    have hlt : i < l.length := by omega
    rw [List.drop_eq_getElem_cons hlt]
    obtain ⟨K, hK⟩ := ih (i + 1) (by omega)
    dsimp only at hK
    refine Ev.mk (K + 1) (fun k hk => ?_)
    obtain ⟨k, rfl⟩ : ∃ m, k = m + 1 := ⟨k - 1, by omega⟩
    simp only [soundservicelaw02_kept.l0]
    rw [if_pos (by omega), if_pos (by omega), if_pos (by omega), rdOf_nat l i hlt]
    by_cases h : 200 < (l[i]).size
    · rw [if_pos (by omega), List.all_cons, decide_eq_false (by omega)]; rfl
    · rw [if_neg (by omega), List.all_cons, decide_eq_true (by omega), wrap_succ i (by omega), hK k (by omega)]; rfl
theorem kept_f (l : List ByteArray) : Ev (fun k => soundservicelaw02_kept.f k l) (keptB l) := by
  by_cases h : 70 < l.length
  · refine Ev.mk 0 (fun k _ => ?_)
    unfold soundservicelaw02_kept.f keptB
    rw [if_pos (by omega), decide_eq_false (by omega)]
    rfl
  · obtain ⟨K, hK⟩ := kept_l0 l (by omega) l.length 0 (by omega)
    dsimp only at hK
    refine Ev.mk K (fun k hk => ?_)
    unfold soundservicelaw02_kept.f keptB
    rw [if_neg (by omega), decide_eq_true (by omega)]
    have := hK k hk
    rw [Int.natCast_zero] at this
    rw [this]
    rfl
theorem WordsJoin_pure (l : List ByteArray) : ∃ k, soundservicelaw02_WordsJoin.f k l = some true := by
  obtain ⟨K1, h1⟩ := sane_ev
  obtain ⟨K2, h2⟩ := kept_f l
  obtain ⟨K3, h3⟩ := join_f l
  dsimp only at h1 h2 h3
  cases hk : keptB l with
  | false =>
    refine ⟨K1 + K2, ?_⟩
    unfold soundservicelaw02_WordsJoin.f
    rw [h1 _ (by omega)]
    simp only [Option.bind_some, if_true]
    rw [h2 _ (by omega), hk]
    rfl
  | true =>
    have hsz : ∀ w ∈ l, w.size ≤ 4294967296 := by
      intro w hw
      unfold keptB at hk
      rw [Bool.and_eq_true] at hk
      have := List.all_eq_true.1 hk.2 w hw
      have := of_decide_eq_true this
      omega
    obtain ⟨K4, h4⟩ := ref_join l hsz
    dsimp only at h4
    refine ⟨K1 + K2 + K3 + K4, ?_⟩
    unfold soundservicelaw02_WordsJoin.f
    rw [h1 _ (by omega)]
    simp only [Option.bind_some, if_true]
    rw [h2 _ (by omega), hk]
    simp only [Option.bind_some, if_true]
    rw [h3 _ (by omega)]
    simp only [Option.bind_some]
    rw [h4 _ (by omega)]
    simp

/-! ### WordsLimits -/
def aas (n : Nat) : ByteArray := strOfNums (List.replicate n 97)
theorem aas_bytes (n : Nat) : bytesOf (aas n) = List.replicate n 97 := bytesOf_strOf _ (fun x hx => by rw [List.eq_of_mem_replicate hx]; omega)
theorem aas_size (n : Nat) : (aas n).size = n := by unfold aas; rw [strOf_size, List.length_replicate]
theorem aas_succ (n : Nat) : aas n ++ (⟨#[97]⟩ : ByteArray) = aas (n + 1) := by
  unfold aas
  rw [List.replicate_succ', ← strOf_append]
  rfl
theorem wordL_aas (n : Nat) (h : 0 < n) : wordL (List.replicate n 97) = List.replicate n 97 := by
  unfold wordL
  rw [if_pos]
  unfold bareL
  rw [Bool.and_eq_true]
  refine ⟨List.all_eq_true.2 (fun x hx => by rw [List.eq_of_mem_replicate hx]; decide), ?_⟩
  cases n with
  | zero => omega
  | succ n => rfl
theorem wline_aas (n : Nat) (h : 0 < n) : ∀ m : Nat, 0 < m → (wlineL (List.replicate m (List.replicate n 97))).length = m * (n + 1) - 1
  | 1, _ => by rw [List.replicate_one, wlineL, wordL_aas n h, List.length_replicate]; omega
  | m + 2, _ => by
    have ih := wline_aas n h (m + 1) (by omega)
    rw [List.replicate_succ] at ih ⊢
    rw [List.replicate_succ]
    rw [wlineL, List.length_append, List.length_cons, wordL_aas n h, List.length_replicate, ih]
    have e1 : (m + 2) * (n + 1) = (m + 1) * (n + 1) + (n + 1) := by rw [Nat.succ_mul]
    have : 0 < (m + 1) * (n + 1) := Nat.mul_pos (by omega) (by omega)
    rw [show m + 1 + 1 = m + 2 from rfl] 
    omega
theorem jline_aas (m n : Nat) (hm : 0 < m) (hn : 0 < n) : (jline (List.replicate m (aas n))).length = m * (n + 1) - 1 := by
  unfold jline Bts
  rw [List.map_replicate, aas_bytes]
  exact wline_aas n hn m hm
theorem limits_l0 (w : Nat) (m : Int) (hw : w ≤ 1000) (r : Bool) : ∀ (d i : Nat), i + d = w → Ev (fun k => soundservicelaw02_WordsLimits.l1 k m w [] (aas w) 0) r → Ev (fun k => soundservicelaw02_WordsLimits.l0 k m w (aas i) i) r := by
  intro d
  induction d with
  | zero =>
    intro i hi h
    obtain ⟨K, hK⟩ := h
    dsimp only at hK
    refine Ev.mk (K + 1) (fun k hk => ?_)
    obtain ⟨k, rfl⟩ : ∃ m, k = m + 1 := ⟨k - 1, by omega⟩
    simp only [soundservicelaw02_WordsLimits.l0]
    obtain rfl : i = w := by omega
    rw [if_neg (by omega)]
    exact hK k (by omega)
  | succ d ih =>
    intro i hi h
    obtain ⟨K, hK⟩ := ih (i + 1) (by omega) h
    dsimp only at hK
    refine Ev.mk (K + 1) (fun k hk => ?_)
    obtain ⟨k, rfl⟩ : ∃ m, k = m + 1 := ⟨k - 1, by omega⟩
    simp only [soundservicelaw02_WordsLimits.l0]
    rw [if_pos (by omega), if_pos (by rw [aas_size]; omega), aas_succ, wrap_succ i (by omega)]
    exact hK k (by omega)
theorem limits_l1 (w m : Nat) (hm : m ≤ 1000) (r : Bool) : ∀ (d i : Nat), i + d = m → Ev (fun k => soundservicelaw02_WordsLimits.l1 k m w (List.replicate m (aas w)) (aas w) m) r → Ev (fun k => soundservicelaw02_WordsLimits.l1 k m w (List.replicate i (aas w)) (aas w) i) r := by
  intro d
  induction d with
  | zero =>
    intro i hi h
    obtain rfl : i = m := by omega
    exact h
  | succ d ih =>
    intro i hi h
    obtain ⟨K, hK⟩ := ih (i + 1) (by omega) h
    dsimp only at hK
    refine Ev.mk (K + 1) (fun k hk => ?_)
    obtain ⟨k, rfl⟩ : ∃ m, k = m + 1 := ⟨k - 1, by omega⟩
    simp only [soundservicelaw02_WordsLimits.l1]
    rw [if_pos (by omega), if_pos (by rw [List.length_replicate]; omega), wrap_succ i (by omega), ← List.replicate_succ']
    exact hK k (by omega)
theorem wlineL_append : ∀ (a b : List (List Int)), a ≠ [] → b ≠ [] → wlineL (a ++ b) = wlineL a ++ 32 :: wlineL b
  | [], _, h, _ => absurd rfl h
  | [w], b, _, hb => by rw [List.cons_append, List.nil_append, wlineL_cons w b hb]; rfl
  | w :: v :: l, b, _, hb => by
    have ih := wlineL_append (v :: l) b (by simp) hb
    rw [List.cons_append, wlineL_cons w _ (by simp), ih, wlineL]
    simp
theorem split_big (s : ByteArray) (h : 4096 < s.size) : words_Split.p s = ([], 3) := by
  unfold words_Split.p
  rw [if_pos h]
theorem split_many (l : List ByteArray) (h64 : 64 < l.length) (hlen : (jline l).length ≤ 4096) : words_Split.p (strOfNums (jline l)) = ([], 3) := by
  unfold words_Split.p
  rw [strOf_size, if_neg (by omega)]
  cases l with
  | nil => simp at h64
  | cons w r =>
    have hne : Bts (w :: r) ≠ [] := by simp [Bts]
    rw [if_neg (by have := wlineL_pos _ hne; unfold jline; omega), bytesOf_strOf _ (jline_inR _)]
    unfold jline
    rw [wsplit_wline _ _ hne, List.nil_append, map_strOf_Bts]
    unfold fin
    rw [if_pos h64]

theorem size32 : (⟨#[32]⟩ : ByteArray).size = 1 := rfl
theorem wrapMW (m w : Nat) (hP : m * (w + 1) ≤ 70 * 81) (hP0 : 0 < m * (w + 1)) (hw : w ≤ 80) : wrap64 (wrap64 ((m : Int) * wrap64 ((w : Int) + 1)) - 1) = ((m * (w + 1) - 1 : Nat) : Int) := by
  rw [wrap_succ w (by omega), ← Int.natCast_mul]
  generalize m * (w + 1) = P at *
  rw [wrap_id (P : Int) (by omega) (by omega), wrap_id _ (by omega) (by omega)]
  omega
theorem wrap2M (m : Nat) (hm : m ≤ 5000) : wrap64 (2 * (m : Int)) = ((2 * m : Nat) : Int) := by rw [wrap_id _ (by omega) (by omega)]; omega
theorem wrap2L (P : Nat) (hP : P ≤ 10000) : wrap64 (wrap64 (2 * (P : Int)) + 1) = ((2 * P + 1 : Nat) : Int) := by
  rw [wrap_id (2 * (P : Int)) (by omega) (by omega), wrap_id _ (by omega) (by omega)]
  omega
theorem limits_end (m w : Nat) (hm0 : 0 < m) (hm : m ≤ 70) (hw0 : 0 < w) (hw : w ≤ 80) : Ev (fun k => soundservicelaw02_WordsLimits.l1 k m w (List.replicate m (aas w)) (aas w) m) true := by
  have hlen := jline_aas m w hm0 hw0
  have hP : m * (w + 1) ≤ 70 * 81 := Nat.mul_le_mul hm (by omega)
  have hP0 : 0 < m * (w + 1) := Nat.mul_pos hm0 (by omega)
  have hrl : (List.replicate m (aas w)).length = m := List.length_replicate
  generalize hl : List.replicate m (aas w) = l at hlen hrl
  obtain ⟨P, hPd⟩ : ∃ P, P = m * (w + 1) := ⟨_, rfl⟩
  have hMW := Aside0.mk (wrapMW m w hP hP0 hw)
  rw [← hPd] at hP hP0 hlen hMW
  clear hPd
  obtain ⟨K1, h1⟩ := join_f l
  obtain ⟨K2, h2⟩ := same_refl l (by omega)
  dsimp only at h1 h2
  refine Ev.mk (K1 + K2 + 2) (fun k hk => ?_)
  obtain ⟨k, rfl⟩ : ∃ m, k = m + 2 := ⟨k - 2, by omega⟩
  simp only [soundservicelaw02_WordsLimits.l1]
  rw [if_neg (by omega), h1 _ (by omega)]
  simp only [Option.bind_some]
  rw [hMW.out]
  by_cases hbad : 64 < m ∨ 4096 < P - 1
  · have hj : joinP l = (⟨#[]⟩, 3) := by rw [joinP_eq, if_pos (by omega)]
    rw [hj]
    have hj2 : soundservicelaw02_WordsLimits.j2 (k + 1) m w l (⟨#[]⟩) 3 true = some true := by
      simp only [soundservicelaw02_WordsLimits.j2, if_true, toList_data]
      decide +kernel
    simp only
    split
    · exact hj2
    · rw [decide_eq_true (by omega)]
      exact hj2
  · have hj : joinP l = (strOfNums (jline l), 0) := joinP_ok l (by omega) (by omega)
    rw [hj]
    simp only
    rw [if_neg (by omega), decide_eq_false (by omega)]
    have hsz : (strOfNums (jline l)).size = P - 1 := by rw [strOf_size]; exact hlen
    have hdbl : (strOfNums (jline l) ++ (⟨#[32]⟩ : ByteArray)) ++ strOfNums (jline l) = strOfNums (jline (l ++ l)) := by
      rw [app_space, strOf_append]
      congr 1
      unfold jline Bts
      have hne : l.map bytesOf ≠ [] := by
        intro e
        have := congrArg List.length e
        rw [List.length_map, hrl] at this
        simp at this
        omega
      rw [List.map_append, wlineL_append _ _ hne hne]
      simp
    have hdlen : (jline (l ++ l)).length = 2 * (P - 1) + 1 := by
      have := congrArg ByteArray.size hdbl
      rw [strOf_size] at this
      rw [← this, ByteArray.size_append, ByteArray.size_append, hsz, size32]
      omega
    have hs1 : words_Split.f (strOfNums (jline l)) = some (l, 0) := congrArg some (split_join l (by omega) (by omega))
    have hs2 : words_Split.f (strOfNums (jline (l ++ l))) = some (words_Split.p (strOfNums (jline (l ++ l)))) := rfl
    have c1 : (strOfNums (jline l)).size + 1 ≤ 9223372036854775807 := by rw [hsz]; omega
    have c2 : (strOfNums (jline l) ++ (⟨#[32]⟩ : ByteArray)).size + (strOfNums (jline l)).size ≤ 9223372036854775807 := by rw [ByteArray.size_append, hsz, size32]; omega
    rw [soundservicelaw02_WordsLimits.j2.eq_2, if_neg Bool.false_ne_true, hs1, Option.bind_some, if_pos c1, if_pos c2, hdbl, hs2, Option.bind_some, if_pos rfl, hMW.out, hsz, if_pos rfl, if_pos rfl, h2 _ (by omega), Option.bind_some, if_pos rfl]
    rw [wrap2M m (by omega)]
    rw [wrap2L (P - 1) (by omega)]
    by_cases hL : 4096 < 2 * (P - 1) + 1
    · have hsp : words_Split.p (strOfNums (jline (l ++ l))) = ([], 3) := split_big _ (by rw [strOf_size]; omega)
      rw [hsp]
      simp only
      split
      · rfl
      · rw [decide_eq_true (by omega)]; rfl
    · by_cases hM : 64 < 2 * m
      · have hsp : words_Split.p (strOfNums (jline (l ++ l))) = ([], 3) := split_many _ (by rw [List.length_append]; omega) (by omega)
        rw [hsp, if_pos (by omega)]
        rfl
      · have hsp : words_Split.p (strOfNums (jline (l ++ l))) = (l ++ l, 0) := split_join _ (by rw [List.length_append]; omega) (by omega)
        rw [hsp, if_neg (by omega), decide_eq_false (by omega)]
        simp only
        rw [if_pos (by decide), if_pos trivial, List.length_append, hrl]
        congr 1
        rw [beq_iff_eq]
        omega

theorem WordsLimits_pure : soundservicelaw02_WordsLimits.Pure := by
  intro a0 a1 h0 h1
  have b0 : 0 ≤ a0 ∧ a0 ≤ 65535 := by
    simp only [Lit.wf, Bool.and_eq_true, decide_eq_true_eq] at h0
    exact h0
  have b1 : 0 ≤ a1 ∧ a1 ≤ 65535 := by
    simp only [Lit.wf, Bool.and_eq_true, decide_eq_true_eq] at h1
    exact h1
  have em : wrap64 (1 + (Int.tmod (wrap64 a0) 70)) = ((1 + a0.toNat % 70 : Nat) : Int) := by
    rw [wrap_id a0 (by omega) (by omega), Int.tmod_eq_emod_of_nonneg (by omega), wrap_id _ (by omega) (by omega)]
    omega
  have ew : wrap64 (1 + (Int.tmod (wrap64 a1) 80)) = ((1 + a1.toNat % 80 : Nat) : Int) := by
    rw [wrap_id a1 (by omega) (by omega), Int.tmod_eq_emod_of_nonneg (by omega), wrap_id _ (by omega) (by omega)]
    omega
  obtain ⟨K1, hs⟩ := sane_ev
  have he := limits_end (1 + a0.toNat % 70) (1 + a1.toNat % 80) (by omega) (by omega) (by omega) (by omega)
  have h2 := limits_l1 (1 + a1.toNat % 80) (1 + a0.toNat % 70) (by omega) true _ 0 (Nat.zero_add _) he
  have h3 := limits_l0 (1 + a1.toNat % 80) ((1 + a0.toNat % 70 : Nat) : Int) (by omega) true _ 0 (Nat.zero_add _) h2
  obtain ⟨K2, h3⟩ := h3
  dsimp only at hs h3
  refine ⟨K1 + K2, ?_⟩
  unfold soundservicelaw02_WordsLimits.f
  rw [hs _ (by omega)]
  simp only [Option.bind_some, if_true]
  rw [em, ew]
  exact h3 _ (by omega)
end Go.Proofs.Ytlbmnajmjaalfaa.U
