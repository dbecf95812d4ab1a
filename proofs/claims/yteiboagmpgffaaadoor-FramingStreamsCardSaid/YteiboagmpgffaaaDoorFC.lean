/- Numbers' digits, the frame of a payload, the payloads of a deck. Conditions: as each states. -/
import Derived.Test.YteiboagmpgffaaaDoorFB
namespace Go.Proofs.YteiboagmpgffaaaDoor.U
set_option linter.unusedSimpArgs false
set_option linter.unusedVariables false
open Go.RowKit Go.Proofs.YteiboagmpgffaaaDoor.P Go.Proofs.YteiboagmpgffaaaDoorW.PrintWords Go.Proofs.YteiboagmpgffaaaDoorW.PrintLast Go.Proofs.YteiboagmpgffaaaDoorW.PrintMore Go.Proofs.YteiboagmpgffaaaDoorW.Mine

/-- A number's decimal digits, as numbers. -/
def decP (n : Nat) : List Int := (Lib.decDigits n).map fun b => (b.toNat : Int)
def encP (l : List Int) : List Int := decP l.length ++ [58] ++ l ++ [44]
theorem decP_small (n : Nat) (h : n < 10) : decP n = [(48 + n : Int)] := by
  unfold decP
  rw [Lib.decDigits, dif_pos h]
  simp only [List.map_cons, List.map_nil, UInt8.toNat_ofNat']
  congr 1
  omega
theorem decP_big (n : Nat) (h : ¬ n < 10) : decP n = decP (n / 10) ++ decP (n % 10) := by
  rw [decP_small (n % 10) (by omega)]
  unfold decP
  rw [Lib.decDigits, dif_neg h, List.map_append]
  simp only [List.map_cons, List.map_nil, UInt8.toNat_ofNat']
  congr 2
  omega
theorem decP_range : ∀ (n : Nat), ∀ x ∈ decP n, 0 ≤ x ∧ x < 256 := by
  intro n x hx
  unfold decP at hx
  obtain ⟨b, _, rfl⟩ := List.mem_map.1 hx
  have := b.toNat_lt
  omega
theorem decP_len (n : Nat) (h : n ≤ 4096) : (decP n).length ≤ 4 ∧ 0 < (decP n).length := by
  have small : ∀ m, m < 10 → (decP m).length = 1 := fun m hm => by rw [decP_small m hm]; rfl
  rcases Nat.lt_or_ge n 10 with h1 | h1
  · rw [small n h1]; omega
  · rw [decP_big n (by omega), List.length_append, small (n % 10) (by omega)]
    rcases Nat.lt_or_ge (n / 10) 10 with h2 | h2
    · rw [small _ h2]; omega
    · rw [decP_big (n / 10) (by omega), List.length_append, small (n / 10 % 10) (by omega)]
      rcases Nat.lt_or_ge (n / 10 / 10) 10 with h3 | h3
      · rw [small _ h3]; omega
      · rw [decP_big (n / 10 / 10) (by omega), List.length_append, small _ (by omega), small _ (by omega)]; omega
theorem digits_f : ∀ (d n : Nat), n < 10 ^ d → n ≤ 9223372036854775807 → d ≤ 8 → Ev (fun k => soundserviceref34_digits.f k n) (strOfNums (decP n)) ∧ (strOfNums (decP n)).size ≤ d + 1 := by
  intro d
  induction d with
  | zero =>
    intro n h h2 _
    have : n = 0 := by simpa using h
    subst this
    refine ⟨Ev.mk 1 (fun k hk => ?_), by rw [decP_small 0 (by omega)]; decide⟩
    obtain ⟨k, rfl⟩ : ∃ m, k = m + 1 := ⟨k - 1, by omega⟩
    simp only [soundserviceref34_digits.f]
    rw [if_pos (by omega), decP_small 0 (by omega), wrap_id _ (by omega) (by omega), show (48 + ((0 : Nat) : Int)) % 256 = 48 + ((0 : Nat) : Int) from rfl]
  | succ d ih =>
    intro n h h2 hd
    rcases Nat.lt_or_ge n 10 with h1 | h1
    · refine ⟨Ev.mk 1 (fun k hk => ?_), by rw [decP_small n h1]; simp [strOfNums]; show (1 : Nat) ≤ _; omega⟩
      obtain ⟨k, rfl⟩ : ∃ m, k = m + 1 := ⟨k - 1, by omega⟩
      simp only [soundserviceref34_digits.f]
      rw [if_pos (by omega), decP_small n h1, wrap_id _ (by omega) (by omega), show (48 + (n : Int)) % 256 = 48 + (n : Int) by omega]
    · have hp : 10 ^ (d + 1) = 10 ^ d * 10 := Nat.pow_succ 10 d
      obtain ⟨⟨K1, hK1⟩, hs1⟩ := ih (n / 10) (by omega) (by omega) (by omega)
      dsimp only at hK1
      have hmod : n % 10 < 10 := by omega
      have hK2 : ∀ k, soundserviceref34_digits.f (k + 1) ((n % 10 : Nat) : Int) = some (strOfNums (decP (n % 10))) := by
        intro k
        simp only [soundserviceref34_digits.f]
        rw [if_pos (by omega), decP_small _ hmod, wrap_id _ (by omega) (by omega), show (48 + ((n % 10 : Nat) : Int)) % 256 = 48 + ((n % 10 : Nat) : Int) by omega]
      have hs2 : (strOfNums (decP (n % 10))).size = 1 := by rw [decP_small _ hmod]; rfl
      have happ : strOfNums (decP n) = strOfNums (decP (n / 10)) ++ strOfNums (decP (n % 10)) := by
        apply bytesOf_inj
        rw [bytesOf_append, bytesOf_strOf _ (decP_range _), bytesOf_strOf _ (decP_range _), bytesOf_strOf _ (decP_range _)]
        exact decP_big n (by omega)
      refine ⟨Ev.mk (K1 + 2) (fun k hk => ?_), by rw [happ, ByteArray.size_append, hs2]; omega⟩
      obtain ⟨k, rfl⟩ : ∃ m, k = m + 2 := ⟨k - 2, by omega⟩
      rw [soundserviceref34_digits.f.eq_2]
      rw [if_neg (by omega), show Int.tdiv (n : Int) 10 = ((n / 10 : Nat) : Int) from rfl, show Int.tmod (n : Int) 10 = ((n % 10 : Nat) : Int) from rfl, wrap_id _ (by omega) (by omega), hK1 _ (by omega), Option.bind_some, hK2, Option.bind_some, if_pos (by omega), happ]
theorem refenc_f (l : List Int) (h : l.length ≤ 4096) : Ev (fun k => soundserviceref34_Encode.f k l) (encP l, 0) := by
  obtain ⟨⟨K, hK⟩, hs⟩ := digits_f 4 l.length (by omega) (by omega) (by omega)
  dsimp only at hK
  refine Ev.mk K (fun k hk => ?_)
  unfold soundserviceref34_Encode.f
  have h58 : bytesOf (⟨#[58]⟩ : ByteArray) = [58] := rfl
  have hl := decP_len l.length h
  have hsz : (strOfNums (decP l.length) ++ (⟨#[58]⟩ : ByteArray)).size = (strOfNums (decP l.length)).size + 1 := by rw [ByteArray.size_append]; rfl
  rw [if_neg (by omega), hK k hk, Option.bind_some, if_pos (by omega), if_pos (by rw [hsz]; omega), Option.bind_some, bytesOf_append, bytesOf_strOf _ (decP_range _), h58]
  rw [if_pos (by simp only [List.length_append, List.length_cons, List.length_nil]; omega), Option.bind_some, if_pos (by simp only [List.length_append, List.length_cons, List.length_nil]; omega)]
  rfl
theorem enc_f (l : List Int) (h : l.length ≤ 4096) : framing_Encode.f l = some (encP l, 0) := by
  unfold framing_Encode.f
  have hl := decP_len l.length h
  have hi : (Lib.itoa (l.length : Int)).map (fun b => (b.toNat : Int)) = decP l.length := by
    unfold Lib.itoa decP
    rw [if_neg (by omega)]
    simp
  rw [if_neg (by omega), strconv_AppendInt.f, if_pos ⟨rfl, rfl⟩, if_pos (by omega), if_pos (by omega), hi, Option.bind_some, if_pos (by omega), Option.bind_some,
    if_pos (by simp only [List.length_append, List.length_cons, List.length_nil]; omega), Option.bind_some, if_pos (by simp only [List.length_append, List.length_cons, List.length_nil]; omega)]
  rfl
theorem enc_big (l : List Int) (h : 4096 < l.length) : framing_Encode.f l = some ([], 3) := by
  unfold framing_Encode.f
  rw [if_pos (by omega)]
theorem refenc_big (l : List Int) (h : 4096 < l.length) (k : Nat) : soundserviceref34_Encode.f k l = some ([], 3) := by
  unfold soundserviceref34_Encode.f
  rw [if_pos (by omega)]
theorem encP_len (l : List Int) (h : l.length ≤ 4096) : l.length + 3 ≤ (encP l).length ∧ (encP l).length ≤ l.length + 6 := by
  have hl := decP_len l.length h
  unfold encP
  simp only [List.length_append, List.length_cons, List.length_nil]
  omega
/-- The example of the chapter. -/
theorem sane_ev : Ev (fun k => soundservicelaw34_sane.f k) true := by
  have h1 : framing_Encode.f [97, 98, 99] = some ([51, 58, 97, 98, 99, 44], 0) := by
    rw [enc_f _ (by decide)]
    have : encP [97, 98, 99] = [51, 58, 97, 98, 99, 44] := by
      unfold encP
      rw [show ([97, 98, 99] : List Int).length = 3 from rfl, decP_small 3 (by omega)]
      rfl
    rw [this]
  obtain ⟨K1, hK1⟩ := split_f [48, 51, 58, 97, 98, 99, 44] (by decide)
  obtain ⟨K2, hK2⟩ := split_f [51, 58, 97, 98] (by decide)
  dsimp only at hK1 hK2
  refine Ev.mk (K1 + K2) (fun k hk => ?_)
  unfold soundservicelaw34_sane.f
  rw [h1, Option.bind_some, hK1 k (by omega), Option.bind_some, hK2 k (by omega), Option.bind_some]
  decide +kernel
end Go.Proofs.YteiboagmpgffaaaDoor.U
