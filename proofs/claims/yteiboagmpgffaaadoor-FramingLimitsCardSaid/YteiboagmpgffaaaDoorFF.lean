/- The pure statement of the law FramingLimits. Conditions: none beyond the statement's. -/
import Derived.Test.YteiboagmpgffaaaDoorFD
namespace Go.Proofs.YteiboagmpgffaaaDoor.U
set_option linter.unusedSimpArgs false
set_option linter.unusedVariables false
open Go.RowKit Go.Proofs.YteiboagmpgffaaaDoor.P Go.Proofs.YteiboagmpgffaaaDoorW.PrintWords Go.Proofs.YteiboagmpgffaaaDoorW.PrintLast Go.Proofs.YteiboagmpgffaaaDoorW.PrintMore Go.Proofs.YteiboagmpgffaaaDoorW.Mine

theorem both_enc (l : List Int) : ∃ r, framing_Encode.f l = some r ∧ Ev (fun k => soundserviceref34_Encode.f k l) r := by
  rcases Nat.lt_or_ge 4096 l.length with h | h
  · exact ⟨_, enc_big l h, Ev.mk 0 (fun k _ => refenc_big l h k)⟩
  · exact ⟨_, enc_f l h, refenc_f l h⟩
theorem FramingLimits_pure : soundservicelaw34_FramingLimits.Pure := by
  intro a0 hw
  obtain ⟨Ks, hKs⟩ := sane_ev
  obtain ⟨c, hc, hc0, hc1⟩ := mod_f a0 3 (by omega) (by omega)
  obtain ⟨n, rfl⟩ := Int.eq_ofNat_of_zero_le hc0
  have e1 : wrap64 (4095 + (n : Int)) = ((4095 + n : Nat) : Int) := by rw [wrap_id _ (by omega) (by omega)]; omega
  obtain ⟨s, hs⟩ : ∃ s, s = rdOf ByteArray.empty ([(⟨#[52, 48, 57, 53, 58]⟩ : ByteArray), (⟨#[52, 48, 57, 54, 58]⟩ : ByteArray), (⟨#[52, 48, 57, 55, 58]⟩ : ByteArray)] : List ByteArray) (n : Int) := ⟨_, rfl⟩
  have hsz : s.size = 5 := by
    have : n = 0 ∨ n = 1 ∨ n = 2 := by omega
    rcases this with rfl | rfl | rfl <;> rw [hs] <;> rfl
  obtain ⟨r, hr, Ke, hKe⟩ := both_enc (List.replicate (4095 + n) (0 : Int))
  obtain ⟨x, hx⟩ : ∃ x, x = bytesOf s ++ List.replicate (4095 + n) (0 : Int) ++ [44] := ⟨_, rfl⟩
  have hxl : x.length ≤ 5000 := by
    rw [hx]
    simp only [List.length_append, bytesOf_length, List.length_replicate, List.length_cons, List.length_nil]
    omega
  obtain ⟨K1, hK1⟩ := split_f x (by omega)
  obtain ⟨K2, hK2⟩ := refsplit_f x (by omega)
  have hu := splitP_used (x.length + 1) x
  obtain ⟨K3, hK3⟩ := same_refl (splitP (x.length + 1) x).1 (by omega)
  dsimp only at hKs hKe hK1 hK2 hK3
  refine ⟨Ks + Ke + K1 + K2 + K3, ?_⟩
  unfold soundservicelaw34_FramingLimits.f
  rw [hKs _ (by omega), Option.bind_some, if_pos rfl, hc, Option.bind_some, e1, if_pos (by omega), Int.toNat_natCast, if_pos (by omega), Option.bind_some, hr, Option.bind_some, hKe _ (by omega), Option.bind_some, Option.bind_some, Option.bind_some,
    if_pos (by omega), if_pos (by simp only [List.length_cons, List.length_nil]; omega), ← hs, if_pos (by omega), Option.bind_some]
  have hbl : (bytesOf s).length = 5 := by rw [bytesOf_length, hsz]
  rw [if_pos (by rw [hbl, List.length_replicate]; omega), Option.bind_some, if_pos (by rw [List.length_append, hbl, List.length_replicate]; omega), Option.bind_some, ← hx, hK1 _ (by omega), Option.bind_some, hK2 _ (by omega), Option.bind_some,
    if_pos rfl, if_pos rfl, if_pos rfl, if_pos rfl, hK3 _ (by omega), Option.bind_some]
end Go.Proofs.YteiboagmpgffaaaDoor.U
