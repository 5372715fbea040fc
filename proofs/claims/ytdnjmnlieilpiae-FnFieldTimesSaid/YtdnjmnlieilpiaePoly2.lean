/- Contracts: divisions of polynomials. -/
import Derived.Test.YtdnjmnlieilpiaePoly1
import Derived.Test.YtdnjmnlieilpiaeDivPlain

namespace Go.Proofs.Ytdnjmnlieilpiae
open Go.RowKit
set_option linter.unusedVariables false

set_option maxHeartbeats 400000 in
theorem divide_any (a b : Nat) (w : World) (ha : a < 4294967296) (hb : b ≠ 0) (hb2 : b < 4294967296) :
    Calls Try.prog 29 #[.int .i64 a, .int .i64 b] w fun e w' => e = .returned (.tuple #[.int .i64 ((Bw.pdiv a b : Nat) : Int), .int .i64 ((Bw.pmod a b : Nat) : Int)]) ∧ w = w' := by
  have hdb := Bw.dg_bd hb2
  go_enter Try.func29, Try.ntmps29
  go_wp2_with fail
  go_loop [0, 6] (fun t q => ∃ A Q : Nat, A < 4294967296 ∧ Bw.DivR a b A Q ∧ t = .int .i64 A ∧ q = .int .i64 Q) (fun t _ => (intOf t).toNat)
  case atStart => exact ⟨a, 0, ha, Bw.divR_start a b, rfl, rfl⟩
  case round =>
    obtain ⟨A, Q, hA, hR, rfl, rfl⟩ := hrel
    have hdA := Bw.dg_bd hA
    by_cases hl : Bw.dg b ≤ Bw.dg A
    · have hs := Bw.divR_step hb hA hR hl
      obtain ⟨hA0, he, hn, hlt⟩ := Bw.divR_num hb hA hl
      have HS := Lib.hid hs
      have HQ := Lib.hid hR.2.2
      have HL := Lib.hid hlt
      clear hs he hR hlt
      go_wp2_with (first | (go_at_call 21; ((with_reducible refine (degree_any A _ hA).mono ?_); rintro e w' ⟨rfl, rfl⟩)) | (go_at_call 21; ((with_reducible refine (degree_any b _ hb2).mono ?_); rintro e w' ⟨rfl, rfl⟩)))
      go_round
      case rel => exact ⟨_, _, Nat.lt_trans HS.out.2 hA, HS.out.1, by rw [Bw.xor_slot hA HL.out], by rw [Bw.or_slot HQ.out hn]⟩
      case measure => rw [Bw.xor_slot hA HL.out]; simp only [intOf, Int.toNat_natCast]; exact HS.out.2
    · have hl2 : Bw.dg A < Bw.dg b := by omega
      have hdec : decide (Bw.dg b ≤ Bw.dg A) = false := by rw [decide_eq_false_iff_not]; omega
      have he := Bw.divR_end hb hR hl2
      have HE := Lib.hid he
      clear he hR hl
      go_wp2_with (first | (go_at_call 21; ((with_reducible refine (degree_any A _ hA).mono ?_); rintro e w' ⟨rfl, rfl⟩)) | (go_at_call 21; ((with_reducible refine (degree_any b _ hb2).mono ?_); rintro e w' ⟨rfl, rfl⟩)))
      go_ret2
      exact ⟨by rw [HE.out.1, HE.out.2]; rfl, rfl⟩

theorem rest_any (a b : Nat) (w : World) (ha : a < 4294967296) (hb : b ≠ 0) (hb2 : b < 4294967296) :
    Calls Try.prog 22 #[.int .i64 a, .int .i64 b] w fun e w' => e = .returned (.int .i64 ((Bw.pmod a b : Nat) : Int)) ∧ w = w' := by
  go_enter Try.func22, Try.ntmps22
  go_wp2_with (go_at_call 29; ((with_reducible refine (divide_any a b _ ha hb hb2).mono ?_); rintro e w' ⟨rfl, rfl⟩))
  go_ret
  exact ⟨rfl, rfl⟩

set_option maxHeartbeats 400000 in
theorem l7Divide_any (a b : Nat) (w : World) (ha : a < 268435456) (hb : b ≠ 0) (hb2 : b < 65536) :
    Calls Try.prog 24 #[.int .i64 a, .int .i64 b] w fun e w' => e = .returned (.tuple #[.int .i64 ((Bw.pdiv a b : Nat) : Int), .int .i64 ((Bw.pmod a b : Nat) : Int)]) ∧ w = w' := by
  have hlb : b.log2 < 16 := (Nat.log2_lt hb).2 (by omega)
  go_enter Try.func24, Try.ntmps24
  go_wp2_with fail
  go_loop [7] (fun t => ∃ k : Nat, k ≤ b.log2 ∧ t = .int .i64 k) (fun t => b.log2 - (intOf t).toNat)
  case atStart => exact ⟨0, by omega, rfl⟩
  case round =>
    obtain ⟨t, ht, rfl⟩ := hrel
    by_cases hlt : t < b.log2
    · have h1 : decide ((0 : Int) < (b : Int) / 2 ^ (t + 1)) = true := by
        rw [Bw.shr_cast, decide_eq_true_eq]; exact Int.natCast_pos.2 ((Bw.top_more hb).2 hlt)
      go_wp2_with fail
      go_round
      case rel => exact ⟨t + 1, by omega, by go_num⟩
      case measure => simp [intOf]; omega
    · obtain rfl : t = b.log2 := by omega
      have h1 : decide ((0 : Int) < (b : Int) / 2 ^ (b.log2 + 1)) = false := by
        rw [Bw.shr_cast, decide_eq_false_iff_not]; intro h; exact hlt ((Bw.top_more hb).1 (Int.natCast_pos.1 h))
      clear hlt ht
      go_wp2_with fail
      go_loop [0, 6, 8] (fun t q i => ∃ j A Q : Nat, j ≤ 28 ∧ Bw.SubR a b A Q j ∧ t = .int .i64 A ∧ q = .int .i64 Q ∧ i = .int .i64 ((j : Int) - 1)) (fun _ _ i => (intOf i + 1).toNat)
      case atStart => exact ⟨28, a, 0, by omega, Bw.subR_start ha, rfl, rfl, rfl⟩
      case round =>
        obtain ⟨j, A, Q, hj, hR, rfl, rfl, rfl⟩ := hrel
        rcases j with _ | k
        · have he := Bw.subR_end hb hR
          have HE := Lib.hid he
          clear he hR
          go_wp2_with fail
          go_ret2
          exact ⟨by rw [HE.out.1, HE.out.2]; rfl, rfl⟩
        · have ek : ((k + 1 : Nat) : Int) - 1 = (k : Int) := by omega
          rw [ek]
          have hA := hR.2.2.1
          have hQ := hR.2.2.2.2
          by_cases h1 : A / 2 ^ (k + b.log2) = 1
          · obtain ⟨hd, hl, hd2, hlt⟩ := Bw.subR_num hb hR h1
            have ht := Bw.shr_one h1
            have HS := Lib.hid (Bw.subR_take hb hR h1)
            have HL := Lib.hid hlt
            have HQ := Lib.hid hQ
            clear h1 hR hd hd2 hlt hQ ek
            go_wp2_with (go_at_call 37; rw [Bw.shl_slot HL.out]; ((with_reducible refine (l1Xor_any A (b * 2 ^ k) _ (by omega) HL.out).mono ?_); rintro e w' ⟨rfl, rfl⟩))
            go_round
            case rel => exact ⟨k, _, _, by omega, HS.out, rfl, by rw [Bw.add_slot HQ.out (by omega)], rfl⟩
            case measure => simp [intOf]
          · have ht := Bw.shr_not_one h1
            have HS := Lib.hid (Bw.subR_skip hR h1)
            clear h1 hR ek hQ
            go_wp2_with fail
            go_round
            case rel => exact ⟨k, _, _, by omega, HS.out, rfl, rfl, rfl⟩
            case measure => simp [intOf]

end Go.Proofs.Ytdnjmnlieilpiae
