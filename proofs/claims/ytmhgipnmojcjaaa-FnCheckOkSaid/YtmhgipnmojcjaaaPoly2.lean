/- Contracts: divisions of polynomials. -/
import Derived.Test.YtmhgipnmojcjaaaPoly1
import Derived.Test.YtmhgipnmojcjaaaDivPlain

namespace Go.Proofs.Ytmhgipnmojcjaaa
open Go.RowKit
set_option linter.unusedVariables false

set_option maxHeartbeats 400000 in
theorem divide_any (a b : Nat) (w : World) (ha : a < 4294967296) (hb : b ≠ 0) (hb2 : b < 4294967296) :
    Calls Try.prog 30 #[.int .i64 a, .int .i64 b] w fun e w' => e = .returned (.tuple #[.int .i64 ((Bw.pdiv a b : Nat) : Int), .int .i64 ((Bw.pmod a b : Nat) : Int)]) ∧ w = w' := by
  have hdb := Bw.dg_bd hb2
  go_enter Try.func30, Try.ntmps30
  go_wp2_with fail
  go_loop [0, 6] (fun t q => ∃ A Q : Nat, A < 4294967296 ∧ Bw.DivR a b A Q ∧ t = .int .i64 A ∧ q = .int .i64 Q) (fun t _ => (intOf t).toNat)
  case atStart => exact ⟨a, 0, ha, Bw.divR_start a b, rfl, rfl⟩
  case round =>
    obtain ⟨A, Q, hA, hR, rfl, rfl⟩ := hrel
    have hdA := Bw.dg_bd hA
    by_cases hl : Bw.dg b ≤ Bw.dg A
    · have hs := Bw.divR_step hb hA hR hl
      obtain ⟨hA0, he, hn, hlt⟩ := Bw.divR_num hb hA hl
      have HS := Lib.hid hs
      have HQ := Lib.hid hR.2.2
      have HL := Lib.hid hlt
      clear hs he hR hlt
      go_wp2_with (first | (go_at_call 21; ((with_reducible refine (degree_any A _ hA).mono ?_); rintro e w' ⟨rfl, rfl⟩)) | (go_at_call 21; ((with_reducible refine (degree_any b _ hb2).mono ?_); rintro e w' ⟨rfl, rfl⟩)))
      go_round
      case rel => exact ⟨_, _, Nat.lt_trans HS.out.2 hA, HS.out.1, by rw [Bw.xor_slot hA HL.out], by rw [Bw.or_slot HQ.out hn]⟩
      case measure => rw [Bw.xor_slot hA HL.out]; simp only [intOf, Int.toNat_natCast]; exact HS.out.2
    · have hl2 : Bw.dg A < Bw.dg b := by omega
      have hdec : decide (Bw.dg b ≤ Bw.dg A) = false := by rw [decide_eq_false_iff_not]; omega
      have he := Bw.divR_end hb hR hl2
      have HE := Lib.hid he
      clear he hR hl
      go_wp2_with (first | (go_at_call 21; ((with_reducible refine (degree_any A _ hA).mono ?_); rintro e w' ⟨rfl, rfl⟩)) | (go_at_call 21; ((with_reducible refine (degree_any b _ hb2).mono ?_); rintro e w' ⟨rfl, rfl⟩)))
      go_ret2
      exact ⟨by rw [HE.out.1, HE.out.2]; rfl, rfl⟩

theorem rest_any (a b : Nat) (w : World) (ha : a < 4294967296) (hb : b ≠ 0) (hb2 : b < 4294967296) :
    Calls Try.prog 20 #[.int .i64 a, .int .i64 b] w fun e w' => e = .returned (.int .i64 ((Bw.pmod a b : Nat) : Int)) ∧ w = w' := by
  go_enter Try.func20, Try.ntmps20
  go_wp2_with (go_at_call 30; ((with_reducible refine (divide_any a b _ ha hb hb2).mono ?_); rintro e w' ⟨rfl, rfl⟩))
  go_ret
  exact ⟨rfl, rfl⟩

end Go.Proofs.Ytmhgipnmojcjaaa
