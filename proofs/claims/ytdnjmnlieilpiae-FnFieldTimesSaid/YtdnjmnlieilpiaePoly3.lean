/- Contracts: the functions on polynomials and their registers and fields. -/
import Derived.Test.YtdnjmnlieilpiaePoly2
import Derived.Test.YtdnjmnlieilpiaeField

namespace Go.Proofs.Ytdnjmnlieilpiae
open Go.RowKit
set_option linter.unusedVariables false

/-! PolyTimes -/

/-! PolyDivide -/

theorem impl_PolyDivide_yes (a b : Nat) (w : World) (ha : a ≤ 65535) (hb : b ≤ 65535) (h0 : b ≠ 0) :
    Calls Try.prog 10 #[.int .i64 a, .int .i64 b] w fun e w' => e = .returned (.tuple #[.int .i64 ((Bw.pdiv a b : Nat) : Int), .int .i64 ((Bw.pmod a b : Nat) : Int), .bool true]) ∧ w = w' := by
  have hp : 0 < b := by omega
  go_enter Try.func10, Try.ntmps10
  go_wp2_with (first | (go_at_call 28; ((with_reducible refine (impl_PolyValid_yes _ _ (by omega) (by omega)).mono ?_); rintro e w' ⟨rfl, rfl⟩)) | (go_at_call 29; ((with_reducible refine (divide_any a b _ (by omega) h0 (by omega)).mono ?_); rintro e w' ⟨rfl, rfl⟩)))
  go_ret3
  exact ⟨rfl, rfl⟩

theorem impl_PolyDivide_no (a b : Int) (w : World) (h : (a < 0 ∨ 65535 < a) ∨ (b ≤ 0 ∨ 65535 < b)) :
    Calls Try.prog 10 #[.int .i64 a, .int .i64 b] w fun e w' => e = .returned (.tuple #[.int .i64 (-1), .int .i64 (-1), .bool false]) ∧ w = w' := by
  by_cases ha : a < 0 ∨ 65535 < a
  · go_enter Try.func10, Try.ntmps10
    go_wp2_with (go_at_call 28; ((with_reducible refine (impl_PolyValid_no _ _ ha).mono ?_); rintro e w' ⟨rfl, rfl⟩))
    go_ret3
    exact ⟨rfl, rfl⟩
  · have h0 : 0 ≤ a ∧ a ≤ 65535 := by omega
    by_cases hb : b = 0
    · subst hb
      clear h ha
      go_enter Try.func10, Try.ntmps10
      go_wp2_with (go_at_call 28; ((with_reducible refine (impl_PolyValid_yes _ _ (by omega) (by omega)).mono ?_); rintro e w' ⟨rfl, rfl⟩))
      go_ret3
      exact ⟨rfl, rfl⟩
    · have hb2 : b < 0 ∨ 65535 < b := by omega
      clear h ha hb
      go_enter Try.func10, Try.ntmps10
      go_wp2_with (first | (go_at_call 28; ((with_reducible refine (impl_PolyValid_no _ _ (by omega)).mono ?_); rintro e w' ⟨rfl, rfl⟩)) | (go_at_call 28; ((with_reducible refine (impl_PolyValid_yes _ _ (by omega) (by omega)).mono ?_); rintro e w' ⟨rfl, rfl⟩)))
      go_ret3
      exact ⟨rfl, rfl⟩

/-! PolyCommon -/

theorem impl_PolyCommon_yes (a b : Nat) (w : World) (ha : a ≤ 65535) (hb : b ≤ 65535) :
    Calls Try.prog 12 #[.int .i64 a, .int .i64 b] w fun e w' => e = .returned (.int .i64 ((Bw.pgcd a b : Nat) : Int)) ∧ w = w' := by
  go_enter Try.func12, Try.ntmps12
  go_wp2_with (go_at_call 28; ((with_reducible refine (impl_PolyValid_yes _ _ (by omega) (by omega)).mono ?_); rintro e w' ⟨rfl, rfl⟩))
  go_loop [0, 1] (fun t q => ∃ A B : Nat, A ≤ 65535 ∧ B ≤ 65535 ∧ Hid (Bw.pgcd a b = Bw.pgcd A B) ∧ t = .int .i64 A ∧ q = .int .i64 B) (fun _ q => (intOf q).toNat)
  case atStart => exact ⟨a, b, ha, hb, rfl, rfl, rfl⟩
  case round =>
    obtain ⟨A, B, hA, hB, hg, rfl, rfl⟩ := hrel
    by_cases h0 : B = 0
    · subst h0
      go_wp2_with fail
      go_ret
      exact ⟨by rw [hg.out, Bw.pgcd_zero]; rfl, rfl⟩
    · have hp : 0 < B := by omega
      have hs := Bw.pgcd_step A h0
      have hl := Bw.pmod_le A h0
      have HS := Lib.hid hs
      clear hs
      go_wp2_with (go_at_call 22; ((with_reducible refine (rest_any A B _ (by omega) h0 (by omega)).mono ?_); rintro e w' ⟨rfl, rfl⟩))
      go_round
      case rel => exact ⟨B, _, hB, by omega, hg.out.trans HS.out, rfl, rfl⟩
      case measure => simp [intOf]; omega

theorem impl_PolyCommon_no (a b : Int) (w : World) (h : (a < 0 ∨ 65535 < a) ∨ (b < 0 ∨ 65535 < b)) :
    Calls Try.prog 12 #[.int .i64 a, .int .i64 b] w fun e w' => e = .returned (.int .i64 (-1)) ∧ w = w' := by
  by_cases ha : a < 0 ∨ 65535 < a
  · go_enter Try.func12, Try.ntmps12
    go_wp2_with (go_at_call 28; ((with_reducible refine (impl_PolyValid_no _ _ ha).mono ?_); rintro e w' ⟨rfl, rfl⟩))
    go_ret
    exact ⟨rfl, rfl⟩
  · have h0 : 0 ≤ a ∧ a ≤ 65535 := by omega
    have hb : b < 0 ∨ 65535 < b := by omega
    clear h ha
    go_enter Try.func12, Try.ntmps12
    go_wp2_with (first | (go_at_call 28; ((with_reducible refine (impl_PolyValid_no _ _ (by omega)).mono ?_); rintro e w' ⟨rfl, rfl⟩)) | (go_at_call 28; ((with_reducible refine (impl_PolyValid_yes _ _ (by omega) (by omega)).mono ?_); rintro e w' ⟨rfl, rfl⟩)))
    go_ret
    exact ⟨rfl, rfl⟩

end Go.Proofs.Ytdnjmnlieilpiae
