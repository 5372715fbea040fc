/- Contracts: the functions on polynomials and their registers and fields. -/
import Derived.Test.YtmhgipnmojcjaaaPoly2
import Derived.Test.YtmhgipnmojcjaaaField

namespace Go.Proofs.Ytmhgipnmojcjaaa
open Go.RowKit
set_option linter.unusedVariables false

/-! PolyTimes -/

/-! PolyDivide -/

theorem impl_PolyDivide_yes (a b : Nat) (w : World) (ha : a ≤ 65535) (hb : b ≤ 65535) (h0 : b ≠ 0) :
    Calls Try.prog 14 #[.int .i64 a, .int .i64 b] w fun e w' => e = .returned (.tuple #[.int .i64 ((Bw.pdiv a b : Nat) : Int), .int .i64 ((Bw.pmod a b : Nat) : Int), .bool true]) ∧ w = w' := by
  have hp : 0 < b := by omega
  go_enter Try.func14, Try.ntmps14
  go_wp2_with (first | (go_at_call 28; ((with_reducible refine (impl_PolyValid_yes _ _ (by omega) (by omega)).mono ?_); rintro e w' ⟨rfl, rfl⟩)) | (go_at_call 30; ((with_reducible refine (divide_any a b _ (by omega) h0 (by omega)).mono ?_); rintro e w' ⟨rfl, rfl⟩)))
  go_ret3
  exact ⟨rfl, rfl⟩

theorem impl_PolyDivide_no (a b : Int) (w : World) (h : (a < 0 ∨ 65535 < a) ∨ (b ≤ 0 ∨ 65535 < b)) :
    Calls Try.prog 14 #[.int .i64 a, .int .i64 b] w fun e w' => e = .returned (.tuple #[.int .i64 (-1), .int .i64 (-1), .bool false]) ∧ w = w' := by
  by_cases ha : a < 0 ∨ 65535 < a
  · go_enter Try.func14, Try.ntmps14
    go_wp2_with (go_at_call 28; ((with_reducible refine (impl_PolyValid_no _ _ ha).mono ?_); rintro e w' ⟨rfl, rfl⟩))
    go_ret3
    exact ⟨rfl, rfl⟩
  · have h0 : 0 ≤ a ∧ a ≤ 65535 := by omega
    by_cases hb : b = 0
    · subst hb
      clear h ha
      go_enter Try.func14, Try.ntmps14
      go_wp2_with (go_at_call 28; ((with_reducible refine (impl_PolyValid_yes _ _ (by omega) (by omega)).mono ?_); rintro e w' ⟨rfl, rfl⟩))
      go_ret3
      exact ⟨rfl, rfl⟩
    · have hb2 : b < 0 ∨ 65535 < b := by omega
      clear h ha hb
      go_enter Try.func14, Try.ntmps14
      go_wp2_with (first | (go_at_call 28; ((with_reducible refine (impl_PolyValid_no _ _ (by omega)).mono ?_); rintro e w' ⟨rfl, rfl⟩)) | (go_at_call 28; ((with_reducible refine (impl_PolyValid_yes _ _ (by omega) (by omega)).mono ?_); rintro e w' ⟨rfl, rfl⟩)))
      go_ret3
      exact ⟨rfl, rfl⟩

/-! PolyCommon -/

end Go.Proofs.Ytmhgipnmojcjaaa
