/- Contracts: the functions on polynomials and their registers and fields. -/
import Derived.Test.YtdnjmnlieilpiadPoly2
import Derived.Test.YtdnjmnlieilpiadField

namespace Go.Proofs.Ytdnjmnlieilpiad
open Go.RowKit
set_option linter.unusedVariables false

/-! PolyTimes -/

theorem impl_PolyTimes_yes (a b : Nat) (w : World) (ha : a ≤ 65535) (hb : b ≤ 65535) (hs : Bw.mul a b ≤ 65535) :
    Calls Try.prog 25 #[.int .i64 a, .int .i64 b] w fun e w' => e = .returned (.int .i64 ((Bw.mul a b : Nat) : Int)) ∧ w = w' := by
  go_enter Try.func25, Try.ntmps25
  go_wp2_with (first | (go_at_call 43; ((with_reducible refine (impl_PolyValid_yes _ _ (by omega) (by omega)).mono ?_); rintro e w' ⟨rfl, rfl⟩)) | (go_at_call 53; ((with_reducible refine (times_any a b _ (by omega) (by omega)).mono ?_); rintro e w' ⟨rfl, rfl⟩)))
  go_ret
  exact ⟨rfl, rfl⟩

theorem impl_PolyTimes_big (a b : Nat) (w : World) (ha : a ≤ 65535) (hb : b ≤ 65535) (hs : 65535 < Bw.mul a b) :
    Calls Try.prog 25 #[.int .i64 a, .int .i64 b] w fun e w' => e = .returned (.int .i64 (-1)) ∧ w = w' := by
  go_enter Try.func25, Try.ntmps25
  go_wp2_with (first | (go_at_call 43; ((with_reducible refine (impl_PolyValid_yes _ _ (by omega) (by omega)).mono ?_); rintro e w' ⟨rfl, rfl⟩)) | (go_at_call 43; ((with_reducible refine (impl_PolyValid_no _ _ (by omega)).mono ?_); rintro e w' ⟨rfl, rfl⟩)) | (go_at_call 53; ((with_reducible refine (times_any a b _ (by omega) (by omega)).mono ?_); rintro e w' ⟨rfl, rfl⟩)))
  go_ret
  exact ⟨rfl, rfl⟩

theorem impl_PolyTimes_no (a b : Int) (w : World) (h : (a < 0 ∨ 65535 < a) ∨ (b < 0 ∨ 65535 < b)) :
    Calls Try.prog 25 #[.int .i64 a, .int .i64 b] w fun e w' => e = .returned (.int .i64 (-1)) ∧ w = w' := by
  by_cases ha : a < 0 ∨ 65535 < a
  · go_enter Try.func25, Try.ntmps25
    go_wp2_with (go_at_call 43; ((with_reducible refine (impl_PolyValid_no _ _ ha).mono ?_); rintro e w' ⟨rfl, rfl⟩))
    go_ret
    exact ⟨rfl, rfl⟩
  · have h0 : 0 ≤ a ∧ a ≤ 65535 := by omega
    have hb : b < 0 ∨ 65535 < b := by omega
    clear h ha
    go_enter Try.func25, Try.ntmps25
    go_wp2_with (first | (go_at_call 43; ((with_reducible refine (impl_PolyValid_no _ _ (by omega)).mono ?_); rintro e w' ⟨rfl, rfl⟩)) | (go_at_call 43; ((with_reducible refine (impl_PolyValid_yes _ _ (by omega) (by omega)).mono ?_); rintro e w' ⟨rfl, rfl⟩)))
    go_ret
    exact ⟨rfl, rfl⟩

theorem spec_PolyTimes_yes (a b : Nat) (w : World) (ha : a ≤ 65535) (hb : b ≤ 65535) (hs : Bw.dg a + Bw.dg b ≤ 15) :
    Calls Try.prog 54 #[.int .i64 a, .int .i64 b] w fun e w' => e = .returned (.int .i64 ((Bw.mul a b : Nat) : Int)) ∧ w = w' := by
  have ka := Bw.dg_bd (p := a) (by omega)
  have kb := Bw.dg_bd (p := b) (by omega)
  go_enter Try.func54, Try.ntmps54
  go_wp2_with (first | (go_at_call 42; ((with_reducible refine (spec_PolyValid_yes _ _ (by omega) (by omega)).mono ?_); rintro e w' ⟨rfl, rfl⟩)) | (go_at_call 13; ((with_reducible refine (spec_PolyDegree_yes a _ ha).mono ?_); rintro e w' ⟨rfl, rfl⟩)) | (go_at_call 13; ((with_reducible refine (spec_PolyDegree_yes b _ hb).mono ?_); rintro e w' ⟨rfl, rfl⟩)) | (go_at_call 64; ((with_reducible refine (l7Times_any a b _ _ _ (Bw.lt_pow_dg a) (Bw.lt_pow_dg b) (by omega)).mono ?_); rintro e w' ⟨rfl, rfl⟩)))
  go_ret
  exact ⟨rfl, rfl⟩

theorem spec_PolyTimes_big (a b : Nat) (w : World) (ha : a ≤ 65535) (hb : b ≤ 65535) (hs : 15 < Bw.dg a + Bw.dg b) :
    Calls Try.prog 54 #[.int .i64 a, .int .i64 b] w fun e w' => e = .returned (.int .i64 (-1)) ∧ w = w' := by
  have ka := Bw.dg_bd (p := a) (by omega)
  have kb := Bw.dg_bd (p := b) (by omega)
  obtain ⟨_, a0, b0⟩ := Bw.mul_big ha hb hs
  by_cases h28 : Bw.dg a + Bw.dg b < 28
  · go_enter Try.func54, Try.ntmps54
    go_wp2_with (first | (go_at_call 42; ((with_reducible refine (spec_PolyValid_yes _ _ (by omega) (by omega)).mono ?_); rintro e w' ⟨rfl, rfl⟩)) | (go_at_call 13; ((with_reducible refine (spec_PolyDegree_yes a _ ha).mono ?_); rintro e w' ⟨rfl, rfl⟩)) | (go_at_call 13; ((with_reducible refine (spec_PolyDegree_yes b _ hb).mono ?_); rintro e w' ⟨rfl, rfl⟩)) | (go_at_call 64; ((with_reducible refine (l7Times_any a b _ _ _ (Bw.lt_pow_dg a) (Bw.lt_pow_dg b) (by omega)).mono ?_); rintro e w' ⟨rfl, rfl⟩)))
    go_ret
    exact ⟨rfl, rfl⟩
  · have h28' : 28 ≤ Bw.dg a + Bw.dg b := by omega
    clear h28
    go_enter Try.func54, Try.ntmps54
    go_wp2_with (first | (go_at_call 42; ((with_reducible refine (spec_PolyValid_yes _ _ (by omega) (by omega)).mono ?_); rintro e w' ⟨rfl, rfl⟩)) | (go_at_call 13; ((with_reducible refine (spec_PolyDegree_yes a _ ha).mono ?_); rintro e w' ⟨rfl, rfl⟩)) | (go_at_call 13; ((with_reducible refine (spec_PolyDegree_yes b _ hb).mono ?_); rintro e w' ⟨rfl, rfl⟩)))
    go_ret
    exact ⟨rfl, rfl⟩

theorem spec_PolyTimes_no (a b : Int) (w : World) (h : (a < 0 ∨ 65535 < a) ∨ (b < 0 ∨ 65535 < b)) :
    Calls Try.prog 54 #[.int .i64 a, .int .i64 b] w fun e w' => e = .returned (.int .i64 (-1)) ∧ w = w' := by
  by_cases ha : a < 0 ∨ 65535 < a
  · go_enter Try.func54, Try.ntmps54
    go_wp2_with (go_at_call 42; ((with_reducible refine (spec_PolyValid_no _ _ ha).mono ?_); rintro e w' ⟨rfl, rfl⟩))
    go_ret
    exact ⟨rfl, rfl⟩
  · have h0 : 0 ≤ a ∧ a ≤ 65535 := by omega
    have hb : b < 0 ∨ 65535 < b := by omega
    clear h ha
    go_enter Try.func54, Try.ntmps54
    go_wp2_with (first | (go_at_call 42; ((with_reducible refine (spec_PolyValid_no _ _ (by omega)).mono ?_); rintro e w' ⟨rfl, rfl⟩)) | (go_at_call 42; ((with_reducible refine (spec_PolyValid_yes _ _ (by omega) (by omega)).mono ?_); rintro e w' ⟨rfl, rfl⟩)))
    go_ret
    exact ⟨rfl, rfl⟩

/-! PolyDivide -/

theorem impl_PolyDivide_yes (a b : Nat) (w : World) (ha : a ≤ 65535) (hb : b ≤ 65535) (h0 : b ≠ 0) :
    Calls Try.prog 23 #[.int .i64 a, .int .i64 b] w fun e w' => e = .returned (.tuple #[.int .i64 ((Bw.pdiv a b : Nat) : Int), .int .i64 ((Bw.pmod a b : Nat) : Int), .bool true]) ∧ w = w' := by
  have hp : 0 < b := by omega
  go_enter Try.func23, Try.ntmps23
  go_wp2_with (first | (go_at_call 43; ((with_reducible refine (impl_PolyValid_yes _ _ (by omega) (by omega)).mono ?_); rintro e w' ⟨rfl, rfl⟩)) | (go_at_call 52; ((with_reducible refine (divide_any a b _ (by omega) h0 (by omega)).mono ?_); rintro e w' ⟨rfl, rfl⟩)))
  go_ret3
  exact ⟨rfl, rfl⟩

theorem impl_PolyDivide_no (a b : Int) (w : World) (h : (a < 0 ∨ 65535 < a) ∨ (b ≤ 0 ∨ 65535 < b)) :
    Calls Try.prog 23 #[.int .i64 a, .int .i64 b] w fun e w' => e = .returned (.tuple #[.int .i64 (-1), .int .i64 (-1), .bool false]) ∧ w = w' := by
  by_cases ha : a < 0 ∨ 65535 < a
  · go_enter Try.func23, Try.ntmps23
    go_wp2_with (go_at_call 43; ((with_reducible refine (impl_PolyValid_no _ _ ha).mono ?_); rintro e w' ⟨rfl, rfl⟩))
    go_ret3
    exact ⟨rfl, rfl⟩
  · have h0 : 0 ≤ a ∧ a ≤ 65535 := by omega
    by_cases hb : b = 0
    · subst hb
      clear h ha
      go_enter Try.func23, Try.ntmps23
      go_wp2_with (go_at_call 43; ((with_reducible refine (impl_PolyValid_yes _ _ (by omega) (by omega)).mono ?_); rintro e w' ⟨rfl, rfl⟩))
      go_ret3
      exact ⟨rfl, rfl⟩
    · have hb2 : b < 0 ∨ 65535 < b := by omega
      clear h ha hb
      go_enter Try.func23, Try.ntmps23
      go_wp2_with (first | (go_at_call 43; ((with_reducible refine (impl_PolyValid_no _ _ (by omega)).mono ?_); rintro e w' ⟨rfl, rfl⟩)) | (go_at_call 43; ((with_reducible refine (impl_PolyValid_yes _ _ (by omega) (by omega)).mono ?_); rintro e w' ⟨rfl, rfl⟩)))
      go_ret3
      exact ⟨rfl, rfl⟩

theorem spec_PolyDivide_yes (a b : Nat) (w : World) (ha : a ≤ 65535) (hb : b ≤ 65535) (h0 : b ≠ 0) :
    Calls Try.prog 24 #[.int .i64 a, .int .i64 b] w fun e w' => e = .returned (.tuple #[.int .i64 ((Bw.pdiv a b : Nat) : Int), .int .i64 ((Bw.pmod a b : Nat) : Int), .bool true]) ∧ w = w' := by
  have hp : 0 < b := by omega
  go_enter Try.func24, Try.ntmps24
  go_wp2_with (first | (go_at_call 42; ((with_reducible refine (spec_PolyValid_yes _ _ (by omega) (by omega)).mono ?_); rintro e w' ⟨rfl, rfl⟩)) | (go_at_call 39; ((with_reducible refine (l7Divide_any a b _ (by omega) h0 (by omega)).mono ?_); rintro e w' ⟨rfl, rfl⟩)))
  go_ret3
  exact ⟨rfl, rfl⟩

theorem spec_PolyDivide_no (a b : Int) (w : World) (h : (a < 0 ∨ 65535 < a) ∨ (b ≤ 0 ∨ 65535 < b)) :
    Calls Try.prog 24 #[.int .i64 a, .int .i64 b] w fun e w' => e = .returned (.tuple #[.int .i64 (-1), .int .i64 (-1), .bool false]) ∧ w = w' := by
  by_cases ha : a < 0 ∨ 65535 < a
  · go_enter Try.func24, Try.ntmps24
    go_wp2_with (go_at_call 42; ((with_reducible refine (spec_PolyValid_no _ _ ha).mono ?_); rintro e w' ⟨rfl, rfl⟩))
    go_ret3
    exact ⟨rfl, rfl⟩
  · have h0 : 0 ≤ a ∧ a ≤ 65535 := by omega
    by_cases hb : b = 0
    · subst hb
      clear h ha
      go_enter Try.func24, Try.ntmps24
      go_wp2_with (go_at_call 42; ((with_reducible refine (spec_PolyValid_yes _ _ (by omega) (by omega)).mono ?_); rintro e w' ⟨rfl, rfl⟩))
      go_ret3
      exact ⟨rfl, rfl⟩
    · have hb2 : b < 0 ∨ 65535 < b := by omega
      clear h ha hb
      go_enter Try.func24, Try.ntmps24
      go_wp2_with (first | (go_at_call 42; ((with_reducible refine (spec_PolyValid_no _ _ (by omega)).mono ?_); rintro e w' ⟨rfl, rfl⟩)) | (go_at_call 42; ((with_reducible refine (spec_PolyValid_yes _ _ (by omega) (by omega)).mono ?_); rintro e w' ⟨rfl, rfl⟩)))
      go_ret3
      exact ⟨rfl, rfl⟩

/-! PolyCommon -/

theorem impl_PolyCommon_yes (a b : Nat) (w : World) (ha : a ≤ 65535) (hb : b ≤ 65535) :
    Calls Try.prog 31 #[.int .i64 a, .int .i64 b] w fun e w' => e = .returned (.int .i64 ((Bw.pgcd a b : Nat) : Int)) ∧ w = w' := by
  go_enter Try.func31, Try.ntmps31
  go_wp2_with (go_at_call 43; ((with_reducible refine (impl_PolyValid_yes _ _ (by omega) (by omega)).mono ?_); rintro e w' ⟨rfl, rfl⟩))
  go_loop [0, 1] (fun t q => ∃ A B : Nat, A ≤ 65535 ∧ B ≤ 65535 ∧ Hid (Bw.pgcd a b = Bw.pgcd A B) ∧ t = .int .i64 A ∧ q = .int .i64 B) (fun _ q => (intOf q).toNat)
  case atStart => exact ⟨a, b, ha, hb, rfl, rfl, rfl⟩
  case round =>
    obtain ⟨A, B, hA, hB, hg, rfl, rfl⟩ := hrel
    by_cases h0 : B = 0
    · subst h0
      go_wp2_with fail
      go_ret
      exact ⟨by rw [hg.out, Bw.pgcd_zero]; rfl, rfl⟩
    · have hp : 0 < B := by omega
      have hs := Bw.pgcd_step A h0
      have hl := Bw.pmod_le A h0
      have HS := Lib.hid hs
      clear hs
      go_wp2_with (go_at_call 37; ((with_reducible refine (rest_any A B _ (by omega) h0 (by omega)).mono ?_); rintro e w' ⟨rfl, rfl⟩))
      go_round
      case rel => exact ⟨B, _, hB, by omega, hg.out.trans HS.out, rfl, rfl⟩
      case measure => simp [intOf]; omega

theorem spec_PolyCommon_yes (a b : Nat) (w : World) (ha : a ≤ 65535) (hb : b ≤ 65535) :
    Calls Try.prog 32 #[.int .i64 a, .int .i64 b] w fun e w' => e = .returned (.int .i64 ((Bw.pgcd a b : Nat) : Int)) ∧ w = w' := by
  go_enter Try.func32, Try.ntmps32
  go_wp2_with (go_at_call 42; ((with_reducible refine (spec_PolyValid_yes _ _ (by omega) (by omega)).mono ?_); rintro e w' ⟨rfl, rfl⟩))
  go_loop [0, 1] (fun t q => ∃ A B : Nat, A ≤ 65535 ∧ B ≤ 65535 ∧ Hid (Bw.pgcd a b = Bw.pgcd A B) ∧ t = .int .i64 A ∧ q = .int .i64 B) (fun _ q => (intOf q).toNat)
  case atStart => exact ⟨a, b, ha, hb, rfl, rfl, rfl⟩
  case round =>
    obtain ⟨A, B, hA, hB, hg, rfl, rfl⟩ := hrel
    by_cases h0 : B = 0
    · subst h0
      go_wp2_with fail
      go_ret
      exact ⟨by rw [hg.out, Bw.pgcd_zero]; rfl, rfl⟩
    · have hp : 0 < B := by omega
      have hs := Bw.pgcd_step A h0
      have hl := Bw.pmod_le A h0
      have HS := Lib.hid hs
      clear hs
      go_wp2_with (go_at_call 39; ((with_reducible refine (l7Divide_any A B _ (by omega) h0 (by omega)).mono ?_); rintro e w' ⟨rfl, rfl⟩))
      go_round
      case rel => exact ⟨B, _, hB, by omega, hg.out.trans HS.out, rfl, rfl⟩
      case measure => simp [intOf]; omega

theorem impl_PolyCommon_no (a b : Int) (w : World) (h : (a < 0 ∨ 65535 < a) ∨ (b < 0 ∨ 65535 < b)) :
    Calls Try.prog 31 #[.int .i64 a, .int .i64 b] w fun e w' => e = .returned (.int .i64 (-1)) ∧ w = w' := by
  by_cases ha : a < 0 ∨ 65535 < a
  · go_enter Try.func31, Try.ntmps31
    go_wp2_with (go_at_call 43; ((with_reducible refine (impl_PolyValid_no _ _ ha).mono ?_); rintro e w' ⟨rfl, rfl⟩))
    go_ret
    exact ⟨rfl, rfl⟩
  · have h0 : 0 ≤ a ∧ a ≤ 65535 := by omega
    have hb : b < 0 ∨ 65535 < b := by omega
    clear h ha
    go_enter Try.func31, Try.ntmps31
    go_wp2_with (first | (go_at_call 43; ((with_reducible refine (impl_PolyValid_no _ _ (by omega)).mono ?_); rintro e w' ⟨rfl, rfl⟩)) | (go_at_call 43; ((with_reducible refine (impl_PolyValid_yes _ _ (by omega) (by omega)).mono ?_); rintro e w' ⟨rfl, rfl⟩)))
    go_ret
    exact ⟨rfl, rfl⟩

theorem spec_PolyCommon_no (a b : Int) (w : World) (h : (a < 0 ∨ 65535 < a) ∨ (b < 0 ∨ 65535 < b)) :
    Calls Try.prog 32 #[.int .i64 a, .int .i64 b] w fun e w' => e = .returned (.int .i64 (-1)) ∧ w = w' := by
  by_cases ha : a < 0 ∨ 65535 < a
  · go_enter Try.func32, Try.ntmps32
    go_wp2_with (go_at_call 42; ((with_reducible refine (spec_PolyValid_no _ _ ha).mono ?_); rintro e w' ⟨rfl, rfl⟩))
    go_ret
    exact ⟨rfl, rfl⟩
  · have h0 : 0 ≤ a ∧ a ≤ 65535 := by omega
    have hb : b < 0 ∨ 65535 < b := by omega
    clear h ha
    go_enter Try.func32, Try.ntmps32
    go_wp2_with (first | (go_at_call 42; ((with_reducible refine (spec_PolyValid_no _ _ (by omega)).mono ?_); rintro e w' ⟨rfl, rfl⟩)) | (go_at_call 42; ((with_reducible refine (spec_PolyValid_yes _ _ (by omega) (by omega)).mono ?_); rintro e w' ⟨rfl, rfl⟩)))
    go_ret
    exact ⟨rfl, rfl⟩

end Go.Proofs.Ytdnjmnlieilpiad
