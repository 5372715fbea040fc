/- Contracts: the functions on polynomials and their registers and fields. -/
import Derived.Test.YtdnjmnlieilpiaaPoly2
import Derived.Test.YtdnjmnlieilpiaaField

namespace Go.Proofs.Ytdnjmnlieilpiaa
open Go.RowKit
set_option linter.unusedVariables false

/-! PolyTimes -/

theorem impl_PolyTimes_yes (a b : Nat) (w : World) (ha : a ≤ 65535) (hb : b ≤ 65535) (hs : Bw.mul a b ≤ 65535) :
    Calls Try.prog 21 #[.int .i64 a, .int .i64 b] w fun e w' => e = .returned (.int .i64 ((Bw.mul a b : Nat) : Int)) ∧ w = w' := by
  go_enter Try.func21, Try.ntmps21
  go_wp2_with (first | (go_at_call 10; ((with_reducible refine (impl_PolyValid_yes _ _ (by omega) (by omega)).mono ?_); rintro e w' ⟨rfl, rfl⟩)) | (go_at_call 39; ((with_reducible refine (times_any a b _ (by omega) (by omega)).mono ?_); rintro e w' ⟨rfl, rfl⟩)))
  go_ret
  exact ⟨rfl, rfl⟩

theorem impl_PolyTimes_big (a b : Nat) (w : World) (ha : a ≤ 65535) (hb : b ≤ 65535) (hs : 65535 < Bw.mul a b) :
    Calls Try.prog 21 #[.int .i64 a, .int .i64 b] w fun e w' => e = .returned (.int .i64 (-1)) ∧ w = w' := by
  go_enter Try.func21, Try.ntmps21
  go_wp2_with (first | (go_at_call 10; ((with_reducible refine (impl_PolyValid_yes _ _ (by omega) (by omega)).mono ?_); rintro e w' ⟨rfl, rfl⟩)) | (go_at_call 10; ((with_reducible refine (impl_PolyValid_no _ _ (by omega)).mono ?_); rintro e w' ⟨rfl, rfl⟩)) | (go_at_call 39; ((with_reducible refine (times_any a b _ (by omega) (by omega)).mono ?_); rintro e w' ⟨rfl, rfl⟩)))
  go_ret
  exact ⟨rfl, rfl⟩

theorem impl_PolyTimes_no (a b : Int) (w : World) (h : (a < 0 ∨ 65535 < a) ∨ (b < 0 ∨ 65535 < b)) :
    Calls Try.prog 21 #[.int .i64 a, .int .i64 b] w fun e w' => e = .returned (.int .i64 (-1)) ∧ w = w' := by
  by_cases ha : a < 0 ∨ 65535 < a
  · go_enter Try.func21, Try.ntmps21
    go_wp2_with (go_at_call 10; ((with_reducible refine (impl_PolyValid_no _ _ ha).mono ?_); rintro e w' ⟨rfl, rfl⟩))
    go_ret
    exact ⟨rfl, rfl⟩
  · have h0 : 0 ≤ a ∧ a ≤ 65535 := by omega
    have hb : b < 0 ∨ 65535 < b := by omega
    clear h ha
    go_enter Try.func21, Try.ntmps21
    go_wp2_with (first | (go_at_call 10; ((with_reducible refine (impl_PolyValid_no _ _ (by omega)).mono ?_); rintro e w' ⟨rfl, rfl⟩)) | (go_at_call 10; ((with_reducible refine (impl_PolyValid_yes _ _ (by omega) (by omega)).mono ?_); rintro e w' ⟨rfl, rfl⟩)))
    go_ret
    exact ⟨rfl, rfl⟩

theorem spec_PolyTimes_yes (a b : Nat) (w : World) (ha : a ≤ 65535) (hb : b ≤ 65535) (hs : Bw.dg a + Bw.dg b ≤ 15) :
    Calls Try.prog 20 #[.int .i64 a, .int .i64 b] w fun e w' => e = .returned (.int .i64 ((Bw.mul a b : Nat) : Int)) ∧ w = w' := by
  have ka := Bw.dg_bd (p := a) (by omega)
  have kb := Bw.dg_bd (p := b) (by omega)
  go_enter Try.func20, Try.ntmps20
  go_wp2_with (first | (go_at_call 9; ((with_reducible refine (spec_PolyValid_yes _ _ (by omega) (by omega)).mono ?_); rintro e w' ⟨rfl, rfl⟩)) | (go_at_call 18; ((with_reducible refine (spec_PolyDegree_yes a _ ha).mono ?_); rintro e w' ⟨rfl, rfl⟩)) | (go_at_call 18; ((with_reducible refine (spec_PolyDegree_yes b _ hb).mono ?_); rintro e w' ⟨rfl, rfl⟩)) | (go_at_call 35; ((with_reducible refine (l7Times_any a b _ _ _ (Bw.lt_pow_dg a) (Bw.lt_pow_dg b) (by omega)).mono ?_); rintro e w' ⟨rfl, rfl⟩)))
  go_ret
  exact ⟨rfl, rfl⟩

theorem spec_PolyTimes_big (a b : Nat) (w : World) (ha : a ≤ 65535) (hb : b ≤ 65535) (hs : 15 < Bw.dg a + Bw.dg b) :
    Calls Try.prog 20 #[.int .i64 a, .int .i64 b] w fun e w' => e = .returned (.int .i64 (-1)) ∧ w = w' := by
  have ka := Bw.dg_bd (p := a) (by omega)
  have kb := Bw.dg_bd (p := b) (by omega)
  obtain ⟨_, a0, b0⟩ := Bw.mul_big ha hb hs
  by_cases h28 : Bw.dg a + Bw.dg b < 28
  · go_enter Try.func20, Try.ntmps20
    go_wp2_with (first | (go_at_call 9; ((with_reducible refine (spec_PolyValid_yes _ _ (by omega) (by omega)).mono ?_); rintro e w' ⟨rfl, rfl⟩)) | (go_at_call 18; ((with_reducible refine (spec_PolyDegree_yes a _ ha).mono ?_); rintro e w' ⟨rfl, rfl⟩)) | (go_at_call 18; ((with_reducible refine (spec_PolyDegree_yes b _ hb).mono ?_); rintro e w' ⟨rfl, rfl⟩)) | (go_at_call 35; ((with_reducible refine (l7Times_any a b _ _ _ (Bw.lt_pow_dg a) (Bw.lt_pow_dg b) (by omega)).mono ?_); rintro e w' ⟨rfl, rfl⟩)))
    go_ret
    exact ⟨rfl, rfl⟩
  · have h28' : 28 ≤ Bw.dg a + Bw.dg b := by omega
    clear h28
    go_enter Try.func20, Try.ntmps20
    go_wp2_with (first | (go_at_call 9; ((with_reducible refine (spec_PolyValid_yes _ _ (by omega) (by omega)).mono ?_); rintro e w' ⟨rfl, rfl⟩)) | (go_at_call 18; ((with_reducible refine (spec_PolyDegree_yes a _ ha).mono ?_); rintro e w' ⟨rfl, rfl⟩)) | (go_at_call 18; ((with_reducible refine (spec_PolyDegree_yes b _ hb).mono ?_); rintro e w' ⟨rfl, rfl⟩)))
    go_ret
    exact ⟨rfl, rfl⟩

theorem spec_PolyTimes_no (a b : Int) (w : World) (h : (a < 0 ∨ 65535 < a) ∨ (b < 0 ∨ 65535 < b)) :
    Calls Try.prog 20 #[.int .i64 a, .int .i64 b] w fun e w' => e = .returned (.int .i64 (-1)) ∧ w = w' := by
  by_cases ha : a < 0 ∨ 65535 < a
  · go_enter Try.func20, Try.ntmps20
    go_wp2_with (go_at_call 9; ((with_reducible refine (spec_PolyValid_no _ _ ha).mono ?_); rintro e w' ⟨rfl, rfl⟩))
    go_ret
    exact ⟨rfl, rfl⟩
  · have h0 : 0 ≤ a ∧ a ≤ 65535 := by omega
    have hb : b < 0 ∨ 65535 < b := by omega
    clear h ha
    go_enter Try.func20, Try.ntmps20
    go_wp2_with (first | (go_at_call 9; ((with_reducible refine (spec_PolyValid_no _ _ (by omega)).mono ?_); rintro e w' ⟨rfl, rfl⟩)) | (go_at_call 9; ((with_reducible refine (spec_PolyValid_yes _ _ (by omega) (by omega)).mono ?_); rintro e w' ⟨rfl, rfl⟩)))
    go_ret
    exact ⟨rfl, rfl⟩

/-! PolyDivide -/

/-! PolyCommon -/

end Go.Proofs.Ytdnjmnlieilpiaa
