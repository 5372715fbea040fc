/- Contracts: prime polynomials, registers, fields. -/
import Derived.Test.YtmhgipnmojcjaaaPoly3

namespace Go.Proofs.Ytmhgipnmojcjaaa
open Go.RowKit
set_option linter.unusedVariables false

theorem isModulus_yes (p : Nat) (w : World) (h0 : 2 ≤ p) (h1 : p ≤ 511) :
    Calls Try.prog 18 #[.int .i64 p] w fun e w' => e = .returned (.bool true) ∧ w = w' := by
  obtain ⟨he, hd0, hd1⟩ := Bw.modulus_dg h0 h1
  clear he
  go_enter Try.func18, Try.ntmps18
  go_wp2_with (first | (go_at_call 28; ((with_reducible refine (impl_PolyValid_yes _ _ (by omega) (by omega)).mono ?_); rintro e w' ⟨rfl, rfl⟩)) | (go_at_call 21; ((with_reducible refine (degree_any p _ (by omega)).mono ?_); rintro e w' ⟨rfl, rfl⟩)) | (go_at_call 32; ((with_reducible refine (within_yes _ _ _ _ (by omega) (by omega)).mono ?_); rintro e w' ⟨rfl, rfl⟩)))
  go_ret
  exact ⟨rfl, rfl⟩

theorem isModulus_no (p : Int) (w : World) (h : p < 2 ∨ 511 < p) :
    Calls Try.prog 18 #[.int .i64 p] w fun e w' => e = .returned (.bool false) ∧ w = w' := by
  by_cases hv : 0 ≤ p ∧ p ≤ 65535
  · obtain ⟨v0, v1⟩ := hv
    obtain ⟨p, rfl⟩ := Int.eq_ofNat_of_zero_le v0
    have hd := Bw.not_modulus_dg (p := p) (by omega)
    go_enter Try.func18, Try.ntmps18
    go_wp2_with (first | (go_at_call 28; ((with_reducible refine (impl_PolyValid_yes _ _ (by omega) (by omega)).mono ?_); rintro e w' ⟨rfl, rfl⟩)) | (go_at_call 21; ((with_reducible refine (degree_any p _ (by omega)).mono ?_); rintro e w' ⟨rfl, rfl⟩)) | (go_at_call 32; ((with_reducible refine (within_no _ _ _ _ (by omega)).mono ?_); rintro e w' ⟨rfl, rfl⟩)))
    go_ret
    exact ⟨rfl, rfl⟩
  · have hv2 : p < 0 ∨ 65535 < p := by omega
    clear h hv
    go_enter Try.func18, Try.ntmps18
    go_wp2_with (go_at_call 28; ((with_reducible refine (impl_PolyValid_no _ _ hv2).mono ?_); rintro e w' ⟨rfl, rfl⟩))
    go_ret
    exact ⟨rfl, rfl⟩

/-! PolyPrime -/

/-- the degree of what is no modulus, as the reference has it -/
theorem spec_degree_no (p : Int) (h : p < 2 ∨ 511 < p) : ∃ d : Int, (d < 1 ∨ 8 < d) ∧ d < 32 ∧ -2 ≤ d ∧ ∀ w : World, Calls Try.prog 9 #[.int .i64 p] w fun e w' => e = .returned (.int .i64 d) ∧ w = w' := by
  by_cases hv : 0 ≤ p ∧ p ≤ 65535
  · obtain ⟨v0, v1⟩ := hv
    obtain ⟨p, rfl⟩ := Int.eq_ofNat_of_zero_le v0
    have := Bw.dg_bd (p := p) (by omega)
    exact ⟨Bw.dg p, Bw.not_modulus_dg (by omega), by omega, by omega, fun w => spec_PolyDegree_yes p w (by omega)⟩
  · exact ⟨-2, by omega, by omega, by omega, fun w => spec_PolyDegree_no p w (by omega)⟩

/-! states -/

end Go.Proofs.Ytmhgipnmojcjaaa
