/- Contracts: products of the reference in a field, and inverses. -/
import Derived.Test.YtmhgipnmojcjaaaPoly5

namespace Go.Proofs.Ytmhgipnmojcjaaa
open Go.RowKit
set_option linter.unusedVariables false

theorem spec_degree_any (p : Int) : ∃ d : Int, d < 32 ∧ -2 ≤ d ∧ ∀ w : World, Calls Try.prog 9 #[.int .i64 p] w fun e w' => e = .returned (.int .i64 d) ∧ w = w' := by
  by_cases hv : 0 ≤ p ∧ p ≤ 65535
  · obtain ⟨v0, v1⟩ := hv
    obtain ⟨p, rfl⟩ := Int.eq_ofNat_of_zero_le v0
    have := Bw.dg_bd (p := p) (by omega)
    exact ⟨Bw.dg p, by omega, by omega, fun w => spec_PolyDegree_yes p w (by omega)⟩
  · exact ⟨-2, by omega, by omega, fun w => spec_PolyDegree_no p w (by omega)⟩

/-! FieldInverse -/

/-- the arguments of an inverse -/
def InverseOk (a p : Int) : Prop := (0 ≤ p ∧ p ≤ 511 ∧ Bw.Prime p.toNat) ∧ (0 < a ∧ a < ((2 ^ p.toNat.log2 : Nat) : Int))

end Go.Proofs.Ytmhgipnmojcjaaa
