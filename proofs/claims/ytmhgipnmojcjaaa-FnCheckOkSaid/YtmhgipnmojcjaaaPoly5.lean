/- Contracts: registers and fields. -/
import Derived.Test.YtmhgipnmojcjaaaPoly4

namespace Go.Proofs.Ytmhgipnmojcjaaa
open Go.RowKit
set_option linter.unusedVariables false

/-! RegisterNext -/

/-! RegisterPeriod -/

/-! FieldTimes -/

/-- the arguments of a product in a field -/
def FieldOk (a b p : Int) : Prop := (0 ≤ p ∧ p ≤ 511 ∧ Bw.Prime p.toNat) ∧ (0 ≤ a ∧ a < ((2 ^ p.toNat.log2 : Nat) : Int)) ∧ (0 ≤ b ∧ b < ((2 ^ p.toNat.log2 : Nat) : Int))

end Go.Proofs.Ytmhgipnmojcjaaa
