/- Contracts: sums and negations of words; the fixed answer. -/
import Derived.Test.YtknchojfhpchiaaWord

namespace Go.Proofs.Ytknchojfhpchiaa
open Go.RowKit
set_option linter.unusedVariables false

theorem two_cells (w : World) (x y : Value) (t : TypeId) : (w.alloc (.cells #[x, y] t)).cell? ⟨w.heap.size, 0, none⟩ = some x ∧ (w.alloc (.cells #[x, y] t)).cell? ⟨w.heap.size, 1, none⟩ = some y := by
  constructor <;> simp

theorem word_bd {n x : Int} (h : WordOk n x) : 0 ≤ x ∧ x < 4096 := by
  obtain ⟨⟨h0, h1⟩, h2, h3⟩ := h
  have : 2 ^ n.toNat ≤ 2 ^ 12 := Nat.pow_le_pow_right (by omega) (by omega)
  omega

theorem pow_bd {n : Nat} (h : n ≤ 12) : 1 ≤ 2 ^ n ∧ 2 ^ n ≤ 4096 := by
  have : 2 ^ n ≤ 2 ^ 12 := Nat.pow_le_pow_right (by omega) h
  have := Nat.two_pow_pos n
  omega

theorem emod_cast (x : Int) (n : Nat) : x % (2 : Int) ^ n = x % ((2 ^ n : Nat) : Int) := by rw [Bw.two_pow_cast]

end Go.Proofs.Ytknchojfhpchiaa
