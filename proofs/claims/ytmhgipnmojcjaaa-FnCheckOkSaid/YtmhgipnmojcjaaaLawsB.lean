/- The walks of the exact laws on products, divisions, divisors, primes, registers, fields. -/
import Derived.Test.YtmhgipnmojcjaaaPoly6

namespace Go.Proofs.Ytmhgipnmojcjaaa
open Go.RowKit
set_option linter.unusedVariables false

theorem fieldOk_nat {a b p : Int} (h : FieldOk a b p) : ∃ x y q : Nat, a = x ∧ b = y ∧ p = q ∧ q ≤ 511 ∧ Bw.Prime q ∧ x < 2 ^ q.log2 ∧ y < 2 ^ q.log2 := by
  obtain ⟨⟨p0, p1, hp⟩, ⟨a0, a1⟩, b0, b1⟩ := h
  obtain ⟨q, rfl⟩ := Int.eq_ofNat_of_zero_le p0
  obtain ⟨x, rfl⟩ := Int.eq_ofNat_of_zero_le a0
  obtain ⟨y, rfl⟩ := Int.eq_ofNat_of_zero_le b0
  rw [Int.toNat_natCast] at hp a1 b1
  exact ⟨x, y, q, rfl, rfl, rfl, by omega, hp, by omega, by omega⟩

theorem inverseOk_nat {a p : Int} (h : InverseOk a p) : ∃ x q : Nat, a = x ∧ p = q ∧ q ≤ 511 ∧ Bw.Prime q ∧ 0 < x ∧ x < 2 ^ q.log2 := by
  obtain ⟨⟨p0, p1, hp⟩, a0, a1⟩ := h
  obtain ⟨q, rfl⟩ := Int.eq_ofNat_of_zero_le p0
  obtain ⟨x, rfl⟩ := Int.eq_ofNat_of_zero_le (show 0 ≤ a by omega)
  rw [Int.toNat_natCast] at hp a1
  exact ⟨x, q, rfl, rfl, by omega, hp, by omega, by omega⟩

end Go.Proofs.Ytmhgipnmojcjaaa
