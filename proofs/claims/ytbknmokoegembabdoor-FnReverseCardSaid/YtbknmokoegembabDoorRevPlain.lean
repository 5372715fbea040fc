/- Words in the other order, their zeros at both ends: plain arithmetic. -/
import Derived.Test.YtbknmokoegembabDoorGatPlain2
import Derived.Laws.MathBits
import Derived.Lib.Tables

namespace Bw
open Go Go.RowKit
set_option linter.unusedVariables false

theorem rv_bit (x : Nat) : ∀ k i, (rv x k).testBit i = (decide (i < k) && x.testBit (k - 1 - i))
  | 0, i => by simp [rv]
  | k + 1, i => by
    have e : rv x (k + 1) = 2 * rv x k + (x.testBit k).toNat := by rw [← bit_toNat]; rfl
    rw [e]
    rcases i with _ | i
    · have e2 : (2 * rv x k + (x.testBit k).toNat) % 2 = (x.testBit k).toNat := by have := toNat_le (x.testBit k); omega
      rw [Nat.testBit_zero, e2, show k + 1 - 1 - 0 = k by omega]
      cases x.testBit k <;> simp
    · have h2 : (2 * rv x k + (x.testBit k).toNat) / 2 = rv x k := by have := toNat_le (x.testBit k); omega
      rw [Nat.testBit_succ, h2, rv_bit x k i]
      by_cases hi : i < k
      · simp [hi, show k - (i + 1) = k - 1 - i by omega]
      · simp [hi]

theorem rv_rv {x n : Nat} (hx : x < 2 ^ n) : rv (rv x n) n = x := by
  refine ext_lt (rv_lt _ _) hx fun i hi => ?_
  rw [rv_bit, rv_bit, show n - 1 - (n - 1 - i) = i by omega, show decide (i < n) = true by simp [hi], show decide (n - 1 - i < n) = true by simp; omega]
  rfl

theorem len8_bits : ∀ n : Fin 256, Lib.len8 (n.val : Int) = ((bitLen n.val : Nat) : Int) := by decide +kernel

theorem len8_is {a : Nat} (h : a < 256) : Lib.len8 (a : Int) = ((bitLen a : Nat) : Int) := len8_bits ⟨a, h⟩

theorem bitLen_le {a k : Nat} (h : a < 2 ^ k) : bitLen a ≤ k := by
  obtain ⟨h1, h2⟩ := bitLen_spec a
  by_cases h0 : a = 0
  · subst h0; simp [bitLen]
  · have h3 := h2 h0
    rcases Nat.lt_or_ge k (bitLen a) with h4 | h4
    · have := Nat.pow_le_pow_right (n := 2) (by omega) (show k ≤ bitLen a - 1 by omega)
      omega
    · exact h4

theorem bitLen_is {a k : Nat} (h1 : a < 2 ^ (k + 1)) (h2 : 2 ^ k ≤ a) : bitLen a = k + 1 := by
  have hle := bitLen_le h1
  have hs := (bitLen_spec a).1
  rcases Nat.lt_or_ge k (bitLen a) with h | h
  · omega
  · have := Nat.pow_le_pow_right (n := 2) (by omega) h
    omega

theorem bitLen_up {x : Nat} (h : 256 ≤ x) : 8 + bitLen (x / 256) = bitLen x := by
  have := bitLen_shift x 8 (by show ¬ x / 2 ^ 8 = 0; have : (2 : Nat) ^ 8 = 256 := rfl; omega)
  exact this.symm

/-- zeros above are zeros below, turned round -/
theorem zeros_turn {x n : Nat} (hx : x < 2 ^ n) (hn : n ≤ 12) : n - bitLen (rv x n) = min n (Lib.ctz 64 x) := by
  by_cases h0 : x = 0
  · subst h0
    have e : rv 0 n = 0 := by
      apply Nat.eq_of_testBit_eq
      intro i
      rw [rv_bit]; simp
    rw [e]
    simp [bitLen, Lib.ctz]
    omega
  · have hx4 : x < 4096 := Nat.lt_of_lt_of_le hx (by have := Nat.pow_le_pow_right (n := 2) (by omega) hn; omega)
    obtain ⟨m, hm, _⟩ := Lib.ctzFrom_spec 64 x (by omega) (by omega)
    have hct : Lib.ctz 64 x = Lib.ctzFrom 64 x := by unfold Lib.ctz; rw [if_neg h0]
    rw [hct]
    obtain ⟨q, hq⟩ : ∃ q, Lib.ctzFrom 64 x = q := ⟨_, rfl⟩
    rw [hq] at hm ⊢
    have l1 : 2 ^ q < 2 ^ (q + 1) := by rw [Nat.pow_succ]; have := Nat.two_pow_pos q; omega
    have e1 : x = 2 ^ (q + 1) * m + 2 ^ q := by rw [hm, Nat.pow_succ, Nat.mul_add, Nat.mul_one, Nat.mul_assoc]
    have hbit : ∀ i, x.testBit i = if i < q + 1 then decide (q = i) else m.testBit (i - (q + 1)) := fun i => by
      rw [e1, Nat.testBit_two_pow_mul_add _ l1, Nat.testBit_two_pow]
    have hbq : x.testBit q = true := by rw [hbit]; simp
    have hqn : q < n := by
      rcases Nat.lt_or_ge q n with h | h
      · exact h
      · rw [testBit_of_lt hx h] at hbq; cases hbq
    obtain ⟨k, hk⟩ : ∃ k, n = k + q + 1 := ⟨n - q - 1, by omega⟩
    have b1 : rv x n < 2 ^ (k + 1) := lt_of_bits fun i hi => by
      rw [rv_bit, hbit]
      by_cases hin : i < n
      · rw [if_pos (by omega)]; simp [show q ≠ n - 1 - i by omega]
      · simp [hin]
    have b2 : 2 ^ k ≤ rv x n := by
      have : (rv x n).testBit k = true := by
        rw [rv_bit, show n - 1 - k = q by omega, hbq]; simp; omega
      exact Nat.ge_two_pow_of_testBit this
    rw [bitLen_is b1 b2]
    omega

end Bw
