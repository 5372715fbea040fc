/- Words' bits: turned round, counted, put side by side: plain arithmetic. -/
import Derived.Test.YtbknmokoegembacDoorPlain

namespace Bw
open Go Go.RowKit

/-- the first k bits of a word, in the other order -/
def rv (x : Nat) : Nat → Nat
  | 0 => 0
  | k + 1 => 2 * rv x k + x / 2 ^ k % 2

theorem rv_lt (x : Nat) : ∀ k, rv x k < 2 ^ k
  | 0 => by simp [rv]
  | k + 1 => by
    have h := rv_lt x k
    have hb := Nat.mod_lt (x / 2 ^ k) (show 2 > 0 by omega)
    unfold rv
    rw [Nat.pow_succ]
    generalize x / 2 ^ k % 2 = b at *
    omega

theorem rv_more {x n : Nat} (h : x < 2 ^ n) : ∀ m, rv x (n + m) = rv x n * 2 ^ m
  | 0 => by simp
  | m + 1 => by
    have h0 : x / 2 ^ (n + m) = 0 := Nat.div_eq_of_lt (Nat.lt_of_lt_of_le h (Nat.pow_le_pow_right (by omega) (by omega)))
    show 2 * rv x (n + m) + x / 2 ^ (n + m) % 2 = _
    rw [rv_more h m, h0, Nat.pow_succ]
    generalize rv x n = r
    rw [Nat.mul_comm (2 ^ m) 2, Nat.mul_left_comm]; rfl

theorem rv_top {x n : Nat} (h : x < 2 ^ n) (hn : n ≤ 16) : rv x 16 / 2 ^ (16 - n) % 2 ^ n = rv x n := by
  have e : rv x 16 = rv x n * 2 ^ (16 - n) := by rw [← rv_more h (16 - n)]; congr 1; omega
  rw [e, Nat.mul_div_cancel _ (Nat.two_pow_pos _), Nat.mod_eq_of_lt (rv_lt x n)]

/-- half of a sum -/
theorem mean_down (a b : Nat) : (a + b) / 2 = (a &&& b) + (a ^^^ b) / 2 := by
  have := xor_and a b; omega

theorem mean_up (a b : Nat) : (a + b + 1) / 2 = (a ||| b) - (a ^^^ b) / 2 := by
  have := xor_and a b; have := or_and a b; omega

/-- a bit that is not there yet -/
theorem or_bit {a i : Nat} (h : a.testBit i = false) : a ||| 2 ^ i = a + 2 ^ i := by
  have h1 := or_and a (2 ^ i)
  have h2 : a &&& 2 ^ i = 0 := by
    apply Nat.eq_of_testBit_eq
    intro j
    rw [Nat.testBit_and, Nat.testBit_two_pow, Nat.zero_testBit]
    by_cases e : i = j
    · subst e; simp [h]
    · simp [e]
  omega

theorem or_bit_mul {a i b : Nat} (hb : b ≤ 1) (h : a.testBit i = false) : a ||| b * 2 ^ i = a + b * 2 ^ i := by
  rcases (show b = 0 ∨ b = 1 by omega) with rfl | rfl
  · simp
  · rw [Nat.one_mul]; exact or_bit h

theorem testBit_of_lt {a k j : Nat} (h : a < 2 ^ k) (hj : k ≤ j) : a.testBit j = false := Nat.testBit_lt_two_pow (Nat.lt_of_lt_of_le h (Nat.pow_le_pow_right (by omega) hj))

/-- highest bits of the first j lanes -/
def tops (l : Nat) : Nat → Nat
  | 0 => 0
  | j + 1 => tops l j + 2 ^ (l - 1 + j * l)

theorem tops_lt {l : Nat} (hl : 1 ≤ l) : ∀ j, tops l j < 2 ^ (j * l)
  | 0 => by simp [tops]
  | j + 1 => by
    have h := tops_lt hl j
    unfold tops
    have e : 2 ^ ((j + 1) * l) = 2 * 2 ^ (l - 1 + j * l) := by rw [← Nat.pow_succ']; congr 1; rw [Nat.add_mul]; omega
    have h2 : 2 ^ (j * l) ≤ 2 ^ (l - 1 + j * l) := Nat.pow_le_pow_right (by omega) (by omega)
    omega

theorem tops_or {l : Nat} (hl : 1 ≤ l) (j : Nat) : tops l j ||| 2 ^ (l - 1 + j * l) = tops l (j + 1) :=
  or_bit (testBit_of_lt (tops_lt hl j) (by omega))

end Bw
