/- What the loops of the smallest functions hold, in plain arithmetic. -/
import Derived.Test.YtbknmokoegembacDoorBits
import Derived.IntWalk

namespace Bw
open Go Go.RowKit

theorem w64 {n : Int} (h : -9223372036854775808 ≤ n ∧ n ≤ 9223372036854775807) : wrap64 n = n := IntWalk.wrap64_in n h

theorem w64n {n : Nat} (h : n < 9223372036854775808) : wrap64 (n : Int) = n := w64 (by omega)

/-- a bit of a number that is not negative, as the walk writes it -/
theorem bit_cast (a k : Nat) : (((a : Int) / 2 ^ k).tmod 2) = ((a / 2 ^ k % 2 : Nat) : Int) := by
  have e : (a : Int) / 2 ^ k = ((a / 2 ^ k : Nat) : Int) := by simp
  rw [e, Int.tmod_eq_emod_of_nonneg (Int.natCast_nonneg _)]; simp

theorem pow30 {n : Nat} (h : n ≤ 30) : 2 ^ n ≤ 1073741824 := by
  have := Nat.pow_le_pow_right (n := 2) (by omega) h; omega

/-- a bit -/
def bt (a k : Nat) : Int := ((a / 2 ^ k % 2 : Nat) : Int)

theorem bt_cases (a k : Nat) : bt a k = 0 ∨ bt a k = 1 := by
  unfold bt; rcases Nat.mod_two_eq_zero_or_one (a / 2 ^ k) with h | h <;> rw [h] <;> simp

theorem bt_bd (a k : Nat) : 0 ≤ bt a k ∧ bt a k ≤ 1 := by rcases bt_cases a k with h | h <;> omega

theorem bt_bit (a k : Nat) : (((a : Int) / 2 ^ k).tmod 2) = bt a k := bit_cast a k

theorem bt_one (a k : Nat) : bt a k = 1 ↔ a / 2 ^ k % 2 = 1 := by unfold bt; omega

theorem bt_zero (a k : Nat) : bt a k = 0 ↔ a / 2 ^ k % 2 = 0 := by unfold bt; omega

theorem bt_test (a k : Nat) : bt a k = 1 ↔ a.testBit k = true := by
  rw [bt_one, Nat.testBit_eq_decide_div_mod_eq, decide_eq_true_eq]

theorem beq_dec (r s : Int) : (r == s) = decide (r = s) := by by_cases h : r = s <;> simp [h]

theorem two_pow_cast (k : Nat) : (2 : Int) ^ k = ((2 ^ k : Nat) : Int) := by simp

/-- the first k bits that both have -/
def andTo (a b k : Nat) : Int := (((a &&& b) % 2 ^ k : Nat) : Int)

theorem mod_two_pow_succ (x k : Nat) : x % 2 ^ (k + 1) = x % 2 ^ k + x / 2 ^ k % 2 * 2 ^ k := by
  rw [Nat.pow_succ, Nat.mod_mul, Nat.mul_comm (2 ^ k)]

theorem and_bit (a b k : Nat) : (a &&& b) / 2 ^ k % 2 = (a / 2 ^ k % 2) * (b / 2 ^ k % 2) := by
  have h := Nat.testBit_and a b k
  simp only [Nat.testBit_eq_decide_div_mod_eq] at h
  rcases Nat.mod_two_eq_zero_or_one (a / 2 ^ k) with ha | ha <;> rcases Nat.mod_two_eq_zero_or_one (b / 2 ^ k) with hb | hb <;>
    rcases Nat.mod_two_eq_zero_or_one ((a &&& b) / 2 ^ k) with hc | hc <;> simp_all

theorem andTo_zero (a b : Nat) : andTo a b 0 = 0 := by simp [andTo, Nat.mod_one]

theorem andTo_step (a b k : Nat) (hk : k < 30) :
    wrap64 (andTo a b k + wrap64 (wrap64 (((a : Int) / 2 ^ k).tmod 2 * ((b : Int) / 2 ^ k).tmod 2) * 2 ^ k)) = andTo a b (k + 1) := by
  rw [bit_cast, bit_cast, two_pow_cast, ← Int.natCast_mul]
  have hp : 2 ^ k ≤ 2 ^ 29 := Nat.pow_le_pow_right (by omega) (by omega)
  have hm : (a / 2 ^ k % 2) * (b / 2 ^ k % 2) ≤ 1 := by rw [← and_bit]; omega
  have hm2 : (a / 2 ^ k % 2) * (b / 2 ^ k % 2) * 2 ^ k ≤ 1 * 2 ^ k := Nat.mul_le_mul_right _ hm
  have hlt : (a &&& b) % 2 ^ k < 2 ^ k := Nat.mod_lt _ (Nat.two_pow_pos k)
  rw [w64 (n := (((a / 2 ^ k % 2) * (b / 2 ^ k % 2) : Nat) : Int)) (by omega), ← Int.natCast_mul]
  generalize hx : (a / 2 ^ k % 2) * (b / 2 ^ k % 2) * 2 ^ k = x at *
  rw [w64 (n := (x : Int)) (by omega)]
  unfold andTo
  rw [mod_two_pow_succ (a &&& b) k, and_bit, hx, Int.natCast_add, w64 (by omega)]

theorem andTo_end (a b : Nat) (ha : a < 1073741824) : andTo a b 30 = ((a &&& b : Nat) : Int) := by
  unfold andTo
  rw [Nat.mod_eq_of_lt (Nat.lt_of_le_of_lt Nat.and_le_left ha)]

theorem andTo_bd (a b k : Nat) (hk : k ≤ 30) : 0 ≤ andTo a b k ∧ andTo a b k < 1073741824 := by
  unfold andTo
  have hp : 2 ^ k ≤ 2 ^ 30 := Nat.pow_le_pow_right (by omega) hk
  have hlt : (a &&& b) % 2 ^ k < 2 ^ k := Nat.mod_lt _ (Nat.two_pow_pos k)
  omega

theorem xor_and (a b : Nat) : (a ^^^ b) + 2 * (a &&& b) = a + b := by
  induction a using Nat.strongRecOn generalizing b with
  | ind a ih =>
    by_cases h : a = 0
    · subst h; simp
    · have := ih (a / 2) (by omega) (b / 2)
      have h1 := Nat.xor_div_two_pow (a := a) (b := b) (n := 1)
      have h2 := Nat.and_div_two_pow (a := a) (b := b) (n := 1)
      have h3 := Nat.xor_mod_two_pow (a := a) (b := b) (n := 1)
      have h4 := Nat.and_mod_two_pow (a := a) (b := b) (n := 1)
      simp only [Nat.pow_one] at h1 h2 h3 h4
      rcases Nat.mod_two_eq_zero_or_one a with ha | ha <;> rcases Nat.mod_two_eq_zero_or_one b with hb | hb <;> (rw [ha, hb] at h3 h4; simp only [Nat.xor_self, Nat.zero_xor, Nat.xor_zero, Nat.and_self, Nat.zero_and, Nat.and_zero] at h3 h4; omega)

theorem or_and (a b : Nat) : (a ||| b) + (a &&& b) = a + b := by
  induction a using Nat.strongRecOn generalizing b with
  | ind a ih =>
    by_cases h : a = 0
    · subst h; simp
    · have := ih (a / 2) (by omega) (b / 2)
      have h1 := Nat.or_div_two_pow (a := a) (b := b) (n := 1)
      have h2 := Nat.and_div_two_pow (a := a) (b := b) (n := 1)
      have h3 := Nat.or_mod_two_pow (a := a) (b := b) (n := 1)
      have h4 := Nat.and_mod_two_pow (a := a) (b := b) (n := 1)
      simp only [Nat.pow_one] at h1 h2 h3 h4
      rcases Nat.mod_two_eq_zero_or_one a with ha | ha <;> rcases Nat.mod_two_eq_zero_or_one b with hb | hb <;> (rw [ha, hb] at h3 h4; simp only [Nat.or_self, Nat.zero_or, Nat.or_zero, Nat.and_self, Nat.zero_and, Nat.and_zero] at h3 h4; omega)

end Bw
