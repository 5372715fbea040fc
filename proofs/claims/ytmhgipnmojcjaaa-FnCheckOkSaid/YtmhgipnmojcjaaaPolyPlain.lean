/- What the loops over polynomials hold, in plain arithmetic. -/
import Derived.Test.YtmhgipnmojcjaaaPlain
import Derived.Test.YtmhgipnmojcjaaaGf
import Derived.Lib.BitFns

namespace Bw
open Go Go.RowKit

/-- the degree, -1 for 0 -/
def dg (p : Nat) : Int := if p = 0 then -1 else (p.log2 : Int)

theorem dg_zero : dg 0 = -1 := rfl

theorem dg_pos {p : Nat} (h : p ≠ 0) : dg p = (p.log2 : Int) := if_neg h

theorem dg_lt {p n : Nat} (h : p < 2 ^ n) : dg p < (n : Int) := by
  unfold dg; split
  · omega
  · rename_i h0; have := (Nat.log2_lt h0).2 h; omega

theorem dg_ge (p : Nat) : -1 ≤ dg p := by unfold dg; split <;> omega

theorem dg_bd {p : Nat} (h : p < 4294967296) : -1 ≤ dg p ∧ dg p < 32 := ⟨dg_ge p, dg_lt (n := 32) (by omega)⟩

theorem dg_half {q : Nat} (h : q ≠ 0) : dg q = dg (q / 2) + 1 := by
  by_cases h1 : q / 2 = 0
  · have : q = 1 := by omega
    subst this; rfl
  · rw [dg_pos h, dg_pos h1]
    have hd := deg_log h1
    have : Deg q ((q / 2).log2 + 1) := by
      obtain ⟨h2, h3⟩ := hd
      unfold Deg
      simp only [Nat.pow_succ] at *
      omega
    rw [deg_log_eq this]; omega

theorem lt_of_dg {a b : Nat} (h : dg a < dg b) : a < 2 ^ b.log2 := by
  have hb : b ≠ 0 := by rintro rfl; have := dg_ge a; rw [dg_zero] at h; omega
  rw [dg_pos hb] at h
  by_cases ha : a = 0
  · subst ha; exact Nat.two_pow_pos _
  · rw [dg_pos ha] at h; exact (Nat.log2_lt ha).1 (by omega)

theorem dg_of_lt {a b : Nat} (hb : b ≠ 0) (h : a < 2 ^ b.log2) : dg a < dg b := by
  rw [dg_pos hb]; exact dg_lt h

theorem bitLenAux_eq : ∀ (f x : Nat), x < 2 ^ f → ((Lib.bitLenAux f x : Nat) : Int) = dg x + 1
  | 0, x, h => by
    have : x = 0 := by simp at h; exact h
    subst this; rfl
  | f + 1, x, h => by
    unfold Lib.bitLenAux
    split
    · rename_i h0; subst h0; rfl
    · rename_i h0
      have ih := bitLenAux_eq f (x / 2) (by rw [Nat.pow_succ] at h; omega)
      rw [Int.natCast_add, ih, dg_pos h0]
      by_cases h1 : x / 2 = 0
      · rw [h1, dg_zero]
        have : x = 1 := by omega
        subst this; rfl
      · rw [dg_pos h1]
        have hd := deg_log h1
        have : Deg x ((x / 2).log2 + 1) := by
          obtain ⟨h2, h3⟩ := hd
          unfold Deg
          simp only [Nat.pow_succ] at *
          omega
        rw [deg_log_eq this]; omega

theorem bitLen_eq {x : Nat} (h : x < 18446744073709551616) : ((Lib.bitLen x : Nat) : Int) = dg x + 1 := bitLenAux_eq 64 x (by omega)

/-- the product with the first k bits -/
def mulTo (a b k : Nat) : Int := ((mul a (b % 2 ^ k) : Nat) : Int)

theorem mulTo_zero (a b : Nat) : mulTo a b 0 = 0 := by simp [mulTo, Nat.mod_one, mul_zero]

theorem mod_succ_xor (b k : Nat) : b % 2 ^ (k + 1) = (b % 2 ^ k) ^^^ (b / 2 ^ k % 2 * 2 ^ k) := by
  have h := xor_and (b % 2 ^ k) (b / 2 ^ k % 2 * 2 ^ k)
  have h0 : b % 2 ^ k &&& (b / 2 ^ k % 2 * 2 ^ k) = 0 := by
    apply Nat.eq_of_testBit_eq
    intro i
    rw [Nat.testBit_and, Nat.testBit_mod_two_pow, Nat.zero_testBit, Nat.testBit_mul_two_pow]
    by_cases hi : i < k
    · simp [hi]; omega
    · simp [hi]
  rw [mod_two_pow_succ]; omega

theorem mul_lt (a b : Nat) {m n : Nat} (ha : a < 2 ^ m) (hb : b < 2 ^ n) : mul a b < 2 ^ (m + n) := by
  by_cases h0 : a = 0
  · subst h0; rw [zero_mul]; exact Nat.two_pow_pos _
  by_cases h1 : b = 0
  · subst h1; rw [mul_zero]; exact Nat.two_pow_pos _
  have := (deg_mul (deg_log h0) (deg_log h1)).2
  have k0 := (Nat.log2_lt h0).2 ha
  have k1 := (Nat.log2_lt h1).2 hb
  exact Nat.lt_of_lt_of_le this (Nat.pow_le_pow_right (by omega) (by omega))

theorem mul_bit (a b k : Nat) : mul a (b / 2 ^ k % 2 * 2 ^ k) = (b / 2 ^ k % 2) * a * 2 ^ k := by
  rcases Nat.mod_two_eq_zero_or_one (b / 2 ^ k) with h | h <;> rw [h]
  · simp [mul_zero]
  · rw [Nat.one_mul, Nat.one_mul, mul_two_pow]

theorem mulTo_nat (a b k : Nat) : mul a (b % 2 ^ (k + 1)) = mul a (b % 2 ^ k) ^^^ ((b / 2 ^ k % 2) * a * 2 ^ k) := by
  rw [mod_succ_xor, mul_xor, mul_bit]

/-- where the loop stops -/
theorem mulTo_end {a b k : Nat} (h : b / 2 ^ k = 0) : mulTo a b k = ((mul a b : Nat) : Int) := by
  unfold mulTo
  have h0 : b < 2 ^ k := by
    rcases Nat.div_eq_zero_iff.1 h with h | h
    · have := Nat.two_pow_pos k; omega
    · exact h
  rw [Nat.mod_eq_of_lt h0]

theorem lt_of_shr {b k n : Nat} (h : ¬ b / 2 ^ k = 0) (hb : b < 2 ^ n) : k < n := by
  apply Nat.lt_of_not_le; intro hk
  exact h (Nat.div_eq_of_lt (Nat.lt_of_lt_of_le hb (Nat.pow_le_pow_right (by omega) hk)))

theorem shr_cast (b k : Nat) : (b : Int) / 2 ^ k = ((b / 2 ^ k : Nat) : Int) := by simp

theorem mulTo_bd (a b k : Nat) (ha : a < 65536) (hk : k ≤ 16) : 0 ≤ mulTo a b k ∧ mulTo a b k < 4294967296 := by
  unfold mulTo
  have := mul_lt a (b % 2 ^ k) (m := 16) (n := k) (by omega) (Nat.mod_lt _ (Nat.two_pow_pos k))
  have h2 : 2 ^ (16 + k) ≤ 2 ^ 32 := Nat.pow_le_pow_right (by omega) (by omega)
  omega

/-- one round of impl.times -/
theorem mulTo_step (a b k : Nat) (ha : a < 65536) (hk : k < 16) :
    bits .xor .i64 (mulTo a b k) (wrap64 (wrap64 (bt b k * (a : Int)) * 2 ^ k)) = mulTo a b (k + 1) := by
  have hp : 2 ^ k ≤ 2 ^ 15 := Nat.pow_le_pow_right (by omega) (by omega)
  have h1 : (b / 2 ^ k % 2) * a ≤ 1 * a := Nat.mul_le_mul_right _ (by omega)
  have h2 : (b / 2 ^ k % 2) * a * 2 ^ k ≤ 65536 * 2 ^ 15 := Nat.mul_le_mul (by omega) hp
  have hb := mulTo_bd a b k ha (by omega)
  unfold bt
  rw [← Int.natCast_mul, w64n (by omega), two_pow_cast, ← Int.natCast_mul, w64n (by omega)]
  unfold mulTo at hb ⊢
  rw [i64_xor _ _ (by omega) (by omega), mulTo_nat]

theorem lt_pow_dg (a : Nat) : a < 2 ^ (dg a + 1).toNat := by
  by_cases h : a = 0
  · subst h; exact Nat.two_pow_pos _
  · rw [dg_pos h, show ((a.log2 : Int) + 1).toNat = a.log2 + 1 by omega]; exact Nat.lt_log2_self

theorem mul_small {a b : Nat} (h : dg a + dg b ≤ 15) : mul a b ≤ 65535 := by
  by_cases ha : a = 0
  · subst ha; rw [zero_mul]; omega
  by_cases hb : b = 0
  · subst hb; rw [mul_zero]; omega
  rw [dg_pos ha, dg_pos hb] at h
  have h1 := (deg_mul (deg_log ha) (deg_log hb)).2
  have := Nat.pow_le_pow_right (n := 2) (by omega) (show a.log2 + b.log2 + 1 ≤ 16 by omega)
  omega

theorem mul_big {a b : Nat} (ha : a ≤ 65535) (hb : b ≤ 65535) (h : 15 < dg a + dg b) : 65535 < mul a b ∧ 0 < a ∧ 0 < b := by
  have ka := dg_lt (p := a) (n := 16) (by omega)
  have kb := dg_lt (p := b) (n := 16) (by omega)
  have ha0 : a ≠ 0 := by rintro rfl; rw [dg_zero] at h; omega
  have hb0 : b ≠ 0 := by rintro rfl; rw [dg_zero] at h; omega
  rw [dg_pos ha0, dg_pos hb0] at h
  have h1 := (deg_mul (deg_log ha0) (deg_log hb0)).1
  have := Nat.pow_le_pow_right (n := 2) (by omega) (show 16 ≤ a.log2 + b.log2 by omega)
  omega

theorem mul_lt32 {a b : Nat} (ha : a ≤ 65535) (hb : b ≤ 65535) : mul a b < 4294967296 := by
  have := mul_lt a b (m := 16) (n := 16) (by omega) (by omega)
  omega

/-- the moduli: the polynomials of a degree from 1 to 8 -/
theorem modulus_log {p : Nat} (h0 : 2 ≤ p) (h1 : p ≤ 511) : 1 ≤ p.log2 ∧ p.log2 ≤ 8 := by
  refine ⟨log2_two h0, ?_⟩
  have := (Nat.log2_lt (n := p) (k := 9) (by omega)).2 (by omega)
  omega

theorem modulus_dg {p : Nat} (h0 : 2 ≤ p) (h1 : p ≤ 511) : dg p = (p.log2 : Int) ∧ 1 ≤ dg p ∧ dg p ≤ 8 := by
  have := modulus_log h0 h1
  have e := dg_pos (p := p) (by omega)
  omega

theorem not_modulus_dg {p : Nat} (h : p < 2 ∨ 511 < p) : dg p < 1 ∨ 8 < dg p := by
  rcases h with h | h
  · left
    have : p = 0 ∨ p = 1 := by omega
    rcases this with rfl | rfl <;> decide
  · right
    have e := dg_pos (p := p) (by omega)
    have := (Nat.le_log2 (n := p) (k := 9) (by omega)).2 (by omega)
    omega

theorem pow_log_le {p : Nat} (h : p ≠ 0) : 2 ^ p.log2 ≤ p := Nat.log2_self_le h

theorem modulus_pow {p : Nat} (h0 : 2 ≤ p) (h1 : p ≤ 511) : 2 ≤ 2 ^ p.log2 ∧ 2 ^ p.log2 ≤ 256 := by
  have h := modulus_log h0 h1
  have a := Nat.pow_le_pow_right (n := 2) (by omega) h.1
  have b := Nat.pow_le_pow_right (n := 2) (by omega) h.2
  omega

/-- the number of steps from the state s on, at most f, counted from n -/
def perF (p : Nat) : Nat → Nat → Int → Int
  | 0, _, _ => -1
  | f + 1, s, n => if pmod (2 * s) p = 1 then n else perF p f (pmod (2 * s) p) (n + 1)

def per (p : Nat) : Int := perF p (2 ^ p.log2) 1 1

theorem pmod_lt256 {p : Nat} (h0 : 2 ≤ p) (h1 : p ≤ 511) (a : Nat) : pmod a p < 2 ^ p.log2 ∧ pmod a p < 256 := by
  have h := pmod_lt a (b := p) (by omega)
  have := modulus_pow h0 h1
  omega

theorem pmod_le (a : Nat) {b : Nat} (hb : b ≠ 0) : pmod a b < b := Nat.lt_of_lt_of_le (pmod_lt a hb) (pow_log_le hb)

theorem perF_hit {p f s : Nat} {n : Int} (h : pmod (2 * s) p = 1) : perF p (f + 1) s n = n := by unfold perF; rw [if_pos h]

theorem perF_miss {p f s : Nat} {n : Int} (h : pmod (2 * s) p ≠ 1) : perF p (f + 1) s n = perF p f (pmod (2 * s) p) (n + 1) := by
  conv => lhs; unfold perF
  rw [if_neg h]

end Bw
