/- Plain arithmetic for the laws on polynomials. -/
import Derived.Test.YtdnjmnlieilpiadPolyPlain
import Derived.Test.YtdnjmnlieilpiadField

namespace Bw
open Go Go.RowKit

/-- each power twice as great -/
def tw (b : Nat) : Nat → Nat
  | 0 => 0
  | k + 1 => tw b k + b / 2 ^ k % 2 * 2 ^ (2 * k)

theorem tw_lt (b : Nat) : ∀ k, tw b k < 2 ^ (2 * k)
  | 0 => by simp [tw]
  | k + 1 => by
    have h := tw_lt b k
    have h1 : b / 2 ^ k % 2 * 2 ^ (2 * k) ≤ 1 * 2 ^ (2 * k) := Nat.mul_le_mul_right _ (by omega)
    have e : 2 ^ (2 * (k + 1)) = 4 * 2 ^ (2 * k) := by rw [show 2 * (k + 1) = 2 * k + 2 by omega, Nat.pow_add, Nat.mul_comm]
    unfold tw
    omega

theorem tw_square_all : ((List.range 256).all fun b => tw b 8 == mulF 9 b b) = true := by decide +kernel

theorem tw_square {b : Nat} (h : b < 256) : mul b b = tw b 8 := by
  have := List.all_eq_true.1 tw_square_all b (List.mem_range.2 h)
  rw [eq_of_beq this, mulF_mul 9 b b (by omega)]

theorem tw_slot {b k : Nat} (hk : k < 8) : wrap64 ((tw b k : Int) + wrap64 (((b : Int) / 2 ^ k).tmod 2 * 2 ^ (2 * k))) = ((tw b (k + 1) : Nat) : Int) := by
  have h := tw_lt b k
  have h1 : b / 2 ^ k % 2 * 2 ^ (2 * k) ≤ 1 * 2 ^ (2 * k) := Nat.mul_le_mul_right _ (by omega)
  have h2 := Nat.pow_le_pow_right (n := 2) (by omega) (show 2 * k ≤ 14 by omega)
  rw [bit_cast, two_pow_cast, ← Int.natCast_mul]
  generalize hx : b / 2 ^ k % 2 * 2 ^ (2 * k) = x at *
  rw [w64n (n := x) (by omega), ← Int.natCast_add, w64n (by omega), tw, hx]

theorem deg_of_mul {a b : Nat} (ha : a ≠ 0) (hb : b ≠ 0) : dg (mul a b) = dg a + dg b := by
  have h := deg_mul (deg_log ha) (deg_log hb)
  rw [dg_pos (deg_pos h), deg_log_eq h, dg_pos ha, dg_pos hb]; omega

theorem times_small {a b : Nat} (ha : a ≤ 65535) (hb : b ≤ 65535) : mul a b ≤ 65535 ↔ dg a + dg b ≤ 15 := by
  constructor
  · intro h
    apply Int.not_lt.1
    intro h2
    have := (mul_big ha hb h2).1
    omega
  · exact mul_small

theorem shl_two {D Q : Nat} (hQ : 2 ^ D = Q) (h : Q ≤ 32768) : wrap64 (2 * 2 ^ D) = 2 * (Q : Int) := by
  have e : (2 : Int) * 2 ^ D = ((2 * Q : Nat) : Int) := by rw [two_pow_cast, hQ]; omega
  rw [e, w64n (by omega)]; omega

end Bw
