/- Rests of messages, in plain arithmetic. -/
import Derived.Test.YtmhgipnmojcjaaaSlicePlain
import Derived.Test.YtmhgipnmojcjaaaDivPlain

namespace Bw
open Go Go.RowKit

/-- a message has bits alone -/
def AllBits (zs : List Int) : Prop := ∀ i, i < zs.length → nth zs i = 0 ∨ nth zs i = 1

/-- the polynomial of the first k bits -/
def val (zs : List Int) : Nat → Nat
  | 0 => 0
  | k + 1 => 2 * val zs k + (nth zs k).toNat

theorem val_lt {zs : List Int} (h : AllBits zs) : ∀ k, k ≤ zs.length → val zs k < 2 ^ k
  | 0, _ => by simp [val]
  | k + 1, hk => by
    have := val_lt h k (by omega)
    have hb := h k (by omega)
    unfold val
    rw [Nat.pow_succ]
    rcases hb with hb | hb <;> rw [hb] <;> simp <;> omega

theorem val_lt_pow {zs : List Int} {k : Nat} (h : ∀ i, i < k → nth zs i = 0 ∨ nth zs i = 1) : val zs k < 2 ^ k := by
  induction k with
  | zero => simp [val]
  | succ k ih =>
    have := ih (fun i hi => h i (by omega))
    have hb := h k (by omega)
    unfold val
    rw [Nat.pow_succ]
    rcases hb with hb | hb <;> rw [hb] <;> simp <;> omega

theorem pow_add_xor {y d : Nat} (h : y < 2 ^ d) : 2 ^ d + y = 2 ^ d ^^^ y := by
  have ht : y.testBit d = false := Nat.testBit_lt_two_pow h
  have h1 := or_pow ht
  have h2 := xor_and y (2 ^ d)
  have h3 := or_and y (2 ^ d)
  rw [Nat.xor_comm]; omega

theorem deg_split {x d : Nat} (h : Deg x d) : x = 2 ^ d ^^^ (x - 2 ^ d) := by
  have h1 := h.1
  have h2 := h.2
  rw [Nat.pow_succ] at h2
  rw [← pow_add_xor (by omega)]; omega

/-- what the power of the degree leaves -/
theorem pmod_top {p : Nat} (h0 : p ≠ 0) : pmod (2 ^ p.log2) p = p - 2 ^ p.log2 := by
  have hd := deg_log h0
  have hs := deg_split hd
  have hl : p - 2 ^ p.log2 < 2 ^ p.log2 := by have := hd.2; rw [Nat.pow_succ] at this; have := hd.1; omega
  refine (pmod_of (q := 1) h0 hl ?_).1
  rw [mul_one]
  generalize hg : p - 2 ^ p.log2 = g at *
  conv => rhs; lhs; rw [hs]
  rw [Nat.xor_assoc, Nat.xor_self, Nat.xor_zero]

/-- one step of the register -/
theorem pmod_two {p r : Nat} (h2 : 2 ≤ p) (hr : r < 2 ^ p.log2) :
    pmod (2 * r) p = (2 * r - r / 2 ^ (p.log2 - 1) % 2 * 2 ^ p.log2) ^^^ (if r / 2 ^ (p.log2 - 1) % 2 = 1 then p - 2 ^ p.log2 else 0) := by
  have p0 : p ≠ 0 := by omega
  have hd1 : 1 ≤ p.log2 := log2_two h2
  have hpp : 2 ^ p.log2 = 2 * 2 ^ (p.log2 - 1) := by
    conv => lhs; rw [show p.log2 = (p.log2 - 1) + 1 by omega, Nat.pow_succ, Nat.mul_comm]
  have hq : r / 2 ^ (p.log2 - 1) < 2 := by rw [Nat.div_lt_iff_lt_mul (Nat.two_pow_pos _)]; omega
  rcases (show r / 2 ^ (p.log2 - 1) = 0 ∨ r / 2 ^ (p.log2 - 1) = 1 by generalize r / 2 ^ (p.log2 - 1) = q at *; omega) with h | h
  · rw [h]
    have hlt : r < 2 ^ (p.log2 - 1) := by
      rcases Nat.div_eq_zero_iff.1 h with h' | h'
      · have := Nat.two_pow_pos (p.log2 - 1); omega
      · exact h'
    simp
    exact pmod_small p0 (by omega)
  · rw [h]
    have hge : 2 ^ (p.log2 - 1) ≤ r := by
      have := Nat.div_mul_le_self r (2 ^ (p.log2 - 1))
      rw [h] at this; omega
    have hD : Deg (2 * r) p.log2 := by
      unfold Deg; rw [Nat.pow_succ]; omega
    have hs := deg_split hD
    have hs2 := deg_split (deg_log p0)
    have hx := xor_top hD (deg_log p0)
    have e : 2 * r ^^^ p = (2 * r - 2 ^ p.log2) ^^^ (p - 2 ^ p.log2) := by
      generalize 2 * r - 2 ^ p.log2 = a at hs ⊢
      generalize p - 2 ^ p.log2 = b at hs2 ⊢
      generalize 2 ^ p.log2 = T at hs hs2
      conv => lhs; rw [hs, hs2]
      rw [Nat.xor_comm T a, Nat.xor_assoc, ← Nat.xor_assoc T, Nat.xor_self, Nat.zero_xor]
    simp
    rw [← e]
    exact (pmod_of (q := 1) p0 hx (by rw [mul_one, Nat.xor_comm (2 * r), ← Nat.xor_assoc, Nat.xor_self, Nat.zero_xor])).1

theorem bit_add_xor {v m : Nat} (hm : m ≤ 1) : 2 * v + m = 2 * v ^^^ m := by
  have h := split_two (2 * v + m)
  have e1 : (2 * v + m) / 2 = v := by omega
  have e2 : (2 * v + m) % 2 = m := by omega
  rw [e1, e2] at h
  exact h

/-- the rest of a message that is longer by one bit -/
theorem rest_step {p v m : Nat} (h2 : 2 ≤ p) (hm : m ≤ 1) :
    pmod ((2 * v + m) * 2 ^ p.log2) p = pmod (2 * pmod (v * 2 ^ p.log2) p) p ^^^ (if m = 1 then p - 2 ^ p.log2 else 0) := by
  have p0 : p ≠ 0 := by omega
  have e : (2 * v + m) * 2 ^ p.log2 = 2 * (v * 2 ^ p.log2) ^^^ m * 2 ^ p.log2 := by
    rw [bit_add_xor hm, ← mul_two_pow, xor_mul, two_mul_mul, mul_two_pow, mul_two_pow]
  have e2 : pmod (2 * (v * 2 ^ p.log2)) p = pmod (2 * pmod (v * 2 ^ p.log2) p) p := by
    have h := pmod_mul_left (v * 2 ^ p.log2) 2 p0
    have k : ∀ x, mul x 2 = 2 * x := fun x => by rw [show (2 : Nat) = 2 * 1 from rfl, mul_two_mul, mul_one]
    rw [k, k] at h
    exact h.symm
  rw [e, pmod_xor _ _ p0, e2]
  congr 1
  rcases (show m = 0 ∨ m = 1 by omega) with rfl | rfl
  · rw [Nat.zero_mul]; exact pmod_small p0 (Nat.two_pow_pos _)
  · rw [Nat.one_mul, pmod_top p0]; rfl

/-- the round of the reference -/
def regStep (p r m : Nat) : Nat :=
  (2 * r - r / 2 ^ (p.log2 - 1) % 2 * 2 ^ p.log2) ^^^ (if r / 2 ^ (p.log2 - 1) % 2 = m then 0 else p - 2 ^ p.log2)

theorem reg_step {p v m : Nat} (h2 : 2 ≤ p) (hm : m ≤ 1) : pmod ((2 * v + m) * 2 ^ p.log2) p = regStep p (pmod (v * 2 ^ p.log2) p) m := by
  have hr := pmod_lt (v * 2 ^ p.log2) (b := p) (by omega)
  rw [rest_step h2 hm, pmod_two h2 hr]
  unfold regStep
  rw [Nat.xor_assoc]
  congr 1
  rcases Nat.mod_two_eq_zero_or_one (pmod (v * 2 ^ p.log2) p / 2 ^ (p.log2 - 1)) with h | h <;> rw [h] <;> rcases (show m = 0 ∨ m = 1 by omega) with rfl | rfl <;> simp
/-- what a check comes to: the rest, where the message and the modulus fit, and otherwise -1 -/
def CheckFits (zs : List Int) (p : Int) : Prop := (2 ≤ p ∧ p ≤ 511) ∧ zs.length ≤ 16 ∧ AllBits zs

def CheckIs (zs : List Int) (p : Int) (r : Int) : Prop :=
  (CheckFits zs p → r = ((pmod (val zs zs.length * 2 ^ p.toNat.log2) p.toNat : Nat) : Int)) ∧ (¬ CheckFits zs p → r = -1)

theorem checkIs_some (zs : List Int) (p : Int) : ∃ r, CheckIs zs p r := by
  by_cases h : CheckFits zs p
  · exact ⟨_, fun _ => rfl, fun h2 => absurd h h2⟩
  · exact ⟨-1, fun h2 => absurd h2 h, fun _ => rfl⟩

theorem reg00 {p R q : Nat} (_hq : 2 ^ p.log2 = q) (h : R / 2 ^ (p.log2 - 1) % 2 = 0) : regStep p R 0 = 2 * R := by unfold regStep; rw [h]; simp

theorem reg01 {p R q : Nat} (hq : 2 ^ p.log2 = q) (h : R / 2 ^ (p.log2 - 1) % 2 = 0) : regStep p R 1 = 2 * R ^^^ (p - q) := by unfold regStep; rw [h, hq]; simp

theorem reg10 {p R q : Nat} (hq : 2 ^ p.log2 = q) (h : R / 2 ^ (p.log2 - 1) % 2 = 1) : regStep p R 0 = (2 * R - q) ^^^ (p - q) := by unfold regStep; rw [h, hq]; simp

theorem reg11 {p R q : Nat} (hq : 2 ^ p.log2 = q) (h : R / 2 ^ (p.log2 - 1) % 2 = 1) : regStep p R 1 = 2 * R - q := by unfold regStep; rw [h, hq]; simp

theorem bit_top_ge {p R q : Nat} (h2 : 2 ≤ p) (hq : 2 ^ p.log2 = q) (h : R / 2 ^ (p.log2 - 1) % 2 = 1) : q ≤ 2 * R := by
  have hd1 : 1 ≤ p.log2 := log2_two h2
  have hpp : 2 ^ p.log2 = 2 * 2 ^ (p.log2 - 1) := by
    conv => lhs; rw [show p.log2 = (p.log2 - 1) + 1 by omega, Nat.pow_succ, Nat.mul_comm]
  have := Nat.div_mul_le_self R (2 ^ (p.log2 - 1))
  have h1 : 1 ≤ R / 2 ^ (p.log2 - 1) := by generalize R / 2 ^ (p.log2 - 1) = x at *; omega
  have := Nat.mul_le_mul_right (2 ^ (p.log2 - 1)) h1
  omega

end Bw
