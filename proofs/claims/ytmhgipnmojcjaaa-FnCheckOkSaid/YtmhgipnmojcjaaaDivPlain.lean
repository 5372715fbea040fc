/- What the loops of the divisions hold, in plain arithmetic. -/
import Derived.Test.YtmhgipnmojcjaaaPolyPlain

namespace Bw
open Go Go.RowKit

/-- the first loop's state of impl.divide: 'a' is the product of b and Q, and A; all powers of Q are above those that are to come -/
def DivR (a b A Q : Nat) : Prop := a = mul b Q ^^^ A ∧ (∀ i : Nat, (i : Int) + dg b ≤ dg A → Q.testBit i = false) ∧ Q < 4294967296

theorem divR_start (a b : Nat) : DivR a b a 0 := ⟨by simp [mul_zero], fun i _ => by simp, by omega⟩

theorem divR_end {a b A Q : Nat} (hb : b ≠ 0) (h : DivR a b A Q) (hl : dg A < dg b) : pmod a b = A ∧ pdiv a b = Q :=
  pmod_of hb (lt_of_dg hl) h.1

theorem divR_num {b A : Nat} (hb : b ≠ 0) (hA : A < 4294967296) (hl : dg b ≤ dg A) :
    A ≠ 0 ∧ A.log2 = b.log2 + (dg A - dg b).toNat ∧ (dg A - dg b).toNat ≤ 31 ∧ b * 2 ^ (dg A - dg b).toNat < 4294967296 := by
  have hb2 := dg_pos hb
  have hA0 : A ≠ 0 := by rintro rfl; rw [dg_zero, hb2] at hl; omega
  have hA2 := dg_pos hA0
  have hlog : A.log2 < 32 := (Nat.log2_lt hA0).2 (by omega)
  have e : A.log2 = b.log2 + (dg A - dg b).toNat := by omega
  refine ⟨hA0, e, by omega, ?_⟩
  have hd : Deg (b * 2 ^ (dg A - dg b).toNat) (b.log2 + (dg A - dg b).toNat) := by
    rw [← mul_two_pow]; exact deg_mul (deg_log hb) ⟨Nat.le_refl _, Nat.pow_lt_pow_right (by omega) (by omega)⟩
  have h2 := hd.2
  rw [← e] at h2
  exact Nat.lt_of_lt_of_le h2 (by have := Nat.pow_le_pow_right (n := 2) (by omega) (show A.log2 + 1 ≤ 32 by omega); omega)

theorem or_pow {Q n : Nat} (h : Q.testBit n = false) : Q ||| 2 ^ n = Q ^^^ 2 ^ n := by
  have h0 : Q &&& 2 ^ n = 0 := by
    apply Nat.eq_of_testBit_eq
    intro i
    rw [Nat.testBit_and, Nat.testBit_two_pow, Nat.zero_testBit]
    by_cases hi : n = i
    · subst hi; rw [h]; rfl
    · simp [hi]
  have h1 := xor_and Q (2 ^ n)
  have h2 := or_and Q (2 ^ n)
  omega

theorem divR_step {a b A Q : Nat} (hb : b ≠ 0) (hA : A < 4294967296) (h : DivR a b A Q) (hl : dg b ≤ dg A) :
    DivR a b (A ^^^ b * 2 ^ (dg A - dg b).toNat) (Q ||| 2 ^ (dg A - dg b).toNat) ∧ A ^^^ b * 2 ^ (dg A - dg b).toNat < A := by
  obtain ⟨hA0, e, hn, hlt⟩ := divR_num hb hA hl
  have hb2 := dg_pos hb
  have hA2 := dg_pos hA0
  obtain ⟨h1, h2, h3⟩ := h
  generalize hN : (dg A - dg b).toNat = n at *
  have hd : Deg (b * 2 ^ n) A.log2 := by
    rw [e, ← mul_two_pow]; exact deg_mul (deg_log hb) ⟨Nat.le_refl _, Nat.pow_lt_pow_right (by omega) (by omega)⟩
  have hx := xor_top (deg_log hA0) hd
  have hq := h2 n (by omega)
  have hp : 2 ^ n ≤ 2 ^ 31 := Nat.pow_le_pow_right (by omega) hn
  refine ⟨⟨?_, fun i hi => ?_, Nat.or_lt_two_pow (n := 32) (by omega) (by omega)⟩, Nat.lt_of_lt_of_le hx (Nat.log2_self_le hA0)⟩
  · rw [or_pow hq, mul_xor, mul_two_pow, h1, Nat.xor_assoc, Nat.xor_comm A, ← Nat.xor_assoc (b * 2 ^ n), Nat.xor_self, Nat.zero_xor]
  · have hl2 := dg_lt hx
    rw [Nat.testBit_or, h2 i (by omega), Nat.testBit_two_pow_of_ne (by omega)]; rfl

/-- the state of spec.l7Divide with j powers to come -/
def SubR (a b A Q j : Nat) : Prop := a = mul b Q ^^^ A ∧ A < 2 ^ (j + b.log2) ∧ A < 268435456 ∧ Q % 2 ^ j = 0 ∧ Q < 268435456

theorem subR_start {a b : Nat} (h : a < 268435456) : SubR a b a 0 28 :=
  ⟨by simp [mul_zero], Nat.lt_of_lt_of_le h (by have := Nat.pow_le_pow_right (n := 2) (by omega) (show 28 ≤ 28 + b.log2 by omega); omega), h, by simp, by omega⟩

theorem subR_end {a b A Q : Nat} (hb : b ≠ 0) (h : SubR a b A Q 0) : pmod a b = A ∧ pdiv a b = Q :=
  pmod_of hb (by have := h.2.1; rwa [Nat.zero_add] at this) h.1

theorem subR_skip {a b A Q k : Nat} (h : SubR a b A Q (k + 1)) (hk : A / 2 ^ (k + b.log2) ≠ 1) : SubR a b A Q k := by
  obtain ⟨h1, h2, h3, h4, h5⟩ := h
  refine ⟨h1, ?_, h3, ?_, h5⟩
  · have hp := Nat.two_pow_pos (k + b.log2)
    have e : 2 ^ (k + 1 + b.log2) = 2 * 2 ^ (k + b.log2) := by rw [show k + 1 + b.log2 = (k + b.log2) + 1 by omega, Nat.pow_succ, Nat.mul_comm]
    rw [e] at h2
    have hd : A / 2 ^ (k + b.log2) < 2 := by rw [Nat.div_lt_iff_lt_mul hp]; omega
    have h0 : A / 2 ^ (k + b.log2) = 0 := by generalize A / 2 ^ (k + b.log2) = q at hd hk; omega
    rcases Nat.div_eq_zero_iff.1 h0 with h | h <;> omega
  · have hdv : 2 ^ k ∣ 2 ^ (k + 1) := Nat.pow_dvd_pow 2 (by omega)
    exact Nat.mod_eq_zero_of_dvd (Nat.dvd_trans hdv (Nat.dvd_of_mod_eq_zero h4))

theorem subR_num {a b A Q k : Nat} (hb : b ≠ 0) (h : SubR a b A Q (k + 1)) (hk : A / 2 ^ (k + b.log2) = 1) : Deg A (k + b.log2) ∧ k + b.log2 < 28 ∧ Deg (b * 2 ^ k) (k + b.log2) ∧ b * 2 ^ k < 1073741824 := by
  obtain ⟨h1, h2, h3, h4, h5⟩ := h
  have hp := Nat.two_pow_pos (k + b.log2)
  have e : 2 ^ (k + 1 + b.log2) = 2 ^ (k + b.log2 + 1) := by rw [show k + 1 + b.log2 = (k + b.log2) + 1 by omega]
  have hd : Deg A (k + b.log2) := by
    refine ⟨?_, by rw [← e]; exact h2⟩
    have := Nat.div_mul_le_self A (2 ^ (k + b.log2))
    rw [hk] at this; omega
  have hl : k + b.log2 < 28 := (Nat.pow_lt_pow_iff_right (a := 2) (by omega)).1 (Nat.lt_of_le_of_lt hd.1 (by omega))
  have hd2 : Deg (b * 2 ^ k) (k + b.log2) := by
    rw [Nat.add_comm k, ← mul_two_pow]; exact deg_mul (deg_log hb) ⟨Nat.le_refl _, Nat.pow_lt_pow_right (by omega) (by omega)⟩
  refine ⟨hd, hl, hd2, Nat.lt_of_lt_of_le hd2.2 (pow30 (by omega))⟩

theorem subR_take {a b A Q k : Nat} (hb : b ≠ 0) (h : SubR a b A Q (k + 1)) (hk : A / 2 ^ (k + b.log2) = 1) : SubR a b (A ^^^ b * 2 ^ k) (Q + 2 ^ k) k := by
  obtain ⟨hd, hl, hd2, hlt⟩ := subR_num hb h hk
  obtain ⟨h1, h2, h3, h4, h5⟩ := h
  have hq : Q.testBit k = false := by
    have : Q % 2 ^ (k + 1) = 0 := h4
    have h6 := Nat.testBit_mod_two_pow Q (k + 1) k
    rw [this, Nat.zero_testBit] at h6
    simpa using h6.symm
  have hx := xor_and Q (2 ^ k)
  have ho := or_and Q (2 ^ k)
  have hop := or_pow hq
  have h0 : Q &&& 2 ^ k = 0 := by omega
  have e : Q + 2 ^ k = Q ^^^ 2 ^ k := by omega
  have hx2 := xor_top hd hd2
  have hpk : 2 ^ k < 2 ^ 28 := Nat.pow_lt_pow_right (by omega) (by omega)
  refine ⟨?_, hx2, ?_, ?_, ?_⟩
  · rw [e, mul_xor, mul_two_pow, h1, Nat.xor_assoc, Nat.xor_comm A, ← Nat.xor_assoc (b * 2 ^ k), Nat.xor_self, Nat.zero_xor]
  · exact Nat.lt_of_lt_of_le hx2 (by have := Nat.pow_le_pow_right (n := 2) (by omega) (show k + b.log2 ≤ 27 by omega); omega)
  · have hdv : 2 ^ k ∣ Q := Nat.dvd_trans (Nat.pow_dvd_pow 2 (by omega)) (Nat.dvd_of_mod_eq_zero h4)
    exact Nat.mod_eq_zero_of_dvd (Nat.dvd_add hdv (Nat.dvd_refl _))
  · rw [e]; exact Nat.xor_lt_two_pow (n := 28) (by omega) (by omega)

theorem xor_slot {A b n : Nat} (hA : A < 4294967296) (h : b * 2 ^ n < 4294967296) : bits .xor .i64 (A : Int) (wrap64 ((b : Int) * 2 ^ n)) = ((A ^^^ b * 2 ^ n : Nat) : Int) := by
  rw [two_pow_cast, ← Int.natCast_mul, w64n (by omega), i64_xor _ _ (by omega) (by omega)]

theorem or_slot {Q n : Nat} (hQ : Q < 4294967296) (h : n ≤ 31) : bits .or .i64 (Q : Int) (wrap64 (2 ^ n)) = ((Q ||| 2 ^ n : Nat) : Int) := by
  have hp : 2 ^ n ≤ 2 ^ 31 := Nat.pow_le_pow_right (by omega) h
  rw [two_pow_cast, w64n (by omega), i64_or _ _ (by omega) (by omega)]

theorem add_slot {Q k : Nat} (hQ : Q < 268435456) (h : k < 28) : wrap64 ((Q : Int) + wrap64 (2 ^ k)) = ((Q + 2 ^ k : Nat) : Int) := by
  have hp : 2 ^ k ≤ 2 ^ 27 := Nat.pow_le_pow_right (by omega) (by omega)
  rw [two_pow_cast, w64n (by omega), ← Int.natCast_add, w64n (by omega)]

theorem shl_slot {b k : Nat} (h : b * 2 ^ k < 1073741824) : wrap64 ((b : Int) * 2 ^ k) = ((b * 2 ^ k : Nat) : Int) := by
  rw [two_pow_cast, ← Int.natCast_mul, w64n (by omega)]

theorem shr_one {A n : Nat} (h : A / 2 ^ n = 1) : ((A : Int) / 2 ^ n == 1) = true := by rw [shr_cast, h]; rfl

theorem shr_not_one {A n : Nat} (h : A / 2 ^ n ≠ 1) : ((A : Int) / 2 ^ n == 1) = false := by
  rw [shr_cast, beq_eq_false_iff_ne]
  intro e
  exact h (Int.ofNat_inj.1 e)

/-- the search for the top -/
theorem top_more {b t : Nat} (hb : b ≠ 0) : 0 < b / 2 ^ (t + 1) ↔ t < b.log2 := by
  rw [Nat.div_pos_iff, ← Nat.le_log2 hb]
  have := Nat.two_pow_pos (t + 1)
  omega
end Bw
