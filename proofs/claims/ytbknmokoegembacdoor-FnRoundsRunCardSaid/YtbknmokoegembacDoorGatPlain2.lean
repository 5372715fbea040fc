/- Gathered and scattered bits: what the laws say of them: plain arithmetic. -/
import Derived.Test.YtbknmokoegembacDoorGatPlain
import Derived.Test.YtbknmokoegembacDoorSortPlain

namespace Bw
open Go Go.RowKit
set_option linter.unusedVariables false

theorem gth_more {m n : Nat} (h : m < 2 ^ n) (x : Nat) : ∀ d, gth x m (n + d) = gth x m n
  | 0 => rfl
  | d + 1 => by
    show gth x m (n + d + 1) = _
    rw [gth_succ, testBit_of_lt h (by omega), gth_more h x d]; rfl

theorem sct_more {m n : Nat} (h : m < 2 ^ n) (x : Nat) : ∀ d, sct x m (n + d) = sct x m n
  | 0 => rfl
  | d + 1 => by
    show sct x m (n + d + 1) = _
    rw [sct_succ, testBit_of_lt h (by omega), sct_more h x d]; rfl

theorem gth_twelve {m n : Nat} (h : m < 2 ^ n) (hn : n ≤ 12) (x : Nat) : gth x m 12 = gth x m n := by
  have := gth_more h x (12 - n)
  rwa [Nat.add_sub_cancel' hn] at this

theorem sct_twelve {m n : Nat} (h : m < 2 ^ n) (hn : n ≤ 12) (x : Nat) : sct x m 12 = sct x m n := by
  have := sct_more h x (12 - n)
  rwa [Nat.add_sub_cancel' hn] at this

theorem gth_lt2 (x m n : Nat) : gth x m n < 2 ^ n :=
  Nat.lt_of_lt_of_le (gth_lt x m n) (Nat.pow_le_pow_right (by omega) (pc_le m n))

theorem onI_mem' {m n j : Nat} (h : j < pc m n) : ∃ i, i < n ∧ m.testBit i = true ∧ pc m i = j := onI_mem h

/-- a word below 2 to the k, by its bits -/
theorem ext_lt {x y n : Nat} (hx : x < 2 ^ n) (hy : y < 2 ^ n) (h : ∀ i, i < n → x.testBit i = y.testBit i) : x = y := by
  apply Nat.eq_of_testBit_eq
  intro i
  rcases Nat.lt_or_ge i n with hi | hi
  · exact h i hi
  · rw [testBit_of_lt hx hi, testBit_of_lt hy hi]

/-- gathered, then scattered -/
theorem sct_gth (x m n : Nat) (hx : x < 2 ^ n) : sct (gth x m n) m n = x &&& m := by
  apply Nat.eq_of_testBit_eq
  intro i
  rw [sct_bit, Nat.testBit_and]
  by_cases hi : i < n
  · cases hm : m.testBit i
    · simp
    · rw [gth_bit x m n i hi hm]; simp [hi]
  · rw [testBit_of_lt hx (by omega)]; simp [hi]

/-- scattered, then gathered -/
theorem gth_sct (x m n : Nat) : gth (sct x m n) m n = x % 2 ^ pc m n := by
  refine ext_lt (gth_lt _ _ _) (Nat.mod_lt _ (Nat.two_pow_pos _)) fun j hj => ?_
  obtain ⟨i, h1, h2, rfl⟩ := onI_mem hj
  rw [gth_bit _ m n i h1 h2, sct_bit, Nat.testBit_mod_two_pow, h2]
  simp [h1, hj]

theorem sct_and (x m n : Nat) : sct x m n &&& m = sct x m n := by
  apply Nat.eq_of_testBit_eq
  intro i
  rw [Nat.testBit_and, sct_bit]
  cases m.testBit i <;> simp

/-! the other places -/
def oth (m n : Nat) : Nat := 2 ^ n - 1 - m

theorem oth_bit {m n : Nat} (h : m < 2 ^ n) (i : Nat) : (oth m n).testBit i = (decide (i < n) && !m.testBit i) := by
  unfold oth
  rw [show 2 ^ n - 1 - m = 2 ^ n - (m + 1) by omega, Nat.testBit_two_pow_sub_succ h]

theorem oth_lt (m n : Nat) : oth m n < 2 ^ n := by
  unfold oth; have := Nat.two_pow_pos n; omega

theorem oth_pc {m n : Nat} (h : m < 2 ^ n) : ∀ k, k ≤ n → pc (oth m n) k + pc m k = k
  | 0, _ => rfl
  | k + 1, hk => by
    have ih := oth_pc h k (by omega)
    rw [pc_succ, pc_succ, oth_bit h, show decide (k < n) = true by simp; omega, Bool.true_and]
    cases m.testBit k <;> simp <;> omega

theorem add_of_apart {a b : Nat} (h : ∀ i, a.testBit i = true → b.testBit i = false) : a ||| b = a + b := by
  have h1 := or_and a b
  have h2 : a &&& b = 0 := by
    apply Nat.eq_of_testBit_eq
    intro i
    rw [Nat.testBit_and, Nat.zero_testBit]
    cases ha : a.testBit i
    · rfl
    · rw [h i ha]; rfl
  omega

/-! separated bits -/
def sep (x m n : Nat) : Nat := gth x (oth m n) n + gth x m n * 2 ^ pc (oth m n) n

theorem sep_eq (x m n : Nat) : sep x m n = 2 ^ pc (oth m n) n * gth x m n + gth x (oth m n) n := by
  unfold sep; rw [Nat.mul_comm, Nat.add_comm]

theorem sep_or (x m n : Nat) : gth x (oth m n) n ||| gth x m n * 2 ^ pc (oth m n) n = sep x m n := by
  rw [sep_eq, Nat.two_pow_add_eq_or_of_lt (gth_lt _ _ _), Nat.or_comm, Nat.mul_comm]

theorem sep_bit (x m n j : Nat) : (sep x m n).testBit j = if j < pc (oth m n) n then (gth x (oth m n) n).testBit j else (gth x m n).testBit (j - pc (oth m n) n) := by
  rw [sep_eq, Nat.testBit_two_pow_mul_add _ (gth_lt _ _ _)]

theorem sep_lt {x m n : Nat} (h : m < 2 ^ n) : sep x m n < 2 ^ n := by
  refine lt_of_bits fun i hi => ?_
  have h1 := oth_pc h n (Nat.le_refl _)
  rw [sep_bit, if_neg (by omega)]
  exact gth_bit_hi _ _ _ (by omega)

theorem sep_zero {x m n i : Nat} (h : m < 2 ^ n) (hi : i < n) (hm : m.testBit i = false) : (sep x m n).testBit (pc (oth m n) i) = x.testBit i := by
  have ho : (oth m n).testBit i = true := by rw [oth_bit h, hm]; simp [hi]
  rw [sep_bit, if_pos (pc_lt ho hi), gth_bit _ _ _ i hi ho]

theorem sep_one {x m n i : Nat} (h : m < 2 ^ n) (hi : i < n) (hm : m.testBit i = true) : (sep x m n).testBit (pc (oth m n) n + pc m i) = x.testBit i := by
  rw [sep_bit, if_neg (by omega), Nat.add_sub_cancel_left, gth_bit _ _ _ i hi hm]

/-- put together again -/
def tog (x m n : Nat) : Nat := sct x (oth m n) n + sct (x / 2 ^ pc (oth m n) n) m n

theorem tog_or {m n : Nat} (h : m < 2 ^ n) (x : Nat) : sct x (oth m n) n ||| sct (x / 2 ^ pc (oth m n) n) m n = tog x m n := by
  refine add_of_apart fun i hi => ?_
  rw [sct_bit, oth_bit h] at hi
  rw [sct_bit]
  cases hm : m.testBit i
  · simp
  · rw [hm] at hi; simp at hi

theorem sct_mod (x m n : Nat) : sct (x % 2 ^ pc m n) m n = sct x m n := by
  apply Nat.eq_of_testBit_eq
  intro i
  rw [sct_bit, sct_bit, Nat.testBit_mod_two_pow]
  by_cases hi : i < n
  · cases hm : m.testBit i
    · simp
    · simp [pc_lt hm hi]
  · simp [hi]

theorem tog_bit {m n : Nat} (h : m < 2 ^ n) (x i : Nat) (hi : i < n) : (tog x m n).testBit i = if m.testBit i then x.testBit (pc (oth m n) n + pc m i) else x.testBit (pc (oth m n) i) := by
  rw [← tog_or h, Nat.testBit_or, sct_bit, sct_bit, oth_bit h, Nat.testBit_div_two_pow]
  cases hm : m.testBit i
  · simp [hi]
  · simp [hi, Nat.add_comm]

theorem tog_lt {m n : Nat} (h : m < 2 ^ n) (x : Nat) : tog x m n < 2 ^ n := by
  rw [← tog_or h]
  exact Nat.or_lt_two_pow (sct_lt _ _ _) (sct_lt _ _ _)

theorem tog_sep {x m n : Nat} (hx : x < 2 ^ n) (h : m < 2 ^ n) : tog (sep x m n) m n = x := by
  refine ext_lt (tog_lt h _) hx fun i hi => ?_
  rw [tog_bit h _ i hi]
  cases hm : m.testBit i
  · rw [if_neg (by simp)]; exact sep_zero h hi hm
  · rw [if_pos rfl]; exact sep_one h hi hm

theorem sep_tog {x m n : Nat} (hx : x < 2 ^ n) (h : m < 2 ^ n) : sep (tog x m n) m n = x := by
  refine ext_lt (sep_lt h) hx fun j hj => ?_
  have hz := oth_pc h n (Nat.le_refl _)
  by_cases hjz : j < pc (oth m n) n
  · obtain ⟨i, h1, h2, rfl⟩ := onI_mem hjz
    have hm : m.testBit i = false := by
      rw [oth_bit h] at h2
      cases hb : m.testBit i
      · rfl
      · rw [hb] at h2; simp at h2
    rw [sep_zero h h1 hm, tog_bit h _ i h1, hm, if_neg (by simp)]
  · obtain ⟨i, h1, h2, h3⟩ := onI_mem (m := m) (n := n) (j := j - pc (oth m n) n) (by omega)
    have e : j = pc (oth m n) n + pc m i := by omega
    rw [e, sep_one h h1 h2, tog_bit h _ i h1, h2, if_pos rfl]

/-- a word by itself: all ones above -/
theorem gth_self (m : Nat) : ∀ n, gth m m n = 2 ^ pc m n - 1
  | 0 => rfl
  | n + 1 => by
    have ih := gth_self m n
    rw [gth_succ, pc_succ, bit_toNat]
    have := Nat.two_pow_pos (pc m n)
    cases hm : m.testBit n
    · simpa using ih
    · rw [if_pos rfl, ih]
      show 2 ^ pc m n - 1 + 1 * 2 ^ pc m n = 2 ^ (pc m n + 1) - 1
      rw [Nat.pow_succ]
      omega

theorem gth_none {m n : Nat} (h : m < 2 ^ n) : gth m (oth m n) n = 0 := by
  have key : ∀ k, k ≤ n → gth m (oth m n) k = 0 := by
    intro k
    induction k with
    | zero => intro _; rfl
    | succ k ih =>
      intro hk
      rw [gth_succ, ih (by omega), oth_bit h, bit_toNat]
      cases hm : m.testBit k <;> simp
  exact key n (Nat.le_refl _)

theorem sep_self {m n : Nat} (h : m < 2 ^ n) : sep m m n = greatestOf n (pc m n) := by
  have hz := oth_pc h n (Nat.le_refl _)
  unfold sep greatestOf
  rw [gth_none h, gth_self, Nat.zero_add, show pc (oth m n) n = n - pc m n by omega]

/-! how many ones -/
theorem pc_gth (x m : Nat) : ∀ n, pc (gth x m n) (pc m n) = pc (x &&& m) n
  | 0 => rfl
  | n + 1 => by
    have ih := pc_gth x m n
    rw [gth_succ, pc_succ, pc_succ, Nat.testBit_and]
    cases hm : m.testBit n
    · simpa using ih
    · rw [if_pos rfl, bit_toNat]
      show pc (gth x m n + (x.testBit n).toNat * 2 ^ pc m n) (pc m n + 1) = _
      have hz := testBit_of_lt (gth_lt x m n) (Nat.le_refl _)
      rw [pc_succ]
      cases hx : x.testBit n
      · simp [ih, hz]
      · rw [show (true).toNat = 1 from rfl, Nat.one_mul, ← or_bit hz, pc_or_bit hz, Nat.testBit_or, Nat.testBit_two_pow, ih]
        simp

theorem pc_join {a b z : Nat} (ha : a < 2 ^ z) : ∀ k, pc (2 ^ z * b + a) (z + k) = pc a z + pc b k
  | 0 => by
    show pc _ z = pc a z
    exact pc_congr fun i hi => by rw [Nat.testBit_two_pow_mul_add _ ha, if_pos hi]
  | k + 1 => by
    show pc _ (z + k) + ((2 ^ z * b + a).testBit (z + k)).toNat = pc a z + (pc b k + (b.testBit k).toNat)
    rw [pc_join ha k, Nat.testBit_two_pow_mul_add _ ha, if_neg (by omega), Nat.add_sub_cancel_left]
    omega

theorem pc_part {m n : Nat} (h : m < 2 ^ n) (x : Nat) : ∀ k, k ≤ n → pc (x &&& oth m n) k + pc (x &&& m) k = pc x k
  | 0, _ => rfl
  | k + 1, hk => by
    have ih := pc_part h x k (by omega)
    rw [pc_succ, pc_succ, pc_succ, Nat.testBit_and, Nat.testBit_and, oth_bit h, show decide (k < n) = true by simp; omega, Bool.true_and]
    cases m.testBit k <;> cases x.testBit k <;> simp <;> omega

theorem sep_pc {m n : Nat} (h : m < 2 ^ n) (x : Nat) : pc (sep x m n) n = pc x n := by
  have hz := oth_pc h n (Nat.le_refl _)
  have e : pc (sep x m n) n = pc (sep x m n) (pc (oth m n) n + pc m n) := by rw [hz]
  rw [e, sep_eq, pc_join (gth_lt _ _ _), pc_gth, pc_gth, pc_part h x n (Nat.le_refl _)]

end Bw
