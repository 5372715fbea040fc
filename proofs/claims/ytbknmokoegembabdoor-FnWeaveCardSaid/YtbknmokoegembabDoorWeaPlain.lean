/- Woven words: plain arithmetic. -/
import Derived.Test.YtbknmokoegembabDoorGatPlain2

namespace Bw
open Go Go.RowKit
set_option linter.unusedVariables false

/-- the bits of two words by turns -/
def wv (a b : Nat) : Nat → Nat
  | 0 => 0
  | k + 1 => wv a b k + a / 2 ^ k % 2 * 2 ^ (2 * k) + b / 2 ^ k % 2 * 2 ^ (2 * k + 1)

theorem wv_succ (a b k : Nat) : wv a b (k + 1) = wv a b k + a / 2 ^ k % 2 * 2 ^ (2 * k) + b / 2 ^ k % 2 * 2 ^ (2 * k + 1) := rfl

/-- the bits at even places, and at odd ones -/
def ev (x : Nat) : Nat → Nat
  | 0 => 0
  | k + 1 => ev x k + x / 2 ^ (2 * k) % 2 * 2 ^ k

theorem ev_succ (x k : Nat) : ev x (k + 1) = ev x k + x / 2 ^ (2 * k) % 2 * 2 ^ k := rfl

def od (x : Nat) : Nat → Nat
  | 0 => 0
  | k + 1 => od x k + x / 2 ^ (2 * k + 1) % 2 * 2 ^ k

theorem od_succ (x k : Nat) : od x (k + 1) = od x k + x / 2 ^ (2 * k + 1) % 2 * 2 ^ k := rfl

theorem wea_facts : ∀ k, k < 6 → (1365 : Nat).testBit (2 * k) = true ∧ (1365 : Nat).testBit (2 * k + 1) = false ∧ pc 1365 (2 * k) = k ∧ (2730 : Nat).testBit (2 * k) = false ∧ (2730 : Nat).testBit (2 * k + 1) = true ∧ pc 2730 (2 * k + 1) = k := by decide +kernel

theorem sct_wv (a b : Nat) : ∀ k, k ≤ 6 → sct a 1365 (2 * k) + sct b 2730 (2 * k) = wv a b k
  | 0, _ => rfl
  | k + 1, hk => by
    have ih := sct_wv a b k (by omega)
    obtain ⟨h1, h2, h3, h4, h5, h6⟩ := wea_facts k (by omega)
    have e1 : sct a 1365 (2 * (k + 1)) = sct a 1365 (2 * k) + a / 2 ^ k % 2 * 2 ^ (2 * k) := by
      show sct a 1365 (2 * k + 1 + 1) = _
      rw [sct_succ, h2, sct_succ, h1, h3]; rfl
    have e2 : sct b 2730 (2 * (k + 1)) = sct b 2730 (2 * k) + b / 2 ^ k % 2 * 2 ^ (2 * k + 1) := by
      show sct b 2730 (2 * k + 1 + 1) = _
      rw [sct_succ, h5, h6, sct_succ, h4]; rfl
    rw [e1, e2, wv_succ]
    omega

theorem gth_ev (x : Nat) : ∀ k, k ≤ 6 → gth x 1365 (2 * k) = ev x k
  | 0, _ => rfl
  | k + 1, hk => by
    have ih := gth_ev x k (by omega)
    obtain ⟨h1, h2, h3, h4, h5, h6⟩ := wea_facts k (by omega)
    show gth x 1365 (2 * k + 1 + 1) = _
    rw [gth_succ, h2, gth_succ, h1, h3, ih]; rfl

theorem gth_od (x : Nat) : ∀ k, k ≤ 6 → gth x 2730 (2 * k) = od x k
  | 0, _ => rfl
  | k + 1, hk => by
    have ih := gth_od x k (by omega)
    obtain ⟨h1, h2, h3, h4, h5, h6⟩ := wea_facts k (by omega)
    show gth x 2730 (2 * k + 1 + 1) = _
    rw [gth_succ, h5, h6, gth_succ, h4]
    show gth x 2730 (2 * k) + x / 2 ^ (2 * k + 1) % 2 * 2 ^ k = od x k + x / 2 ^ (2 * k + 1) % 2 * 2 ^ k
    rw [ih]

theorem wea_apart (i : Nat) : ((1365 : Nat).testBit i && (2730 : Nat).testBit i) = false := by
  rw [← Nat.testBit_and, show (1365 : Nat) &&& 2730 = 0 from by decide, Nat.zero_testBit]

theorem wv_or (a b : Nat) : sct a 1365 12 ||| sct b 2730 12 = wv a b 6 := by
  rw [← sct_wv a b 6 (Nat.le_refl _)]
  refine add_of_apart fun i hi => ?_
  have h := wea_apart i
  rw [sct_bit] at hi
  rw [sct_bit]
  cases h1 : (1365 : Nat).testBit i
  · rw [h1] at hi; simp at hi
  · rw [h1, Bool.true_and] at h; rw [h]; simp

theorem bit_zero {x k : Nat} (h : x < 2 ^ k) : x / 2 ^ k % 2 = 0 := by rw [Nat.div_eq_of_lt h]

theorem wv_more {a b n : Nat} (ha : a < 2 ^ n) (hb : b < 2 ^ n) : ∀ d, wv a b (n + d) = wv a b n
  | 0 => rfl
  | d + 1 => by
    have hle : 2 ^ n ≤ 2 ^ (n + d) := Nat.pow_le_pow_right (by omega) (by omega)
    show wv a b (n + d + 1) = _
    rw [wv_succ, wv_more ha hb d, bit_zero (Nat.lt_of_lt_of_le ha hle), bit_zero (Nat.lt_of_lt_of_le hb hle)]; simp

theorem wv_six {a b n : Nat} (ha : a < 2 ^ n) (hb : b < 2 ^ n) (hn : n ≤ 6) : wv a b 6 = wv a b n := by
  have := wv_more ha hb (6 - n)
  rwa [Nat.add_sub_cancel' hn] at this

theorem ev_more {x n : Nat} (h : x < 2 ^ (2 * n)) : ∀ d, ev x (n + d) = ev x n
  | 0 => rfl
  | d + 1 => by
    have hle : 2 ^ (2 * n) ≤ 2 ^ (2 * (n + d)) := Nat.pow_le_pow_right (by omega) (by omega)
    show ev x (n + d + 1) = _
    rw [ev_succ, ev_more h d, bit_zero (Nat.lt_of_lt_of_le h hle)]; simp

theorem od_more {x n : Nat} (h : x < 2 ^ (2 * n)) : ∀ d, od x (n + d) = od x n
  | 0 => rfl
  | d + 1 => by
    have hle : 2 ^ (2 * n) ≤ 2 ^ (2 * (n + d) + 1) := Nat.pow_le_pow_right (by omega) (by omega)
    show od x (n + d + 1) = _
    rw [od_succ, od_more h d, bit_zero (Nat.lt_of_lt_of_le h hle)]; simp

theorem ev_six {x n : Nat} (h : x < 2 ^ (2 * n)) (hn : n ≤ 6) : gth x 1365 12 = ev x n := by
  have := ev_more h (6 - n)
  rw [Nat.add_sub_cancel' hn] at this
  rw [← this]; exact gth_ev x 6 (Nat.le_refl _)

theorem od_six {x n : Nat} (h : x < 2 ^ (2 * n)) (hn : n ≤ 6) : gth x 2730 12 = od x n := by
  have := od_more h (6 - n)
  rw [Nat.add_sub_cancel' hn] at this
  rw [← this]; exact gth_od x 6 (Nat.le_refl _)

theorem wv_lt (a b : Nat) : ∀ k, wv a b k < 2 ^ (2 * k)
  | 0 => by simp [wv]
  | k + 1 => by
    have ih := wv_lt a b k
    have h1 := bit_mul_le a k (2 ^ (2 * k))
    have h2 := bit_mul_le b k (2 ^ (2 * k + 1))
    have e : 2 ^ (2 * (k + 1)) = 4 * 2 ^ (2 * k) := by rw [show 2 * (k + 1) = 2 * k + 2 by omega, Nat.pow_add]; omega
    have e2 : 2 ^ (2 * k + 1) = 2 * 2 ^ (2 * k) := by rw [Nat.pow_succ]; omega
    rw [wv_succ, e]
    rw [e2] at h2 ⊢
    omega

theorem two_bits (p q : Bool) (j : Nat) : (p.toNat + 2 * q.toNat).testBit j = if j = 0 then p else if j = 1 then q else false := by
  rcases j with _ | _ | j
  · cases p <;> cases q <;> rfl
  · cases p <;> cases q <;> rfl
  · rw [if_neg (by omega), if_neg (by omega)]
    refine testBit_of_lt (k := 2) ?_ (by omega)
    cases p <;> cases q <;> decide

theorem wv_bit (a b : Nat) : ∀ k i, (wv a b k).testBit i = (decide (i < 2 * k) && (if i % 2 = 0 then a.testBit (i / 2) else b.testBit (i / 2)))
  | 0, i => by simp [wv]
  | k + 1, i => by
    have ih := wv_bit a b k i
    have e : wv a b (k + 1) = 2 ^ (2 * k) * ((a.testBit k).toNat + 2 * (b.testBit k).toNat) + wv a b k := by
      rw [wv_succ, bit_toNat, bit_toNat, Nat.pow_succ]
      generalize 2 ^ (2 * k) = q
      cases a.testBit k <;> cases b.testBit k <;> simp <;> omega
    rw [e, Nat.testBit_two_pow_mul_add _ (wv_lt a b k), two_bits]
    by_cases h : i < 2 * k
    · rw [if_pos h, ih]; simp [h, show i < 2 * (k + 1) by omega]
    · rw [if_neg h]
      by_cases h0 : i = 2 * k
      · subst h0; simp
      · by_cases h1 : i = 2 * k + 1
        · subst h1
          rw [if_neg (by omega), if_pos (by omega), if_neg (by omega), show (2 * k + 1) / 2 = k by omega, show decide (2 * k + 1 < 2 * (k + 1)) = true by simp; omega]
          rfl
        · rw [if_neg (by omega), if_neg (by omega)]
          simp; omega

theorem ev_lt (x : Nat) : ∀ k, ev x k < 2 ^ k
  | 0 => by simp [ev]
  | k + 1 => by
    have := ev_lt x k
    have := bit_mul_le x (2 * k) (2 ^ k)
    rw [ev_succ, Nat.pow_succ]; omega

theorem od_lt (x : Nat) : ∀ k, od x k < 2 ^ k
  | 0 => by simp [od]
  | k + 1 => by
    have := od_lt x k
    have := bit_mul_le x (2 * k + 1) (2 ^ k)
    rw [od_succ, Nat.pow_succ 2 k]; omega

theorem ev_bit (x : Nat) : ∀ k i, (ev x k).testBit i = (decide (i < k) && x.testBit (2 * i))
  | 0, i => by simp [ev]
  | k + 1, i => by
    have hz := testBit_of_lt (ev_lt x k) (Nat.le_refl k)
    rw [ev_succ, ← or_bit_mul (by omega) hz, Nat.testBit_or, bit_toNat, testBit_mul_pow, ev_bit x k i]
    by_cases e : k = i
    · subst e; simp
    · have e2 : decide (i < k + 1) = decide (i < k) := by congr 1; apply propext; omega
      rw [e2]; simp [e]

theorem od_bit (x : Nat) : ∀ k i, (od x k).testBit i = (decide (i < k) && x.testBit (2 * i + 1))
  | 0, i => by simp [od]
  | k + 1, i => by
    have hz := testBit_of_lt (od_lt x k) (Nat.le_refl k)
    rw [od_succ, ← or_bit_mul (by omega) hz, Nat.testBit_or, bit_toNat, testBit_mul_pow, od_bit x k i]
    by_cases e : k = i
    · subst e; simp
    · have e2 : decide (i < k + 1) = decide (i < k) := by congr 1; apply propext; omega
      rw [e2]; simp [e]

theorem ev_wv {a n : Nat} (b : Nat) (ha : a < 2 ^ n) : ev (wv a b n) n = a := by
  refine ext_lt (ev_lt _ _) ha fun i hi => ?_
  rw [ev_bit, wv_bit, if_pos (by omega), show 2 * i / 2 = i by omega]
  simp; omega

theorem od_wv {b n : Nat} (a : Nat) (hb : b < 2 ^ n) : od (wv a b n) n = b := by
  refine ext_lt (od_lt _ _) hb fun i hi => ?_
  rw [od_bit, wv_bit, if_neg (by omega), show (2 * i + 1) / 2 = i by omega, show decide (i < n) = true by simp [hi], show decide (2 * i + 1 < 2 * n) = true by simp; omega]
  rfl

theorem wv_ev {x n : Nat} (hx : x < 2 ^ (2 * n)) : wv (ev x n) (od x n) n = x := by
  refine ext_lt (wv_lt _ _ _) hx fun i hi => ?_
  rw [wv_bit, ev_bit, od_bit]
  by_cases h : i % 2 = 0
  · rw [if_pos h, show 2 * (i / 2) = i by omega]; simp [hi]; omega
  · rw [if_neg h, show 2 * (i / 2) + 1 = i by omega]; simp [hi]; omega

theorem wea_pc (x n : Nat) : ∀ k, k ≤ n → pc (ev x n) k + pc (od x n) k = pc x (2 * k)
  | 0, _ => rfl
  | k + 1, hk => by
    have ih := wea_pc x n k (by omega)
    show pc (ev x n) (k + 1) + pc (od x n) (k + 1) = pc x (2 * k + 1 + 1)
    rw [pc_succ, pc_succ, pc_succ, pc_succ, ev_bit, od_bit, show decide (k < n) = true by simp; omega, Bool.true_and, Bool.true_and]
    omega

/-! greater words, woven -/
def spr (a : Nat) : Nat → Nat
  | 0 => 0
  | k + 1 => spr a k + a / 2 ^ k % 2 * 2 ^ (2 * k)

theorem wv_spr (a b : Nat) : ∀ k, wv a b k = spr a k + 2 * spr b k
  | 0 => rfl
  | k + 1 => by
    have ih := wv_spr a b k
    rw [wv_succ, ih, spr, spr, Nat.pow_succ, ← Nat.mul_assoc]
    omega

theorem spr_chk : ∀ a, a < 63 → spr a 6 < spr (a + 1) 6 := by decide +kernel

theorem wv_more_of {a b n : Nat} (hn : n ≤ 6) (ha : a + 1 < 2 ^ n) (hb : b + 1 < 2 ^ n) : wv a b n < wv (a + 1) (b + 1) n := by
  have hp : 2 ^ n ≤ 2 ^ 6 := Nat.pow_le_pow_right (by omega) hn
  have h1 := spr_chk a (by omega)
  have h2 := spr_chk b (by omega)
  rw [← wv_six (by omega) (by omega) hn, ← wv_six ha hb hn, wv_spr, wv_spr]
  omega

end Bw
