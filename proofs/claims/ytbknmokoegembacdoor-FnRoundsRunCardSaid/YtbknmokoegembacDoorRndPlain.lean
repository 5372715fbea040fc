/- Rounds of exchanged neighbours: plain arithmetic. -/
import Derived.Test.YtbknmokoegembacDoorGatPlain

namespace Bw
open Go Go.RowKit
set_option linter.unusedVariables false

/-- a word with the bit at a place and the one above it exchanged -/
def xch (x k : Nat) : Nat := if x.testBit k = x.testBit (k + 1) then x else x ^^^ 3 * 2 ^ k

theorem three_bit (k i : Nat) : (3 * 2 ^ k).testBit i = (decide (i = k) || decide (i = k + 1)) := by
  rw [Nat.testBit_mul_two_pow]
  by_cases h : k ≤ i
  · obtain ⟨d, rfl⟩ : ∃ d, i = k + d := ⟨i - k, by omega⟩
    rw [Nat.add_sub_cancel_left]
    rcases d with _ | _ | d
    · simp
    · simp; decide
    · have : (3 : Nat).testBit (d + 1 + 1) = false := testBit_of_lt (k := 2) (by decide) (by omega)
      rw [this]; simp
  · simp [h]; omega

theorem xch_bit (x k i : Nat) : (xch x k).testBit i = if i = k then x.testBit (k + 1) else if i = k + 1 then x.testBit k else x.testBit i := by
  unfold xch
  by_cases h : x.testBit k = x.testBit (k + 1)
  · rw [if_pos h]
    by_cases h0 : i = k
    · subst h0; rw [if_pos rfl, h]
    · rw [if_neg h0]
      by_cases h1 : i = k + 1
      · subst h1; rw [if_pos rfl, h]
      · rw [if_neg h1]
  · rw [if_neg h, Nat.testBit_xor, three_bit]
    by_cases h0 : i = k
    · subst h0
      rw [if_pos rfl]
      cases h1 : x.testBit i <;> cases h2 : x.testBit (i + 1) <;> simp_all
    · rw [if_neg h0]
      by_cases h1 : i = k + 1
      · subst h1
        rw [if_pos rfl]
        cases h1 : x.testBit k <;> cases h2 : x.testBit (k + 1) <;> simp_all
      · rw [if_neg h1]; simp [h0, h1]

theorem xch_lt {x k n : Nat} (hx : x < 2 ^ n) (hk : k + 1 < n) : xch x k < 2 ^ n := by
  refine lt_of_bits fun i hi => ?_
  rw [xch_bit, if_neg (by omega), if_neg (by omega)]
  exact testBit_of_lt hx hi

theorem xch_pc_low (x k : Nat) : ∀ j, j ≤ k → pc (xch x k) j = pc x j := fun j hj =>
  pc_congr fun i hi => by rw [xch_bit, if_neg (by omega), if_neg (by omega)]

theorem xch_pc (x k : Nat) : ∀ d, pc (xch x k) (k + 2 + d) = pc x (k + 2 + d)
  | 0 => by
    show pc (xch x k) k + ((xch x k).testBit k).toNat + ((xch x k).testBit (k + 1)).toNat = pc x k + (x.testBit k).toNat + (x.testBit (k + 1)).toNat
    rw [xch_pc_low x k k (Nat.le_refl _), xch_bit, xch_bit, if_pos rfl, if_neg (by omega), if_pos rfl]
    omega
  | d + 1 => by
    show pc (xch x k) (k + 2 + d) + ((xch x k).testBit (k + 2 + d)).toNat = pc x (k + 2 + d) + (x.testBit (k + 2 + d)).toNat
    rw [xch_pc x k d, xch_bit, if_neg (by omega), if_neg (by omega)]

/-- the exchanges of a round at the first k places -/
def xrow (x r : Nat) : Nat → Nat
  | 0 => x
  | k + 1 => if r.testBit k then xch (xrow x r k) k else xrow x r k

theorem xrow_succ (x r k : Nat) : xrow x r (k + 1) = if r.testBit k then xch (xrow x r k) k else xrow x r k := rfl

/-- .. by a list of places -/
def xl (x : Nat) (l : List Int) : Nat → Nat
  | 0 => x
  | j + 1 => xch (xl x l j) (pl l j)

theorem xl_succ (x : Nat) (l : List Int) (j : Nat) : xl x l (j + 1) = xch (xl x l j) (pl l j) := rfl

theorem xl_congr (x : Nat) {l l' : List Int} : ∀ {n : Nat}, (∀ j, j < n → pl l j = pl l' j) → xl x l n = xl x l' n
  | 0, _ => rfl
  | n + 1, h => by rw [xl_succ, xl_succ, xl_congr x (fun j hj => h j (by omega)), h n (by omega)]

theorem xl_xrow (x m : Nat) : ∀ n, xl x (onI m n) (pc m n) = xrow x m n
  | 0 => rfl
  | n + 1 => by
    have ih := xl_xrow x m n
    have hc : xl x (onI m (n + 1)) (pc m n) = xrow x m n := by rw [← ih]; exact xl_congr x fun j hj => onI_pl_succ hj
    rw [xrow_succ, pc_succ]
    cases hb : m.testBit n
    · exact hc
    · show xl x (onI m (n + 1)) (pc m n + 1) = _
      rw [xl_succ, hc, onI_pl hb (by omega), if_pos rfl]

/-- a round of a width: its highest bit is 0 -/
def Rnd (n r : Nat) : Prop := r < 2 ^ n ∧ r.testBit (n - 1) = false

theorem Rnd.place {n r i : Nat} (h : Rnd n r) (hi : r.testBit i = true) : i + 1 < n := by
  rcases Nat.lt_or_ge i n with h1 | h1
  · by_cases e : i = n - 1
    · subst e; rw [h.2] at hi; cases hi
    · omega
  · rw [testBit_of_lt h.1 h1] at hi; cases hi

theorem Rnd.bits {n r : Nat} (h : Rnd n r) : r < 2 ^ (n - 1) := lt_of_bits fun i hi => by
  cases hb : r.testBit i
  · rfl
  · have := h.place hb; omega

theorem xrow_lt {n r x : Nat} (h : Rnd n r) (hx : x < 2 ^ n) : ∀ k, xrow x r k < 2 ^ n
  | 0 => hx
  | k + 1 => by
    rw [xrow_succ]
    split
    · rename_i hb; exact xch_lt (xrow_lt h hx k) (h.place hb)
    · exact xrow_lt h hx k

theorem xrow_more {n r x : Nat} (h : Rnd n r) : ∀ d, xrow x r (n - 1 + d) = xrow x r (n - 1)
  | 0 => rfl
  | d + 1 => by
    show xrow x r (n - 1 + d + 1) = _
    have hb : r.testBit (n - 1 + d) = false := testBit_of_lt h.bits (by omega)
    rw [xrow_succ, hb, xrow_more h d]; rfl

theorem xrow_last {n r x k : Nat} (h : Rnd n r) (hk : n - 1 ≤ k) : xrow x r k = xrow x r (n - 1) := by
  have := xrow_more (x := x) h (k - (n - 1))
  rwa [show n - 1 + (k - (n - 1)) = k by omega] at this

theorem xrow_pc {n r x : Nat} (h : Rnd n r) : ∀ k, pc (xrow x r k) n = pc x n
  | 0 => rfl
  | k + 1 => by
    rw [xrow_succ]
    split
    · rename_i hb
      have hp := h.place hb
      have := xch_pc (xrow x r k) k (n - (k + 2))
      rw [show k + 2 + (n - (k + 2)) = n by omega] at this
      rw [this, xrow_pc h k]
    · exact xrow_pc h k

/-- no two places side by side: the round twice is nothing -/
def Apart (r : Nat) : Prop := ∀ i, r.testBit i = true → r.testBit (i + 1) = false

theorem apart_of {n r : Nat} (h : Rnd n r) (h0 : r &&& (2 * r) % 2 ^ n = 0) : Apart r := fun i hi => by
  have hp := h.place hi
  cases hb : r.testBit (i + 1)
  · rfl
  · have hz : (r &&& (2 * r) % 2 ^ n).testBit (i + 1) = false := by rw [h0, Nat.zero_testBit]
    rw [Nat.testBit_and, hb, Nat.testBit_mod_two_pow, Nat.mul_comm, show r * 2 = r * 2 ^ 1 from rfl, Nat.testBit_mul_two_pow, Nat.add_sub_cancel, hi] at hz
    simp at hz
    omega

theorem xrow_bit {r : Nat} (h : Apart r) (x : Nat) : ∀ k i, (xrow x r k).testBit i =
    if i < k ∧ r.testBit i = true then x.testBit (i + 1) else if 0 < i ∧ i - 1 < k ∧ r.testBit (i - 1) = true then x.testBit (i - 1) else x.testBit i
  | 0, i => by simp [xrow]
  | k + 1, i => by
    have ih := xrow_bit h x k
    rw [xrow_succ]
    cases hb : r.testBit k
    · rw [if_neg (by simp), ih]
      have e1 : (i < k + 1 ∧ r.testBit i = true) ↔ (i < k ∧ r.testBit i = true) := by
        constructor
        · rintro ⟨h1, h2⟩
          refine ⟨?_, h2⟩
          rcases Nat.lt_or_ge i k with h3 | h3
          · exact h3
          · rw [show i = k by omega, hb] at h2; cases h2
        · rintro ⟨h1, h2⟩; exact ⟨by omega, h2⟩
      have e2 : (0 < i ∧ i - 1 < k + 1 ∧ r.testBit (i - 1) = true) ↔ (0 < i ∧ i - 1 < k ∧ r.testBit (i - 1) = true) := by
        constructor
        · rintro ⟨h0, h1, h2⟩
          refine ⟨h0, ?_, h2⟩
          rcases Nat.lt_or_ge (i - 1) k with h3 | h3
          · exact h3
          · rw [show i - 1 = k by omega, hb] at h2; cases h2
        · rintro ⟨h0, h1, h2⟩; exact ⟨h0, by omega, h2⟩
      simp only [e1, e2]
    · rw [if_pos rfl, xch_bit]
      have hn := h k hb
      by_cases hi : i = k
      · subst hi
        rw [if_pos rfl, ih, if_neg (by omega), if_neg (by omega), if_pos ⟨by omega, hb⟩]
      · rw [if_neg hi]
        by_cases hi2 : i = k + 1
        · subst hi2
          have h3 : ¬ (k + 1 < k + 1 ∧ r.testBit (k + 1) = true) := by omega
          have h4 : ¬ (0 < k ∧ k - 1 < k ∧ r.testBit (k - 1) = true) := by
            rintro ⟨h0, _, h2⟩
            have := h _ h2
            rw [show k - 1 + 1 = k by omega, hb] at this
            cases this
          rw [if_pos rfl, ih, if_neg (by omega), if_neg h4, if_neg h3, if_pos ⟨by omega, by omega, by simpa using hb⟩]
          simp
        · rw [if_neg hi2, ih]
          have e1 : (i < k + 1 ∧ r.testBit i = true) ↔ (i < k ∧ r.testBit i = true) := by constructor <;> rintro ⟨h1, h2⟩ <;> exact ⟨by omega, h2⟩
          have e2 : (0 < i ∧ i - 1 < k + 1 ∧ r.testBit (i - 1) = true) ↔ (0 < i ∧ i - 1 < k ∧ r.testBit (i - 1) = true) := by constructor <;> rintro ⟨h0, h1, h2⟩ <;> exact ⟨h0, by omega, h2⟩
          simp only [e1, e2]

theorem xrow_back {n r : Nat} (hr : Rnd n r) (h : Apart r) (x : Nat) : xrow (xrow x r n) r n = x := by
  apply Nat.eq_of_testBit_eq
  intro i
  have full : ∀ y j, (xrow y r n).testBit j = if r.testBit j = true then y.testBit (j + 1) else if 0 < j ∧ r.testBit (j - 1) = true then y.testBit (j - 1) else y.testBit j := fun y j => by
    rw [xrow_bit h]
    have e1 : (j < n ∧ r.testBit j = true) ↔ (r.testBit j = true) := ⟨fun h => h.2, fun h => ⟨by have := hr.place h; omega, h⟩⟩
    have e2 : (0 < j ∧ j - 1 < n ∧ r.testBit (j - 1) = true) ↔ (0 < j ∧ r.testBit (j - 1) = true) := ⟨fun h => ⟨h.1, h.2.2⟩, fun h => ⟨h.1, by have := hr.place h.2; omega, h.2⟩⟩
    simp only [e1, e2]
  rw [full]
  by_cases h1 : r.testBit i = true
  · rw [if_pos h1, full, if_neg (by rw [h i h1]; simp), if_pos ⟨by omega, by simpa using h1⟩]; simp
  · rw [if_neg h1]
    by_cases h2 : 0 < i ∧ r.testBit (i - 1) = true
    · rw [if_pos h2, full, if_pos h2.2, show i - 1 + 1 = i by omega]
    · rw [if_neg h2, full, if_neg h1, if_neg h2]

/-! rounds one after the other -/
def runs (n x : Nat) (rs : List Int) : Nat → Nat
  | 0 => x
  | j + 1 => xrow (runs n x rs j) (pl rs j) n

theorem runs_succ (n x : Nat) (rs : List Int) (j : Nat) : runs n x rs (j + 1) = xrow (runs n x rs j) (pl rs j) n := rfl

theorem runs_lt {n x : Nat} {rs : List Int} (hx : x < 2 ^ n) : ∀ j, (∀ i, i < j → Rnd n (pl rs i)) → runs n x rs j < 2 ^ n
  | 0, _ => hx
  | j + 1, h => by rw [runs_succ]; exact xrow_lt (h j (by omega)) (runs_lt hx j fun i hi => h i (by omega)) n

theorem runs_pc {n x : Nat} {rs : List Int} : ∀ j, (∀ i, i < j → Rnd n (pl rs i)) → pc (runs n x rs j) n = pc x n
  | 0, _ => rfl
  | j + 1, h => by rw [runs_succ, xrow_pc (h j (by omega)), runs_pc j fun i hi => h i (by omega)]

/-- as a fold -/
def runsL (n : Nat) (x : Nat) (l : List Int) : Nat := l.foldl (fun y r => xrow y r.toNat n) x

theorem runs_fold (n x : Nat) (rs : List Int) : ∀ j, j ≤ rs.length → runs n x rs j = runsL n x (rs.take j)
  | 0, _ => rfl
  | j + 1, h => by
    rw [runs_succ, runs_fold n x rs j (by omega), take_succ_nth (by omega)]
    unfold runsL pl
    rw [List.foldl_append]; rfl

theorem runs_all (n x : Nat) (rs : List Int) : runs n x rs rs.length = runsL n x rs := by
  rw [runs_fold n x rs _ (Nat.le_refl _), List.take_length]

theorem runsL_back {n : Nat} : ∀ (l : List Int) (x : Nat), (∀ r ∈ l, Rnd n r.toNat ∧ Apart r.toNat) → runsL n (runsL n x l) l.reverse = x
  | [], x, _ => rfl
  | a :: t, x, h => by
    have ha := h a (List.mem_cons_self ..)
    have ih := runsL_back t (xrow x a.toNat n) (fun r hr => h r (List.mem_cons_of_mem _ hr))
    unfold runsL at ih ⊢
    rw [List.reverse_cons, List.foldl_append, List.foldl_cons, List.foldl_cons, List.foldl_nil, ih]
    exact xrow_back ha.1 ha.2 x

theorem runs_back {n x : Nat} {rs : List Int} (h : ∀ j, j < rs.length → Rnd n (pl rs j) ∧ Apart (pl rs j)) :
    runs n (runs n x rs rs.length) rs.reverse rs.reverse.length = x := by
  rw [runs_all, runs_all]
  refine runsL_back rs x fun r hr => ?_
  obtain ⟨j, hj, rfl⟩ := List.mem_iff_getElem.1 hr
  have := h j hj
  unfold pl at this
  rwa [nth_eq hj] at this

end Bw
