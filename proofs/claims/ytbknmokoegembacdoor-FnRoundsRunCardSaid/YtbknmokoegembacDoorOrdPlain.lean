/- Orders and moved bits: plain arithmetic. -/
import Derived.Test.YtbknmokoegembacDoorMPlain
import Derived.Test.YtbknmokoegembacDoorSlicePlain

namespace Bw
open Go Go.RowKit

theorem bit_toNat (x k : Nat) : x / 2 ^ k % 2 = (x.testBit k).toNat := by
  rw [Nat.testBit_eq_decide_div_mod_eq]
  rcases Nat.mod_two_eq_zero_or_one (x / 2 ^ k) with h | h <;> rw [h] <;> rfl

/-- how many of the first k bits are 1 -/
def pc (x : Nat) : Nat → Nat
  | 0 => 0
  | k + 1 => pc x k + (x.testBit k).toNat

theorem pc_succ (x k : Nat) : pc x (k + 1) = pc x k + (x.testBit k).toNat := rfl

theorem toNat_le (b : Bool) : b.toNat ≤ 1 := by cases b <;> decide

theorem pc_le (x : Nat) : ∀ k, pc x k ≤ k
  | 0 => Nat.le_refl _
  | k + 1 => by have := pc_le x k; have := toNat_le (x.testBit k); unfold pc; omega

theorem pc_or_bit {a i : Nat} (h : a.testBit i = false) : ∀ n, pc (a ||| 2 ^ i) n = pc a n + (if i < n then 1 else 0)
  | 0 => by simp [pc]
  | n + 1 => by
    unfold pc
    rw [pc_or_bit h n, Nat.testBit_or, Nat.testBit_two_pow]
    by_cases e : i = n
    · subst e; simp [h]
    · have e2 : (i < n + 1) = (i < n) := by apply propext; omega
      simp only [e, decide_false, Bool.or_false, e2]
      omega

theorem pc_full {a : Nat} : ∀ {n : Nat}, pc a n = n → ∀ k, k < n → a.testBit k = true
  | 0, _, k, hk => absurd hk (by omega)
  | n + 1, h, k, hk => by
    have h1 := pc_le a n
    have h2 := toNat_le (a.testBit n)
    unfold pc at h
    rcases Nat.lt_or_ge k n with hk' | hk'
    · exact pc_full (by omega) k hk'
    · have e : k = n := by omega
      subst e
      have h3 : (a.testBit k).toNat = 1 := by omega
      cases hb : a.testBit k
      · rw [hb] at h3; exact absurd h3 (by decide)
      · rfl

theorem pc_more {x n : Nat} (h : x < 2 ^ n) : ∀ m, pc x (n + m) = pc x n
  | 0 => rfl
  | m + 1 => by
    show pc x (n + m) + (x.testBit (n + m)).toNat = _
    rw [pc_more h m, testBit_of_lt h (by omega)]; rfl

theorem pc_congr {x y : Nat} : ∀ {n : Nat}, (∀ k, k < n → x.testBit k = y.testBit k) → pc x n = pc y n
  | 0, _ => rfl
  | n + 1, h => by unfold pc; rw [pc_congr (fun k hk => h k (by omega)), h n (by omega)]

theorem pc_all (n : Nat) : ∀ k, k ≤ n → pc (2 ^ n - 1) k = k
  | 0, _ => rfl
  | k + 1, h => by unfold pc; rw [pc_all n k (by omega), Nat.testBit_two_pow_sub_one]; simp; omega

theorem lt_of_bits {x n : Nat} (h : ∀ i, n ≤ i → x.testBit i = false) : x < 2 ^ n := Nat.lt_pow_two_of_testBit x h

/-- the place to which the bit j is moved -/
def pl (zs : List Int) (j : Nat) : Nat := (nth zs j).toNat

/-- a valid order -/
def OrderOk (zs : List Int) : Prop :=
  (1 ≤ zs.length ∧ zs.length ≤ 12) ∧ ∀ j, j < zs.length → (0 ≤ nth zs j ∧ nth zs j < zs.length) ∧ ∀ i, i < j → nth zs i ≠ nth zs j

theorem orderOk_dec (zs : List Int) : ∃ r : Bool, r = true ↔ OrderOk zs := by
  by_cases h : OrderOk zs
  · exact ⟨true, fun _ => h, fun _ => rfl⟩
  · exact ⟨false, (fun e => by cases e), fun h2 => absurd h2 h⟩

theorem OrderOk.pl_lt {zs : List Int} (h : OrderOk zs) {j : Nat} (hj : j < zs.length) : pl zs j < zs.length := by
  have := (h.2 j hj).1; unfold pl; omega

theorem OrderOk.pl_cast {zs : List Int} (h : OrderOk zs) {j : Nat} (hj : j < zs.length) : nth zs j = (pl zs j : Int) := by
  have := (h.2 j hj).1; unfold pl; omega

theorem OrderOk.pl_ne {zs : List Int} (h : OrderOk zs) {i j : Nat} (hi : i < zs.length) (hj : j < zs.length) (hne : i ≠ j) : pl zs i ≠ pl zs j := by
  intro e
  have hi2 := h.pl_cast hi
  have hj2 := h.pl_cast hj
  rcases Nat.lt_or_ge i j with hlt | hge
  · exact (h.2 j hj).2 i hlt (by rw [hi2, hj2, e])
  · exact (h.2 i hi).2 j (by omega) (by rw [hi2, hj2, e])

/-- moved bits, as far as the first k -/
def mv (x : Nat) (zs : List Int) : Nat → Nat
  | 0 => 0
  | k + 1 => mv x zs k + x / 2 ^ k % 2 * 2 ^ pl zs k

theorem mv_succ (x : Nat) (zs : List Int) (k : Nat) : mv x zs (k + 1) = mv x zs k + x / 2 ^ k % 2 * 2 ^ pl zs k := rfl

theorem testBit_mul_pow (b : Bool) (i j : Nat) : (b.toNat * 2 ^ i).testBit j = (b && decide (i = j)) := by
  cases b
  · simp
  · rw [show (true).toNat = 1 from rfl, Nat.one_mul, Nat.testBit_two_pow]; simp

theorem mv_test {zs : List Int} (h : OrderOk zs) (x : Nat) : ∀ k, k ≤ zs.length → (∀ i, (mv x zs k).testBit i = true ↔ ∃ j, j < k ∧ pl zs j = i ∧ x.testBit j = true) ∧ (k < zs.length → (mv x zs k).testBit (pl zs k) = false)
  | 0, _ => by
    refine ⟨fun i => ?_, fun _ => by simp [mv]⟩
    simp [mv]
  | k + 1, hk => by
    obtain ⟨ih, hfree⟩ := mv_test h x k (by omega)
    have hf := hfree (by omega)
    have e : mv x zs (k + 1) = mv x zs k ||| (x.testBit k).toNat * 2 ^ pl zs k := by
      rw [mv_succ, bit_toNat, or_bit_mul (toNat_le _) hf]
    have key : ∀ i, (mv x zs (k + 1)).testBit i = true ↔ ∃ j, j < k + 1 ∧ pl zs j = i ∧ x.testBit j = true := by
      intro i
      rw [e, Nat.testBit_or, testBit_mul_pow, Bool.or_eq_true, ih i, Bool.and_eq_true, decide_eq_true_eq]
      constructor
      · rintro (⟨j, hj, h1, h2⟩ | ⟨h1, h2⟩)
        · exact ⟨j, by omega, h1, h2⟩
        · exact ⟨k, by omega, h2, h1⟩
      · rintro ⟨j, hj, h1, h2⟩
        rcases Nat.lt_or_ge j k with h' | h'
        · exact .inl ⟨j, h', h1, h2⟩
        · have : j = k := by omega
          subst this
          exact .inr ⟨h2, h1⟩
    refine ⟨key, fun hlt => ?_⟩
    cases hb : (mv x zs (k + 1)).testBit (pl zs (k + 1))
    · rfl
    · obtain ⟨j, hj, h1, _⟩ := (key _).1 hb
      exact absurd h1 (h.pl_ne (by omega) hlt (by omega))

theorem mv_or {zs : List Int} (h : OrderOk zs) (x : Nat) {k : Nat} (hk : k < zs.length) : mv x zs k ||| x / 2 ^ k % 2 * 2 ^ pl zs k = mv x zs (k + 1) := by
  have hf := (mv_test h x k (by omega)).2 hk
  rw [mv_succ, bit_toNat, or_bit_mul (toNat_le _) hf]

theorem mv_lt {zs : List Int} (h : OrderOk zs) (x : Nat) {k : Nat} (hk : k ≤ zs.length) : mv x zs k < 2 ^ zs.length := by
  refine lt_of_bits fun i hi => ?_
  cases hb : (mv x zs k).testBit i
  · rfl
  · obtain ⟨j, hj, h1, _⟩ := ((mv_test h x k hk).1 i).1 hb
    have := h.pl_lt (show j < zs.length by omega)
    omega

theorem mv_pc {zs : List Int} (h : OrderOk zs) (x : Nat) : ∀ k, k ≤ zs.length → pc (mv x zs k) zs.length = pc x k
  | 0, _ => by
    show pc 0 zs.length = 0
    have : ∀ n, pc 0 n = 0 := by
      intro n
      induction n with
      | zero => rfl
      | succ n ih => unfold pc; rw [ih]; simp
    exact this _
  | k + 1, hk => by
    have ih := mv_pc h x k (by omega)
    have hf := (mv_test h x k (by omega)).2 (by omega)
    have hp := h.pl_lt (show k < zs.length by omega)
    rw [mv_succ, pc_succ, bit_toNat]
    cases hb : x.testBit k
    · simp [ih]
    · rw [show (true).toNat = 1 from rfl, Nat.one_mul, ← or_bit hf, pc_or_bit hf, ih, if_pos hp]

theorem pl_onto {zs : List Int} (h : OrderOk zs) {i : Nat} (hi : i < zs.length) : ∃ j, j < zs.length ∧ pl zs j = i := by
  have h1 := mv_pc h (2 ^ zs.length - 1) zs.length (Nat.le_refl _)
  rw [pc_all _ _ (Nat.le_refl _)] at h1
  obtain ⟨j, hj, h2, _⟩ := ((mv_test h (2 ^ zs.length - 1) zs.length (Nat.le_refl _)).1 i).1 (pc_full h1 i hi)
  exact ⟨j, hj, h2⟩

theorem mv_bit {zs : List Int} (h : OrderOk zs) (x : Nat) {j : Nat} (hj : j < zs.length) : (mv x zs zs.length).testBit (pl zs j) = x.testBit j := by
  have ht := (mv_test h x zs.length (Nat.le_refl _)).1 (pl zs j)
  cases hb : x.testBit j
  · cases hm : (mv x zs zs.length).testBit (pl zs j)
    · rfl
    · obtain ⟨i, hi, h1, h2⟩ := ht.1 hm
      by_cases e : i = j
      · subst e; rw [hb] at h2; cases h2
      · exact absurd h1 (h.pl_ne hi hj e)
  · exact ht.2 ⟨j, hj, rfl, hb⟩

theorem mv_ext {zs : List Int} (h : OrderOk zs) {x y : Nat} (hx : x < 2 ^ zs.length) (hy : y < 2 ^ zs.length) (hb : ∀ j, j < zs.length → x.testBit (pl zs j) = y.testBit (pl zs j)) : x = y := by
  apply Nat.eq_of_testBit_eq
  intro i
  rcases Nat.lt_or_ge i zs.length with hi | hi
  · obtain ⟨j, hj, rfl⟩ := pl_onto h hi
    exact hb j hj
  · rw [testBit_of_lt hx hi, testBit_of_lt hy hi]

theorem mv_pow {zs : List Int} (h : OrderOk zs) {k : Nat} (hk : k < zs.length) : mv (2 ^ k) zs zs.length = 2 ^ pl zs k := by
  refine mv_ext h (mv_lt h _ (Nat.le_refl _)) (Nat.pow_lt_pow_right (by omega) (h.pl_lt hk)) fun j hj => ?_
  rw [mv_bit h _ hj, Nat.testBit_two_pow, Nat.testBit_two_pow]
  by_cases e : k = j
  · subst e; simp
  · simp [e, h.pl_ne hk hj e]

theorem mv_xor {zs : List Int} (h : OrderOk zs) (x y : Nat) : mv (x ^^^ y) zs zs.length = mv x zs zs.length ^^^ mv y zs zs.length := by
  refine mv_ext h (mv_lt h _ (Nat.le_refl _)) (Nat.xor_lt_two_pow (mv_lt h _ (Nat.le_refl _)) (mv_lt h _ (Nat.le_refl _))) fun j hj => ?_
  rw [mv_bit h _ hj, Nat.testBit_xor, Nat.testBit_xor, mv_bit h _ hj, mv_bit h _ hj]

/-! one order after the other -/
def thn (a b : List Int) : List Int := a.map fun z => nth b z.toNat

theorem thn_length (a b : List Int) : (thn a b).length = a.length := by simp [thn]

theorem nth_map (f : Int → Int) {zs : List Int} {j : Nat} (hj : j < zs.length) : nth (zs.map f) j = f (nth zs j) := by
  rw [nth_eq (by simpa using hj), nth_eq hj]; simp

theorem thn_nth {a b : List Int} {j : Nat} (hj : j < a.length) : nth (thn a b) j = nth b (pl a j) := nth_map _ hj

theorem thn_ok {a b : List Int} (ha : OrderOk a) (hb : OrderOk b) (hl : a.length = b.length) : OrderOk (thn a b) := by
  refine ⟨by rw [thn_length]; exact ha.1, fun j hj => ?_⟩
  rw [thn_length] at hj ⊢
  have hp := ha.pl_lt hj
  refine ⟨by rw [thn_nth hj, hl]; exact (hb.2 _ (by omega)).1, fun i hi => ?_⟩
  rw [thn_nth hj, thn_nth (by omega)]
  have hne := ha.pl_ne (show i < a.length by omega) hj (by omega)
  have hpi := ha.pl_lt (show i < a.length by omega)
  have := hb.pl_ne (show pl a i < b.length by omega) (show pl a j < b.length by omega) hne
  rw [hb.pl_cast (by omega), hb.pl_cast (by omega)]
  omega

/-! back -/
def bk (zs : List Int) : Nat → List Int
  | 0 => List.replicate zs.length 0
  | k + 1 => (bk zs k).set (pl zs k) (k : Int)

theorem bk_length (zs : List Int) : ∀ k, (bk zs k).length = zs.length
  | 0 => by simp [bk]
  | k + 1 => by simp [bk, bk_length zs k]

theorem nth_put {zs : List Int} {j i : Nat} {x : Int} (hj : j < zs.length) : nth (zs.set j x) i = if i = j then x else nth zs i := by
  unfold nth
  rw [List.getD_eq_getElem?_getD, List.getD_eq_getElem?_getD, List.getElem?_set]
  by_cases h : j = i
  · subst h; simp [hj]
  · have h' : ¬ i = j := fun e => h e.symm
    simp [h, h']

theorem bk_nth {zs : List Int} (h : OrderOk zs) : ∀ k, k ≤ zs.length → ∀ j, j < k → nth (bk zs k) (pl zs j) = (j : Int)
  | 0, _, j, hj => absurd hj (by omega)
  | k + 1, hk, j, hj => by
    have hp := h.pl_lt (show k < zs.length by omega)
    unfold bk
    rw [nth_put (by rw [bk_length]; exact hp)]
    by_cases e : j = k
    · subst e; simp
    · rw [if_neg (h.pl_ne (by omega) (by omega) e)]
      exact bk_nth h k (by omega) j (by omega)

theorem bk_ok {zs : List Int} (h : OrderOk zs) : OrderOk (bk zs zs.length) := by
  have hb := bk_nth h zs.length (Nat.le_refl _)
  refine ⟨by rw [bk_length]; exact h.1, fun i hi => ?_⟩
  rw [bk_length] at hi ⊢
  obtain ⟨j, hj, rfl⟩ := pl_onto h hi
  refine ⟨by rw [hb j hj]; omega, fun i hi2 => ?_⟩
  obtain ⟨j2, hj2, rfl⟩ := pl_onto h (show i < zs.length by omega)
  rw [hb j hj, hb j2 hj2]
  intro e
  have : j2 = j := by omega
  subst this
  omega

theorem bk_pl {zs : List Int} (h : OrderOk zs) {j : Nat} (hj : j < zs.length) : pl (bk zs zs.length) (pl zs j) = j := by
  have := bk_nth h zs.length (Nat.le_refl _) j hj
  unfold pl at this ⊢
  rw [this]; simp

theorem bk_bk {zs : List Int} (h : OrderOk zs) : bk (bk zs zs.length) zs.length = zs := by
  have h2 := bk_ok h
  have hb2 := bk_nth h2 zs.length (by rw [bk_length]; exact Nat.le_refl _)
  refine eq_of_nth (by rw [bk_length, bk_length]) fun j hj => ?_
  rw [bk_length, bk_length] at hj
  have := hb2 (pl zs j) (h.pl_lt hj)
  rw [bk_pl h hj] at this
  rw [this, h.pl_cast hj]

end Bw
