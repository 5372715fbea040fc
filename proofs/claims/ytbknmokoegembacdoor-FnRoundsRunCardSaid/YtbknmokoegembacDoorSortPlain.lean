/- Rounds of neighbours sort: plain arithmetic. All words of at most 12 bits are sorted at once: one number holds one place of all words. -/
import Derived.Test.YtbknmokoegembacDoorOrdPlain

namespace Bw
open Go Go.RowKit

/-! rounds over whatever is compared -/
section
variable {α β : Type}

/-- the pairs from the first place on -/
def rnd0 (lo hi : α → α → α) : List α → List α
  | a :: b :: t => lo a b :: hi a b :: rnd0 lo hi t
  | [a] => [a]
  | [] => []

/-- the pairs from the second place on -/
def rnd1 (lo hi : α → α → α) : List α → List α
  | a :: t => a :: rnd0 lo hi t
  | [] => []

/-- the first r rounds -/
def rnds (lo hi : α → α → α) (l : List α) : Nat → List α
  | 0 => l
  | r + 1 => if r % 2 = 0 then rnd0 lo hi (rnds lo hi l r) else rnd1 lo hi (rnds lo hi l r)

theorem rnd0_map {lo hi : α → α → α} {lo' hi' : β → β → β} {h : α → β} (hl : ∀ a b, h (lo a b) = lo' (h a) (h b)) (hh : ∀ a b, h (hi a b) = hi' (h a) (h b)) :
    ∀ l, (rnd0 lo hi l).map h = rnd0 lo' hi' (l.map h)
  | [] => rfl
  | [a] => rfl
  | a :: b :: t => by simp only [rnd0, List.map_cons, hl, hh, rnd0_map hl hh t]

theorem rnd1_map {lo hi : α → α → α} {lo' hi' : β → β → β} {h : α → β} (hl : ∀ a b, h (lo a b) = lo' (h a) (h b)) (hh : ∀ a b, h (hi a b) = hi' (h a) (h b)) (l : List α) :
    (rnd1 lo hi l).map h = rnd1 lo' hi' (l.map h) := by
  cases l with
  | nil => rfl
  | cons a t => simp only [rnd1, List.map_cons, rnd0_map hl hh t]

theorem rnds_map {lo hi : α → α → α} {lo' hi' : β → β → β} {h : α → β} (hl : ∀ a b, h (lo a b) = lo' (h a) (h b)) (hh : ∀ a b, h (hi a b) = hi' (h a) (h b)) (l : List α) :
    ∀ r, (rnds lo hi l r).map h = rnds lo' hi' (l.map h) r
  | 0 => rfl
  | r + 1 => by
    unfold rnds
    split
    · rw [rnd0_map hl hh, rnds_map hl hh l r]
    · rw [rnd1_map hl hh, rnds_map hl hh l r]

theorem rnd0_length (lo hi : α → α → α) : ∀ l, (rnd0 lo hi l).length = l.length
  | [] => rfl
  | [_] => rfl
  | a :: b :: t => by simp [rnd0, rnd0_length lo hi t]

theorem rnd1_length (lo hi : α → α → α) (l : List α) : (rnd1 lo hi l).length = l.length := by
  cases l with
  | nil => rfl
  | cons a t => simp [rnd1, rnd0_length]

theorem rnds_length (lo hi : α → α → α) (l : List α) : ∀ r, (rnds lo hi l r).length = l.length
  | 0 => rfl
  | r + 1 => by
    unfold rnds
    split
    · rw [rnd0_length, rnds_length lo hi l r]
    · rw [rnd1_length, rnds_length lo hi l r]
end

/-! all words at once -/
def cols : Nat → List Nat
  | 0 => []
  | n + 1 => (cols n).map (fun c => 2 ^ 2 ^ n * c + c) ++ [2 ^ 2 ^ n * (2 ^ 2 ^ n - 1)]

def asc : List Nat → Bool
  | a :: b :: t => Nat.beq (Nat.land a b) a && asc (b :: t)
  | [_] => true
  | [] => true

theorem asc_chk : (List.range 13).all (fun n => asc (rnds Nat.land Nat.lor (cols n) n)) = true := by decide +kernel

theorem cols_lt : ∀ n, ∀ c ∈ cols n, c < 2 ^ 2 ^ n
  | 0, c, h => by simp [cols] at h
  | n + 1, c, h => by
    unfold cols at h
    have hp := Nat.two_pow_pos (2 ^ n)
    have e : 2 ^ 2 ^ (n + 1) = 2 ^ 2 ^ n * 2 ^ 2 ^ n := by rw [← Nat.pow_add]; congr 1; rw [Nat.pow_succ]; omega
    rw [e]
    generalize hq : 2 ^ 2 ^ n = q at *
    have hk : ∀ d, d < q → q * d + q ≤ q * q := fun d hd => by
      have := Nat.mul_le_mul_left q (show d + 1 ≤ q by omega)
      rw [Nat.mul_add, Nat.mul_one] at this
      exact this
    rw [List.mem_append, List.mem_map] at h
    rcases h with ⟨d, hd, rfl⟩ | h
    · have h1 := cols_lt n d hd
      rw [hq] at h1
      have := hk d h1
      omega
    · rw [List.mem_singleton] at h
      subst h
      have := hk (q - 1) (by omega)
      omega

theorem cols_bit : ∀ (n x : Nat), x < 2 ^ n → (cols n).map (fun c => c.testBit x) = (List.range n).map x.testBit
  | 0, x, _ => rfl
  | n + 1, x, hx => by
    have hp := Nat.two_pow_pos n
    have hy := Nat.mod_lt x hp
    have ih := cols_bit n (x % 2 ^ n) hy
    rw [Nat.pow_succ] at hx
    unfold cols
    rw [List.map_append, List.range_succ, List.map_append, List.map_map]
    congr 1
    · have e1 : (List.range n).map x.testBit = (List.range n).map (x % 2 ^ n).testBit := by
        apply List.map_congr_left
        intro k hk
        rw [Nat.testBit_mod_two_pow]
        simp [List.mem_range.1 hk]
      rw [e1, ← ih]
      apply List.map_congr_left
      intro c hc
      show (2 ^ 2 ^ n * c + c).testBit x = c.testBit (x % 2 ^ n)
      rw [Nat.testBit_two_pow_mul_add _ (cols_lt n c hc)]
      by_cases h : x < 2 ^ n
      · rw [if_pos h, Nat.mod_eq_of_lt h]
      · rw [if_neg h]
        congr 1
        rw [Nat.mod_eq_sub_mod (by omega), Nat.mod_eq_of_lt (by omega)]
    · show [_] = [_]
      congr 1
      have hq := Nat.two_pow_pos (2 ^ n)
      have e := Nat.testBit_two_pow_mul_add (2 ^ 2 ^ n - 1) hq x
      rw [Nat.add_zero] at e
      show (2 ^ 2 ^ n * (2 ^ 2 ^ n - 1)).testBit x = x.testBit n
      rw [e]
      by_cases h : x < 2 ^ n
      · rw [if_pos h, Nat.zero_testBit, testBit_of_lt h (Nat.le_refl _)]
      · rw [if_neg h, Nat.testBit_two_pow_sub_one, Nat.testBit_eq_decide_div_mod_eq]
        have h1 : x / 2 ^ n = 1 := by
          rw [Nat.div_eq_iff (by omega)]; omega
        rw [h1]
        have h2 : x - 2 ^ n < 2 ^ n := by omega
        simp [h2]

/-- a word by its bits -/
def ofb : List Bool → Nat
  | [] => 0
  | b :: t => 2 * ofb t + b.toNat

theorem ofb_lt : ∀ l : List Bool, ofb l < 2 ^ l.length
  | [] => by simp [ofb]
  | b :: t => by
    have := ofb_lt t
    have := toNat_le b
    simp only [ofb, List.length_cons, Nat.pow_succ]
    omega

theorem ofb_bits : ∀ l : List Bool, (List.range l.length).map (ofb l).testBit = l
  | [] => rfl
  | b :: t => by
    have ih := ofb_bits t
    rw [List.length_cons, List.range_succ_eq_map, List.map_cons, List.map_map]
    congr 1
    · simp only [ofb]
      cases b <;> simp [Nat.testBit_zero] <;> omega
    · refine Eq.trans ?_ ih
      apply List.map_congr_left
      intro k _
      show (2 * ofb t + b.toNat).testBit (k + 1) = _
      rw [Nat.testBit_succ]
      congr 1
      have := toNat_le b
      omega

def ascB : List Bool → Bool
  | a :: b :: t => (!a || b) && ascB (b :: t)
  | [_] => true
  | [] => true

theorem asc_slice (x : Nat) : ∀ l : List Nat, asc l = true → ascB (l.map fun c => c.testBit x) = true
  | [], _ => rfl
  | [_], _ => rfl
  | a :: b :: t, h => by
    simp only [asc, Bool.and_eq_true] at h
    have ih := asc_slice x (b :: t) h.2
    have e : a &&& b = a := Nat.eq_of_beq_eq_true h.1
    have e2 : (a &&& b).testBit x = a.testBit x := by rw [e]
    rw [Nat.testBit_and] at e2
    simp only [List.map_cons] at ih ⊢
    simp only [ascB, Bool.and_eq_true]
    refine ⟨?_, ih⟩
    cases ha : a.testBit x <;> cases hb : b.testBit x <;> simp_all

theorem bools_sorted (l : List Bool) (hl : l.length ≤ 12) : ascB (rnds and or l l.length) = true := by
  have h1 := List.all_eq_true.1 asc_chk l.length (List.mem_range.2 (by omega))
  have h2 := asc_slice (ofb l) _ h1
  have h3 := rnds_map (lo := Nat.land) (hi := Nat.lor) (lo' := and) (hi' := or) (h := fun c => c.testBit (ofb l)) (fun a b => Nat.testBit_and a b _) (fun a b => Nat.testBit_or a b _) (cols l.length) l.length
  rw [h3, cols_bit _ _ (ofb_lt l), ofb_bits] at h2
  exact h2

/-! numbers -/
def imin (a b : Int) : Int := if b < a then b else a

def imax (a b : Int) : Int := if b < a then a else b

theorem imin_ge (t a b : Int) : decide (t ≤ imin a b) = (decide (t ≤ a) && decide (t ≤ b)) := by
  unfold imin
  rw [Bool.eq_iff_iff, Bool.and_eq_true, decide_eq_true_eq, decide_eq_true_eq, decide_eq_true_eq]
  split <;> omega

theorem imax_ge (t a b : Int) : decide (t ≤ imax a b) = (decide (t ≤ a) || decide (t ≤ b)) := by
  unfold imax
  rw [Bool.eq_iff_iff, Bool.or_eq_true, decide_eq_true_eq, decide_eq_true_eq, decide_eq_true_eq]
  split <;> omega

theorem asc_of_all : ∀ l : List Int, (∀ t : Int, ascB (l.map fun z => decide (t ≤ z)) = true) → ∀ k, k + 1 < l.length → nth l k ≤ nth l (k + 1)
  | [], _, k, hk => absurd hk (by simp)
  | [_], _, k, hk => absurd hk (by simp)
  | a :: b :: t, h, k, hk => by
    have h2 : ∀ s : Int, ascB ((b :: t).map fun z => decide (s ≤ z)) = true := fun s => by
      have := h s
      simp only [List.map_cons, ascB, Bool.and_eq_true] at this
      exact this.2
    cases k with
    | zero =>
      have := h a
      simp only [List.map_cons, ascB, Bool.and_eq_true] at this
      have h3 := this.1
      simp at h3
      exact h3
    | succ k => exact asc_of_all (b :: t) h2 k (by simp at hk ⊢; omega)

theorem ints_sorted (l : List Int) (hl : l.length ≤ 12) : ∀ k, k + 1 < l.length → nth (rnds imin imax l l.length) k ≤ nth (rnds imin imax l l.length) (k + 1) := by
  intro k hk
  refine asc_of_all _ (fun t => ?_) k (by rw [rnds_length]; exact hk)
  rw [rnds_map (lo' := and) (hi' := or) (imin_ge t) (imax_ge t)]
  have := bools_sorted (l.map fun z => decide (t ≤ z)) (by simpa using hl)
  rwa [List.length_map] at this

/-! one exchange after the other -/
def cx (l : List Int) (k : Nat) : List Int := if nth l (k + 1) < nth l k then (l.set k (nth l (k + 1))).set (k + 1) (nth l k) else l

/-- the first j exchanges of a round that begins at place p -/
def sq (l : List Int) (p : Nat) : Nat → List Int
  | 0 => l
  | j + 1 => cx (sq l p j) (p + 2 * j)

theorem sq_succ (l : List Int) (p j : Nat) : sq l p (j + 1) = cx (sq l p j) (p + 2 * j) := rfl

theorem cx_length (l : List Int) (k : Nat) : (cx l k).length = l.length := by
  unfold cx; split <;> simp

theorem sq_length (l : List Int) (p : Nat) : ∀ j, (sq l p j).length = l.length
  | 0 => rfl
  | j + 1 => by rw [sq_succ, cx_length, sq_length l p j]

theorem cx_cons (a : Int) (t : List Int) (k : Nat) : cx (a :: t) (k + 1) = a :: cx t k := by
  have e1 : nth (a :: t) (k + 1) = nth t k := rfl
  have e2 : nth (a :: t) (k + 1 + 1) = nth t (k + 1) := rfl
  unfold cx
  rw [e1, e2]
  split <;> simp

theorem cx_front (a b : Int) (t : List Int) : cx (a :: b :: t) 0 = imin a b :: imax a b :: t := by
  have e1 : nth (a :: b :: t) 0 = a := rfl
  have e2 : nth (a :: b :: t) (0 + 1) = b := rfl
  unfold cx imin imax
  rw [e1, e2]
  split <;> simp

theorem sq_two (a b : Int) (t : List Int) : ∀ j, sq (a :: b :: t) 0 (j + 1) = imin a b :: imax a b :: sq t 0 j
  | 0 => by rw [sq_succ]; exact cx_front a b t
  | j + 1 => by
    rw [sq_succ, sq_two a b t j, show 0 + 2 * (j + 1) = (2 * j + 1) + 1 by omega, cx_cons, cx_cons, sq_succ, Nat.zero_add]

theorem sq_cons (a : Int) (t : List Int) : ∀ j, sq (a :: t) 1 j = a :: sq t 0 j
  | 0 => rfl
  | j + 1 => by rw [sq_succ, sq_cons a t j, show 1 + 2 * j = 2 * j + 1 by omega, cx_cons, sq_succ, Nat.zero_add]

theorem sq_zero : ∀ l : List Int, sq l 0 (l.length / 2) = rnd0 imin imax l
  | [] => rfl
  | [_] => by simp [sq, rnd0]
  | a :: b :: t => by
    have e : (a :: b :: t).length / 2 = t.length / 2 + 1 := by simp only [List.length_cons]; omega
    rw [e, sq_two, sq_zero t]; rfl

theorem sq_one (l : List Int) : sq l 1 ((l.length - 1) / 2) = rnd1 imin imax l := by
  cases l with
  | nil => rfl
  | cons a t =>
    have e : ((a :: t).length - 1) / 2 = t.length / 2 := by simp
    rw [e, sq_cons, sq_zero]; rfl

/-- the first r rounds, one exchange after the other -/
def sqs (l : List Int) : Nat → List Int
  | 0 => l
  | r + 1 => sq (sqs l r) (r % 2) ((l.length - r % 2) / 2)

theorem sqs_succ (l : List Int) (r : Nat) : sqs l (r + 1) = sq (sqs l r) (r % 2) ((l.length - r % 2) / 2) := rfl

theorem sqs_length (l : List Int) : ∀ r, (sqs l r).length = l.length
  | 0 => rfl
  | r + 1 => by rw [sqs_succ, sq_length, sqs_length l r]

theorem sqs_eq (l : List Int) : ∀ r, sqs l r = rnds imin imax l r
  | 0 => rfl
  | r + 1 => by
    have hl := sqs_length l r
    rw [sqs_succ]
    unfold rnds
    rw [← sqs_eq l r]
    split
    · rename_i h
      rw [h, Nat.sub_zero, ← hl, sq_zero]
    · have h1 : r % 2 = 1 := by omega
      rw [h1, ← hl, sq_one]

theorem sqs_sorted (l : List Int) (hl : l.length ≤ 12) : ∀ k, k + 1 < l.length → nth (sqs l l.length) k ≤ nth (sqs l l.length) (k + 1) := by
  intro k hk
  rw [sqs_eq]; exact ints_sorted l hl k hk

/-! bits of a word -/
/-- one exchange -/
def sstep (x k : Nat) : Nat := if x / 2 ^ k % 2 = 1 ∧ x / 2 ^ (k + 1) % 2 = 0 then x + 2 ^ k else x

/-- the first j exchanges of a round that begins at place p -/
def srow (x p : Nat) : Nat → Nat
  | 0 => x
  | j + 1 => sstep (srow x p j) (p + 2 * j)

/-- the first r rounds -/
def srounds (n x : Nat) : Nat → Nat
  | 0 => x
  | r + 1 => srow (srounds n x r) (r % 2) ((n - r % 2) / 2)

/-- bounds that need no thought of bits -/
theorem sstep_bd {x k b : Nat} (h : x ≤ b) (hk : k ≤ 11) : sstep x k ≤ b + 2048 := by
  have : 2 ^ k ≤ 2 ^ 11 := Nat.pow_le_pow_right (by omega) hk
  unfold sstep
  split <;> omega

theorem sstep_le (x k : Nat) : x ≤ sstep x k := by
  unfold sstep
  split
  · exact Nat.le_add_right _ _
  · exact Nat.le_refl _

theorem srow_le (x p : Nat) : ∀ j, x ≤ srow x p j
  | 0 => Nat.le_refl _
  | j + 1 => Nat.le_trans (srow_le x p j) (sstep_le _ _)

theorem srounds_le (n x : Nat) : ∀ r, x ≤ srounds n x r
  | 0 => Nat.le_refl _
  | r + 1 => Nat.le_trans (srounds_le n x r) (srow_le _ _ _)

/-- an exchange of a 1 below and a 0 above -/
theorem exch {x k : Nat} (h1 : x.testBit k = true) (h2 : x.testBit (k + 1) = false) : ∃ y, y.testBit k = false ∧ y.testBit (k + 1) = false ∧ x = y ||| 2 ^ k ∧ x + 2 ^ k = y ||| 2 ^ (k + 1) := by
  have hy1 : (x ^^^ 2 ^ k).testBit k = false := by rw [Nat.testBit_xor, Nat.testBit_two_pow, h1]; simp
  have hy2 : (x ^^^ 2 ^ k).testBit (k + 1) = false := by rw [Nat.testBit_xor, Nat.testBit_two_pow, h2]; simp
  have e : x = (x ^^^ 2 ^ k) ||| 2 ^ k := by
    apply Nat.eq_of_testBit_eq
    intro i
    rw [Nat.testBit_or, Nat.testBit_xor, Nat.testBit_two_pow]
    by_cases hi : k = i
    · subst hi; simp [h1]
    · simp [hi]
  refine ⟨x ^^^ 2 ^ k, hy1, hy2, e, ?_⟩
  rw [or_bit hy2]
  rw [or_bit hy1] at e
  rw [Nat.pow_succ]
  omega

theorem sstep_cases (x k : Nat) : (sstep x k = x ∧ (x.testBit k = true → x.testBit (k + 1) = true)) ∨ (x.testBit k = true ∧ x.testBit (k + 1) = false ∧ sstep x k = x + 2 ^ k) := by
  unfold sstep
  rw [bit_toNat, bit_toNat]
  cases h1 : x.testBit k <;> cases h2 : x.testBit (k + 1) <;> simp

theorem sstep_pc {x k n : Nat} (hk : k + 1 < n) : pc (sstep x k) n = pc x n := by
  rcases sstep_cases x k with ⟨e, _⟩ | ⟨h1, h2, e⟩
  · rw [e]
  · obtain ⟨y, y1, y2, ex, ey⟩ := exch h1 h2
    rw [e, ey, pc_or_bit y2, ex, pc_or_bit y1, if_pos hk, if_pos (by omega)]

theorem sstep_bit {x k : Nat} (i : Nat) : (sstep x k).testBit i = if i = k then x.testBit k && x.testBit (k + 1) else if i = k + 1 then x.testBit k || x.testBit (k + 1) else x.testBit i := by
  rcases sstep_cases x k with ⟨e, hb⟩ | ⟨h1, h2, e⟩
  · rw [e]
    by_cases hi : i = k
    · subst hi; rw [if_pos rfl]; cases h : x.testBit i <;> simp_all
    · rw [if_neg hi]
      by_cases hi2 : i = k + 1
      · subst hi2; rw [if_pos rfl]; cases h : x.testBit k <;> simp_all
      · rw [if_neg hi2]
  · obtain ⟨y, y1, y2, ex, ey⟩ := exch h1 h2
    rw [e, ey, Nat.testBit_or, Nat.testBit_two_pow]
    by_cases hi : i = k
    · subst hi; simp [y1, h1, h2]
    · rw [if_neg hi]
      by_cases hi2 : i = k + 1
      · subst hi2; simp [h1]
      · rw [if_neg hi2, ex, Nat.testBit_or, Nat.testBit_two_pow]
        have e1 : ¬ k + 1 = i := fun h => hi2 h.symm
        have e2 : ¬ k = i := fun h => hi h.symm
        simp [e1, e2]

def bitsI (x n : Nat) : List Int := (List.range n).map fun k => ((x.testBit k).toNat : Int)

theorem bitsI_length (x n : Nat) : (bitsI x n).length = n := by simp [bitsI]

theorem bitsI_nth {x n k : Nat} (hk : k < n) : nth (bitsI x n) k = ((x.testBit k).toNat : Int) := by
  rw [nth_eq (by rw [bitsI_length]; exact hk)]; simp [bitsI]

theorem sstep_bits {x n k : Nat} (hk : k + 1 < n) : bitsI (sstep x k) n = cx (bitsI x n) k := by
  refine eq_of_nth (by rw [cx_length, bitsI_length, bitsI_length]) fun i hi => ?_
  rw [bitsI_length] at hi
  rw [bitsI_nth hi, sstep_bit]
  have l1 : (bitsI x n).length = n := bitsI_length x n
  unfold cx
  rw [bitsI_nth (show k < n by omega), bitsI_nth hk]
  by_cases hc : (((x.testBit (k + 1)).toNat : Nat) : Int) < ((x.testBit k).toNat : Nat)
  · have hb : x.testBit k = true ∧ x.testBit (k + 1) = false := by
      cases h1 : x.testBit k <;> cases h2 : x.testBit (k + 1) <;> simp_all
    rw [if_pos hc, nth_put (by rw [List.length_set, l1]; omega), nth_put (by rw [l1]; omega), bitsI_nth hi, hb.1, hb.2]
    by_cases e : i = k
    · subst e; simp
    · by_cases e2 : i = k + 1
      · subst e2; simp
      · simp [e, e2]
  · rw [if_neg hc, bitsI_nth hi]
    have hb : x.testBit k = true → x.testBit (k + 1) = true := by
      cases h1 : x.testBit k <;> cases h2 : x.testBit (k + 1) <;> simp_all
    by_cases e : i = k
    · subst e; rw [if_pos rfl]; cases h1 : x.testBit i <;> simp_all
    · by_cases e2 : i = k + 1
      · subst e2; rw [if_neg e, if_pos rfl]; cases h1 : x.testBit k <;> simp_all
      · rw [if_neg e, if_neg e2]

theorem srow_bits {x n p : Nat} : ∀ j, (j = 0 ∨ p + 2 * j ≤ n) → bitsI (srow x p j) n = sq (bitsI x n) p j ∧ pc (srow x p j) n = pc x n
  | 0, _ => ⟨rfl, rfl⟩
  | j + 1, hj => by
    have ih := srow_bits (x := x) (n := n) (p := p) j (by omega)
    show bitsI (sstep (srow x p j) (p + 2 * j)) n = _ ∧ pc (sstep (srow x p j) (p + 2 * j)) n = _
    rw [sstep_bits (by omega), sstep_pc (by omega), sq_succ, ih.1]
    exact ⟨rfl, ih.2⟩

theorem srounds_bits {x n : Nat} : ∀ r, bitsI (srounds n x r) n = sqs (bitsI x n) r ∧ pc (srounds n x r) n = pc x n
  | 0 => ⟨rfl, rfl⟩
  | r + 1 => by
    have ih := srounds_bits (x := x) (n := n) r
    have hs := srow_bits (x := srounds n x r) (n := n) (p := r % 2) ((n - r % 2) / 2) (by omega)
    show bitsI (srow (srounds n x r) (r % 2) ((n - r % 2) / 2)) n = _ ∧ pc (srow (srounds n x r) (r % 2) ((n - r % 2) / 2)) n = _
    rw [hs.1, hs.2, sqs_succ, bitsI_length, ih.1]
    exact ⟨rfl, ih.2⟩

/-- the greatest word of n bits with o ones -/
def greatestOf (n o : Nat) : Nat := (2 ^ o - 1) * 2 ^ (n - o)

theorem greatestOf_bit {n o i : Nat} (h : o ≤ n) : (greatestOf n o).testBit i = (decide (n - o ≤ i) && decide (i < n)) := by
  unfold greatestOf
  rw [Nat.mul_comm, Nat.testBit_two_pow_mul, Nat.testBit_two_pow_sub_one]
  by_cases h1 : n - o ≤ i
  · have : (i - (n - o) < o) = (i < n) := by apply propext; omega
    simp [h1, this]
  · simp [h1]

theorem greatestOf_lt {n o : Nat} (h : o ≤ n) : greatestOf n o < 2 ^ n :=
  lt_of_bits fun i hi => by rw [greatestOf_bit h]; simp; omega

/-- sorted bits are known by how many are 1 -/
theorem sorted_bits {x : Nat} : ∀ {n : Nat}, (∀ k, k + 1 < n → x.testBit k = true → x.testBit (k + 1) = true) → ∀ i, i < n → x.testBit i = decide (n - pc x n ≤ i)
  | 0, _, i, hi => absurd hi (by omega)
  | n + 1, h, i, hi => by
    have hp := pc_le x n
    rw [pc_succ]
    cases hb : x.testBit n
    · have hall : ∀ d j, j + d = n → x.testBit j = false := by
        intro d
        induction d with
        | zero => intro j hj; have : j = n := by omega
                  rw [this]; exact hb
        | succ d ih =>
          intro j hj
          cases hx : x.testBit j
          · rfl
          · have := h j (by omega) hx
            rw [ih (j + 1) (by omega)] at this
            cases this
      have hz : pc x n = 0 := by
        have h0 : pc x n = pc 0 n := pc_congr fun k hk => by rw [hall (n - k) k (by omega)]; simp
        have : ∀ n, pc 0 n = 0 := by
          intro n
          induction n with
          | zero => rfl
          | succ n ih => rw [pc_succ, ih]; simp
        rw [h0, this]
      rw [hall (n - i) i (by omega), hz]
      simp; omega
    · have ih := sorted_bits (x := x) (n := n) (fun k hk => h k (by omega))
      rcases Nat.lt_or_ge i n with hi2 | hi2
      · rw [ih i hi2]
        show decide (n - pc x n ≤ i) = decide (n + 1 - (pc x n + 1) ≤ i)
        rw [Nat.add_sub_add_right]
      · have e : i = n := by omega
        subst e
        rw [hb]
        symm
        rw [decide_eq_true_eq]
        show i + 1 - (pc x i + 1) ≤ i
        omega

theorem srounds_top {x n : Nat} (h : ∀ i, n ≤ i → x.testBit i = false) : ∀ r i, n ≤ i → (srounds n x r).testBit i = false
  | 0, i, hi => h i hi
  | r + 1, i, hi => by
    have ih := srounds_top h r
    have hrow : ∀ j, (j = 0 ∨ r % 2 + 2 * j ≤ n) → (srow (srounds n x r) (r % 2) j).testBit i = false := by
      intro j
      induction j with
      | zero => intro _; exact ih i hi
      | succ j ihj =>
        intro hj
        show (sstep (srow (srounds n x r) (r % 2) j) (r % 2 + 2 * j)).testBit i = false
        rw [sstep_bit, if_neg (by omega), if_neg (by omega)]
        exact ihj (by omega)
    exact hrow _ (by omega)

theorem srounds_eq {n x : Nat} (hn : n ≤ 12) (hx : x < 2 ^ n) : srounds n x n = greatestOf n (pc x n) := by
  obtain ⟨hb, hp⟩ := srounds_bits (x := x) (n := n) n
  have hs := sqs_sorted (bitsI x n) (by rw [bitsI_length]; exact hn)
  rw [bitsI_length, ← hb] at hs
  have hsorted : ∀ k, k + 1 < n → (srounds n x n).testBit k = true → (srounds n x n).testBit (k + 1) = true := by
    intro k hk h1
    have := hs k hk
    rw [bitsI_nth (by omega), bitsI_nth hk, h1] at this
    cases h2 : (srounds n x n).testBit (k + 1)
    · rw [h2] at this; exact absurd this (by decide)
    · rfl
  apply Nat.eq_of_testBit_eq
  intro i
  rw [greatestOf_bit (pc_le x n)]
  rcases Nat.lt_or_ge i n with hi | hi
  · rw [sorted_bits hsorted i hi, hp]; simp [hi]
  · rw [srounds_top (fun j hj => testBit_of_lt hx hj) n i hi]
    have : ¬ i < n := by omega
    simp [this]

theorem greatest_ge {n x : Nat} (hn : n ≤ 12) (hx : x < 2 ^ n) : x ≤ greatestOf n (pc x n) ∧ pc (greatestOf n (pc x n)) n = pc x n := by
  rw [← srounds_eq hn hx]
  exact ⟨srounds_le n x n, (srounds_bits n).2⟩

end Bw
