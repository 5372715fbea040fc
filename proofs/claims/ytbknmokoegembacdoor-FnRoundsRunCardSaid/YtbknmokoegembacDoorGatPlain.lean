/- Places of ones, gathered and scattered bits: plain arithmetic. -/
import Derived.Test.YtbknmokoegembacDoorOrdPlain
import Derived.Lib.TrailingZeros

namespace Bw
open Go Go.RowKit
set_option linter.unusedVariables false

/-- the places of the ones below n -/
def onI (m : Nat) : Nat → List Int
  | 0 => []
  | n + 1 => if m.testBit n then onI m n ++ [(n : Int)] else onI m n

theorem onI_succ (m n : Nat) : onI m (n + 1) = if m.testBit n then onI m n ++ [(n : Int)] else onI m n := rfl

theorem onI_length (m : Nat) : ∀ n, (onI m n).length = pc m n
  | 0 => rfl
  | n + 1 => by
    rw [onI_succ, pc_succ]
    cases h : m.testBit n
    · simpa using onI_length m n
    · simpa using onI_length m n

theorem onI_skip {m p : Nat} : ∀ {q : Nat}, p ≤ q → (∀ i, p ≤ i → i < q → m.testBit i = false) → onI m q = onI m p
  | 0, h, _ => by rw [show p = 0 by omega]
  | q + 1, h, hz => by
    by_cases e : p = q + 1
    · rw [e]
    · rw [onI_succ, hz q (by omega) (by omega)]
      exact onI_skip (by omega) (fun i h1 h2 => hz i h1 (by omega))

theorem onI_more {m n : Nat} (h : m < 2 ^ n) (k : Nat) (hk : n ≤ k) : onI m k = onI m n :=
  onI_skip hk (fun i hi _ => testBit_of_lt h hi)

theorem pc_mono (m : Nat) {a b : Nat} (h : a ≤ b) : pc m a ≤ pc m b := by
  induction b with
  | zero => rw [show a = 0 by omega]; exact Nat.le_refl _
  | succ b ih =>
    rw [pc_succ]
    by_cases e : a = b + 1
    · rw [e, pc_succ]; exact Nat.le_refl _
    · have := ih (by omega); omega

theorem onI_prefix (m : Nat) {j : Nat} : ∀ {n : Nat}, j < pc m n → ∀ k, nth (onI m (n + k)) j = nth (onI m n) j
  | _, _, 0 => rfl
  | n, h, k + 1 => by
    have ih := onI_prefix m h k
    show nth (onI m (n + k + 1)) j = _
    rw [onI_succ]
    split
    · rw [← ih]
      have hl : j < (onI m (n + k)).length := by
        rw [onI_length]
        exact Nat.lt_of_lt_of_le h (pc_mono m (Nat.le_add_right n k))
      unfold nth
      rw [List.getD_eq_getElem?_getD, List.getD_eq_getElem?_getD, List.getElem?_append_left hl]
    · exact ih

theorem pc_lt {m i n : Nat} (hb : m.testBit i = true) (hi : i < n) : pc m i < pc m n := by
  have h1 := pc_mono m (show i + 1 ≤ n from hi)
  rw [pc_succ, hb] at h1
  have : (true : Bool).toNat = 1 := rfl
  omega

/-- the place of a one, counted from the lowest one -/
theorem onI_at {m i n : Nat} (hb : m.testBit i = true) (hi : i < n) : nth (onI m n) (pc m i) = (i : Int) := by
  obtain ⟨d, rfl⟩ : ∃ d, n = (i + 1) + d := ⟨n - i - 1, by omega⟩
  have h1 : pc m i < pc m (i + 1) := pc_lt hb (by omega)
  rw [onI_prefix m h1 d, onI_succ, hb, if_pos rfl]
  unfold nth
  rw [List.getD_eq_getElem?_getD, List.getElem?_append_right (by rw [onI_length]; exact Nat.le_refl _), onI_length]
  simp

theorem onI_mem {m : Nat} : ∀ {n j : Nat}, j < pc m n → ∃ i, i < n ∧ m.testBit i = true ∧ pc m i = j
  | 0, j, h => absurd h (by simp [pc])
  | n + 1, j, h => by
    rw [pc_succ] at h
    by_cases hj : j < pc m n
    · obtain ⟨i, h1, h2, h3⟩ := onI_mem hj
      exact ⟨i, by omega, h2, h3⟩
    · cases hb : m.testBit n
      · rw [hb] at h; simp at h; omega
      · rw [hb] at h; simp at h
        exact ⟨n, by omega, hb, by omega⟩

theorem onI_bd {m n j : Nat} (hj : j < pc m n) : 0 ≤ nth (onI m n) j ∧ nth (onI m n) j < n := by
  obtain ⟨i, h1, h2, rfl⟩ := onI_mem hj
  rw [onI_at h2 h1]; omega

theorem low_bits (k m : Nat) : (2 ^ k * (2 * m + 1)) &&& (2 ^ k * (2 * m + 1) - 1) = 2 ^ (k + 1) * m := by
  have hp := Nat.two_pow_pos k
  have e1 : 2 ^ k * (2 * m + 1) = 2 ^ (k + 1) * m + 2 ^ k := by
    rw [Nat.pow_succ, Nat.mul_add, Nat.mul_one, Nat.mul_assoc]
  have e2 : 2 ^ k * (2 * m + 1) - 1 = 2 ^ (k + 1) * m + (2 ^ k - 1) := by omega
  have l1 : 2 ^ k < 2 ^ (k + 1) := by rw [Nat.pow_succ]; omega
  apply Nat.eq_of_testBit_eq
  intro j
  rw [Nat.testBit_and, e2, e1, Nat.testBit_two_pow_mul_add _ l1, Nat.testBit_two_pow_mul_add _ (show 2 ^ k - 1 < 2 ^ (k + 1) by omega), Nat.testBit_two_pow, Nat.testBit_two_pow_sub_one]
  have e3 : 2 ^ (k + 1) * m = 2 ^ (k + 1) * m + 0 := rfl
  rw [e3, Nat.testBit_two_pow_mul_add _ (Nat.two_pow_pos _)]
  by_cases h : j < k + 1
  · simp only [h, if_true, Nat.zero_testBit]
    by_cases e : k = j
    · subst e; simp
    · simp [e]
  · simp [h]

/-- what is left of a word above the place p -/
def above (m p : Nat) : Nat := m / 2 ^ p * 2 ^ p

theorem above_bit (m p i : Nat) : (above m p).testBit i = (decide (p ≤ i) && m.testBit i) := by
  unfold above
  rw [Nat.testBit_mul_two_pow, Nat.testBit_div_two_pow]
  by_cases h : p ≤ i
  · simp [h, Nat.sub_add_cancel h]
  · simp [h]

theorem above_zero (m : Nat) : above m 0 = m := by simp [above]

/-- one round of places: the lowest one that is left -/
theorem above_step {m p : Nat} (h : above m p ≠ 0) (hm : m < 4096) :
    ∃ q, Lib.ctz 64 (above m p) = q ∧ p ≤ q ∧ q < 12 ∧ above m p &&& (above m p - 1) = above m (q + 1) ∧ above m (q + 1) < above m p ∧ onI m (q + 1) = onI m p ++ [(q : Int)] := by
  have hle : above m p ≤ m := Nat.div_mul_le_self _ _
  obtain ⟨k, hk⟩ := Lib.ctzFrom_spec 64 (above m p) (by omega) (by omega)
  obtain ⟨hk, hq⟩ := hk
  obtain ⟨q, hqq⟩ : ∃ q, Lib.ctzFrom 64 (above m p) = q := ⟨_, rfl⟩
  rw [hqq] at hk hq
  have hct : Lib.ctz 64 (above m p) = q := by unfold Lib.ctz; rw [if_neg h, hqq]
  have hlow := low_bits q k
  rw [← hk] at hlow
  have e1 : above m p = 2 ^ (q + 1) * k + 2 ^ q := by
    rw [hk, Nat.pow_succ, Nat.mul_add, Nat.mul_one, Nat.mul_assoc]
  have l1 : 2 ^ q < 2 ^ (q + 1) := by rw [Nat.pow_succ]; have := Nat.two_pow_pos q; omega
  have hbit : ∀ i, (above m p).testBit i = if i < q + 1 then decide (q = i) else k.testBit (i - (q + 1)) := fun i => by
    rw [e1, Nat.testBit_two_pow_mul_add _ l1, Nat.testBit_two_pow]
  have hbq : (above m p).testBit q = true := by rw [hbit]; simp
  rw [above_bit] at hbq
  have hpq : p ≤ q := by
    by_cases hc : p ≤ q
    · exact hc
    · simp [hc] at hbq
  have hmq : m.testBit q = true := by simpa [hpq] using hbq
  have hq12 : q < 12 := by
    by_cases hc : q < 12
    · exact hc
    · rw [testBit_of_lt (show m < 2 ^ 12 by omega) (by omega)] at hmq; exact absurd hmq (by decide)
  have hz : ∀ i, p ≤ i → i < q → m.testBit i = false := fun i h1 h2 => by
    have := hbit i
    rw [above_bit, if_pos (by omega)] at this
    simpa [h1, show q ≠ i by omega] using this
  have hnext : above m p &&& (above m p - 1) = above m (q + 1) := by
    rw [hlow]
    apply Nat.eq_of_testBit_eq
    intro i
    rw [above_bit, Nat.testBit_two_pow_mul]
    by_cases hi : q + 1 ≤ i
    · have := hbit i
      rw [above_bit, if_neg (by omega)] at this
      simp only [show p ≤ i by omega, decide_true, Bool.true_and] at this
      simp [hi, this]
    · simp [hi]
  refine ⟨q, hct, hpq, hq12, hnext, ?_, ?_⟩
  · rw [← hnext, hlow, e1]; have := Nat.two_pow_pos q; omega
  · rw [onI_succ, hmq, if_pos rfl, onI_skip hpq hz]

theorem above_end {m p : Nat} (h : above m p = 0) (hm : m < 4096) : onI m 12 = onI m p ∨ 12 < p := by
  by_cases hp : p ≤ 12
  · refine .inl (onI_skip hp fun i h1 _ => ?_)
    have := above_bit m p i
    rw [h] at this
    simpa [h1] using this
  · exact .inr (by omega)

/-- gathered bits of the places below n -/
def gth (x m : Nat) : Nat → Nat
  | 0 => 0
  | n + 1 => if m.testBit n then gth x m n + x / 2 ^ n % 2 * 2 ^ pc m n else gth x m n

theorem gth_succ (x m n : Nat) : gth x m (n + 1) = if m.testBit n then gth x m n + x / 2 ^ n % 2 * 2 ^ pc m n else gth x m n := rfl

/-- scattered bits of the places below n -/
def sct (x m : Nat) : Nat → Nat
  | 0 => 0
  | n + 1 => if m.testBit n then sct x m n + x / 2 ^ pc m n % 2 * 2 ^ n else sct x m n

theorem sct_succ (x m n : Nat) : sct x m (n + 1) = if m.testBit n then sct x m n + x / 2 ^ pc m n % 2 * 2 ^ n else sct x m n := rfl

/-- gathered by a list of places, and scattered -/
def glt (x : Nat) (l : List Int) : Nat → Nat
  | 0 => 0
  | j + 1 => glt x l j + x / 2 ^ pl l j % 2 * 2 ^ j

theorem glt_succ (x : Nat) (l : List Int) (j : Nat) : glt x l (j + 1) = glt x l j + x / 2 ^ pl l j % 2 * 2 ^ j := rfl

def slt (x : Nat) (l : List Int) : Nat → Nat
  | 0 => 0
  | j + 1 => slt x l j + x / 2 ^ j % 2 * 2 ^ pl l j

theorem slt_succ (x : Nat) (l : List Int) (j : Nat) : slt x l (j + 1) = slt x l j + x / 2 ^ j % 2 * 2 ^ pl l j := rfl

theorem pl_of_nth {l l' : List Int} {j : Nat} (h : nth l j = nth l' j) : pl l j = pl l' j := by unfold pl; rw [h]

theorem glt_congr (x : Nat) {l l' : List Int} : ∀ {n : Nat}, (∀ j, j < n → pl l j = pl l' j) → glt x l n = glt x l' n
  | 0, _ => rfl
  | n + 1, h => by rw [glt_succ, glt_succ, glt_congr x (fun j hj => h j (by omega)), h n (by omega)]

theorem slt_congr (x : Nat) {l l' : List Int} : ∀ {n : Nat}, (∀ j, j < n → pl l j = pl l' j) → slt x l n = slt x l' n
  | 0, _ => rfl
  | n + 1, h => by rw [slt_succ, slt_succ, slt_congr x (fun j hj => h j (by omega)), h n (by omega)]

theorem onI_pl {m i n : Nat} (hb : m.testBit i = true) (hi : i < n) : pl (onI m n) (pc m i) = i := by
  unfold pl; rw [onI_at hb hi]; simp

theorem onI_pl_succ {m n j : Nat} (hj : j < pc m n) : pl (onI m (n + 1)) j = pl (onI m n) j := pl_of_nth (onI_prefix m hj 1)

theorem glt_gth (x m : Nat) : ∀ n, glt x (onI m n) (pc m n) = gth x m n
  | 0 => rfl
  | n + 1 => by
    have ih := glt_gth x m n
    have hc : glt x (onI m (n + 1)) (pc m n) = gth x m n := by rw [← ih]; exact glt_congr x fun j hj => onI_pl_succ hj
    rw [gth_succ, pc_succ]
    cases hb : m.testBit n
    · exact hc
    · show glt x (onI m (n + 1)) (pc m n + 1) = _
      rw [glt_succ, hc, onI_pl hb (by omega), if_pos rfl]

theorem slt_sct (x m : Nat) : ∀ n, slt x (onI m n) (pc m n) = sct x m n
  | 0 => rfl
  | n + 1 => by
    have ih := slt_sct x m n
    have hc : slt x (onI m (n + 1)) (pc m n) = sct x m n := by rw [← ih]; exact slt_congr x fun j hj => onI_pl_succ hj
    rw [sct_succ, pc_succ]
    cases hb : m.testBit n
    · exact hc
    · show slt x (onI m (n + 1)) (pc m n + 1) = _
      rw [slt_succ, hc, onI_pl hb (by omega), if_pos rfl]

theorem bit_mul_le (x k p : Nat) : x / 2 ^ k % 2 * p ≤ p := by
  have := Nat.mul_le_mul_right p (show x / 2 ^ k % 2 ≤ 1 by omega)
  omega

theorem glt_lt (x : Nat) (l : List Int) : ∀ j, glt x l j < 2 ^ j
  | 0 => by simp [glt]
  | j + 1 => by
    have := glt_lt x l j
    have := bit_mul_le x (pl l j) (2 ^ j)
    rw [glt_succ, Nat.pow_succ]; omega

/-- the sum is an or -/
theorem glt_or (x : Nat) (l : List Int) (j : Nat) : glt x l j ||| x / 2 ^ pl l j % 2 * 2 ^ j = glt x l (j + 1) :=
  or_bit_mul (by omega) (testBit_of_lt (glt_lt x l j) (Nat.le_refl _))

theorem sct_lt (x m : Nat) : ∀ n, sct x m n < 2 ^ n
  | 0 => by simp [sct]
  | n + 1 => by
    have := sct_lt x m n
    have := bit_mul_le x (pc m n) (2 ^ n)
    rw [sct_succ, Nat.pow_succ]
    split <;> omega

theorem slt_or (x m : Nat) {j n : Nat} (hj : j < pc m n) : slt x (onI m n) j ||| x / 2 ^ j % 2 * 2 ^ pl (onI m n) j = slt x (onI m n) (j + 1) := by
  obtain ⟨i, h1, h2, rfl⟩ := onI_mem hj
  rw [slt_succ, onI_pl h2 h1]
  refine or_bit_mul (by omega) (testBit_of_lt (k := i) ?_ (Nat.le_refl _))
  have e : slt x (onI m n) (pc m i) = sct x m i := by
    rw [← slt_sct]
    obtain ⟨d, rfl⟩ : ∃ d, n = i + d := ⟨n - i, by omega⟩
    exact slt_congr x fun k hk => pl_of_nth (onI_prefix m hk d)
  rw [e]
  exact sct_lt x m i

theorem gth_lt (x m n : Nat) : gth x m n < 2 ^ pc m n := by rw [← glt_gth]; exact glt_lt _ _ _

theorem glt_le (x : Nat) (l : List Int) (j : Nat) (h : j ≤ 12) : glt x l j ≤ 4096 := by
  have := glt_lt x l j
  have := Nat.pow_le_pow_right (n := 2) (by omega) h
  omega

theorem slt_le (x : Nat) {m n j : Nat} (h : j ≤ pc m n) (hn : n ≤ 12) : slt x (onI m n) j ≤ 4096 := by
  have hle : ∀ d, slt x (onI m n) j ≤ slt x (onI m n) (j + d) := fun d => by
    induction d with
    | zero => exact Nat.le_refl _
    | succ d ih => rw [← Nat.add_assoc, slt_succ]; omega
  have h1 := hle (pc m n - j)
  rw [Nat.add_sub_cancel' h, slt_sct] at h1
  have := sct_lt x m n
  have := Nat.pow_le_pow_right (n := 2) (by omega) hn
  omega

/-- bits of what is gathered -/
theorem gth_bit (x m : Nat) : ∀ n i, i < n → m.testBit i = true → (gth x m n).testBit (pc m i) = x.testBit i
  | 0, i, h, _ => absurd h (by omega)
  | n + 1, i, h, hb => by
    rw [gth_succ]
    by_cases e : i = n
    · subst e
      rw [if_pos hb, ← or_bit_mul (by omega) (testBit_of_lt (gth_lt x m i) (Nat.le_refl _)), Nat.testBit_or, testBit_of_lt (gth_lt x m i) (Nat.le_refl _), bit_toNat, testBit_mul_pow]
      simp
    · have ih := gth_bit x m n i (by omega) hb
      split
      · rename_i hn
        have hne : pc m i < pc m n := pc_lt hb (by omega)
        rw [← or_bit_mul (by omega) (testBit_of_lt (gth_lt x m n) (Nat.le_refl _)), Nat.testBit_or, bit_toNat, testBit_mul_pow, ih]
        simp [show pc m n ≠ pc m i by omega]
      · exact ih

theorem gth_bit_hi (x m n : Nat) {j : Nat} (h : pc m n ≤ j) : (gth x m n).testBit j = false := testBit_of_lt (gth_lt x m n) h

/-- bits of what is scattered -/
theorem sct_bit (x m : Nat) : ∀ n i, (sct x m n).testBit i = (decide (i < n) && (m.testBit i && x.testBit (pc m i)))
  | 0, i => by simp [sct]
  | n + 1, i => by
    have ih := sct_bit x m n i
    rw [sct_succ]
    by_cases e : i = n
    · subst e
      have hz := testBit_of_lt (sct_lt x m i) (Nat.le_refl i)
      split
      · rename_i hb
        rw [← or_bit_mul (by omega) hz, Nat.testBit_or, hz, bit_toNat, testBit_mul_pow, hb]
        simp
      · rename_i hb
        rw [hz]; simp [hb]
    · have hz := testBit_of_lt (sct_lt x m n) (Nat.le_refl n)
      have e2 : decide (i < n + 1) = decide (i < n) := by congr 1; apply propext; omega
      rw [e2, ← ih]
      split
      · rw [← or_bit_mul (by omega) hz, Nat.testBit_or, bit_toNat, testBit_mul_pow]
        simp [show n ≠ i by omega]
      · rfl

end Bw
