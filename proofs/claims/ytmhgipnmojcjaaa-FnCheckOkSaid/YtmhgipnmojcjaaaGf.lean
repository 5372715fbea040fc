/- Polynomials mod 2 as natural numbers: plain arithmetic, no program. -/
namespace Bw

/-- the product without carries -/
def mul (a b : Nat) : Nat := if b = 0 then 0 else (if b % 2 = 1 then a else 0) ^^^ (2 * mul a (b / 2))
termination_by b
decreasing_by omega

theorem mul_zero (a : Nat) : mul a 0 = 0 := by rw [mul]; simp

theorem mul_step (a b : Nat) : mul a b = (if b % 2 = 1 then a else 0) ^^^ (2 * mul a (b / 2)) := by
  by_cases h : b = 0
  · subst h; rw [mul_zero]; simp
  · rw [mul, if_neg h]

theorem xor_two_mul (a b : Nat) : 2 * (a ^^^ b) = (2 * a) ^^^ (2 * b) := by
  have h := Nat.shiftLeft_xor_distrib (a := a) (b := b) (i := 1)
  simp only [Nat.shiftLeft_eq, Nat.pow_one] at h
  rw [Nat.mul_comm 2 (a ^^^ b), h, Nat.mul_comm a, Nat.mul_comm b]

theorem xor_div_two (a b : Nat) : (a ^^^ b) / 2 = (a / 2) ^^^ (b / 2) := by
  have h := Nat.xor_div_two_pow (a := a) (b := b) (n := 1)
  simpa using h

theorem xor_mod_two (a b : Nat) : (a ^^^ b) % 2 = (a % 2 + b % 2) % 2 := by
  have h := Nat.xor_mod_two_pow (a := a) (b := b) (n := 1)
  simp only [Nat.pow_one] at h
  rw [h]
  rcases Nat.mod_two_eq_zero_or_one a with ha | ha <;> rcases Nat.mod_two_eq_zero_or_one b with hb | hb <;> simp [ha, hb]

theorem xor_four (a b c d : Nat) : (a ^^^ b) ^^^ (c ^^^ d) = (a ^^^ c) ^^^ (b ^^^ d) := by
  simp only [Nat.xor_assoc]; congr 1; rw [← Nat.xor_assoc, ← Nat.xor_assoc, Nat.xor_comm b c]

theorem eq_of_xor {a b : Nat} (h : a ^^^ b = 0) : a = b := by
  have e : (a ^^^ b) ^^^ b = b := by rw [h, Nat.zero_xor]
  rwa [Nat.xor_assoc, Nat.xor_self, Nat.xor_zero] at e

theorem xor_cancel (a b : Nat) : (a ^^^ b) ^^^ b = a := by rw [Nat.xor_assoc, Nat.xor_self, Nat.xor_zero]

theorem mul_one (a : Nat) : mul a 1 = a := by rw [mul_step]; simp [mul_zero]

theorem mul_two_mul (a b : Nat) : mul a (2 * b) = 2 * mul a b := by
  rw [mul_step]; simp [Nat.mul_mod_right]

theorem zero_mul (b : Nat) : mul 0 b = 0 := by
  induction b using Nat.strongRecOn with
  | ind b ih =>
    by_cases h : b = 0
    · subst h; exact mul_zero 0
    · rw [mul_step, ih (b / 2) (by omega)]; simp

theorem mul_xor (a b c : Nat) : mul a (b ^^^ c) = mul a b ^^^ mul a c := by
  induction b using Nat.strongRecOn generalizing c with
  | ind b ih =>
    by_cases h : b = 0
    · subst h; simp [mul_zero]
    · rw [mul_step a (b ^^^ c), mul_step a b, mul_step a c, xor_div_two, ih (b / 2) (by omega), xor_two_mul, xor_four, xor_mod_two]
      congr 1
      rcases Nat.mod_two_eq_zero_or_one b with hb | hb <;> rcases Nat.mod_two_eq_zero_or_one c with hc | hc <;> simp [hb, hc]

theorem xor_mul (a b c : Nat) : mul (a ^^^ b) c = mul a c ^^^ mul b c := by
  induction c using Nat.strongRecOn with
  | ind c ih =>
    by_cases h : c = 0
    · subst h; simp [mul_zero]
    · rw [mul_step (a ^^^ b), mul_step a, mul_step b, ih (c / 2) (by omega), xor_two_mul, xor_four]
      congr 1
      rcases Nat.mod_two_eq_zero_or_one c with hc | hc <;> simp [hc]

theorem two_mul_mul (a b : Nat) : mul (2 * a) b = 2 * mul a b := by
  induction b using Nat.strongRecOn with
  | ind b ih =>
    by_cases h : b = 0
    · subst h; simp [mul_zero]
    · rw [mul_step (2 * a), mul_step a, ih (b / 2) (by omega), xor_two_mul]
      congr 1
      rcases Nat.mod_two_eq_zero_or_one b with hb | hb <;> simp [hb]

theorem split_two (a : Nat) : a = (2 * (a / 2)) ^^^ (a % 2) := by
  apply Nat.eq_of_testBit_eq
  intro i
  rw [Nat.testBit_xor]
  cases i with
  | zero =>
    rcases Nat.mod_two_eq_zero_or_one a with h | h <;> simp [Nat.testBit_zero, h]
  | succ i =>
    rcases Nat.mod_two_eq_zero_or_one a with h | h <;> simp [Nat.testBit_succ, h]

theorem one_mul (b : Nat) : mul 1 b = b := by
  induction b using Nat.strongRecOn with
  | ind b ih =>
    by_cases h : b = 0
    · subst h; exact mul_zero 1
    · rw [mul_step, ih (b / 2) (by omega)]
      conv => rhs; rw [split_two b, Nat.xor_comm]
      congr 1
      rcases Nat.mod_two_eq_zero_or_one b with hb | hb <;> simp [hb]

theorem bit_mul (a b : Nat) : mul (a % 2) b = if a % 2 = 1 then b else 0 := by
  rcases Nat.mod_two_eq_zero_or_one a with h | h <;> simp [h, zero_mul, one_mul]

theorem mul_comm (a b : Nat) : mul a b = mul b a := by
  induction a using Nat.strongRecOn with
  | ind a ih =>
    by_cases h : a = 0
    · subst h; rw [zero_mul, mul_zero]
    · conv => lhs; rw [split_two a, xor_mul, two_mul_mul, ih (a / 2) (by omega), bit_mul, Nat.xor_comm]
      rw [mul_step b a]

theorem mul_assoc (a b c : Nat) : mul (mul a b) c = mul a (mul b c) := by
  induction c using Nat.strongRecOn with
  | ind c ih =>
    by_cases h : c = 0
    · subst h; simp [mul_zero]
    · rw [mul_step (mul a b) c, mul_step b c, mul_xor, mul_two_mul, ih (c / 2) (by omega)]
      congr 1
      rcases Nat.mod_two_eq_zero_or_one c with hc | hc <;> simp [hc, mul_zero]

theorem mul_two_pow (a n : Nat) : mul a (2 ^ n) = a * 2 ^ n := by
  induction n with
  | zero => simp [mul_one]
  | succ n ih => rw [Nat.pow_succ, Nat.mul_comm (2 ^ n) 2, mul_two_mul, ih]; simp [Nat.mul_left_comm]

/-! degrees: 'Deg a n': the greatest power of a is n -/
def Deg (a n : Nat) : Prop := 2 ^ n ≤ a ∧ a < 2 ^ (n + 1)

theorem deg_log {a : Nat} (h : a ≠ 0) : Deg a a.log2 := ⟨Nat.log2_self_le h, Nat.lt_log2_self⟩

theorem deg_pos {a n : Nat} (h : Deg a n) : a ≠ 0 := by have := h.1; have := Nat.two_pow_pos n; omega

theorem deg_unique {a m n : Nat} (h : Deg a m) (k : Deg a n) : m = n := by
  have h1 : m < n + 1 := (Nat.pow_lt_pow_iff_right (a := 2) (by omega)).1 (Nat.lt_of_le_of_lt h.1 k.2)
  have h2 : n < m + 1 := (Nat.pow_lt_pow_iff_right (a := 2) (by omega)).1 (Nat.lt_of_le_of_lt k.1 h.2)
  omega

theorem deg_log_eq {a n : Nat} (h : Deg a n) : a.log2 = n := deg_unique (deg_log (deg_pos h)) h

theorem deg_test {a n : Nat} (h : Deg a n) : a.testBit n = true := by
  have h1 := h.1; have h2 := h.2
  rw [Nat.testBit_eq_decide_div_mod_eq]
  have e : a / 2 ^ n = 1 := by
    apply Nat.div_eq_of_lt_le
    · omega
    · rw [Nat.pow_succ] at h2; omega
  simp [e]

/-- the top bit stays where something lesser is added -/
theorem deg_xor {a b n : Nat} (h : Deg a n) (hb : b < 2 ^ n) : Deg (a ^^^ b) n := by
  have h2 : a ^^^ b < 2 ^ (n + 1) := Nat.xor_lt_two_pow h.2 (Nat.lt_trans hb (Nat.pow_lt_pow_right (by omega) (by omega)))
  refine ⟨?_, h2⟩
  apply Nat.ge_two_pow_of_testBit
  rw [Nat.testBit_xor, deg_test h, Nat.testBit_lt_two_pow hb]; rfl

/-- both tops go -/
theorem xor_top {a b n : Nat} (h : Deg a n) (k : Deg b n) : a ^^^ b < 2 ^ n := by
  have h2 : a ^^^ b < 2 ^ (n + 1) := Nat.xor_lt_two_pow h.2 k.2
  apply Nat.lt_of_not_le
  intro hc
  have := deg_test (⟨hc, h2⟩ : Deg (a ^^^ b) n)
  rw [Nat.testBit_xor, deg_test h, deg_test k] at this
  simp at this

theorem deg_two {a n : Nat} (h : Deg a n) : Deg (2 * a) (n + 1) := by
  obtain ⟨h1, h2⟩ := h
  unfold Deg
  simp only [Nat.pow_succ] at *
  omega

theorem deg_mul {a b m n : Nat} (h : Deg a m) (k : Deg b n) : Deg (mul a b) (m + n) := by
  induction n generalizing b with
  | zero =>
    have : b = 1 := by have h1 := k.1; have h2 := k.2; simp at h1 h2; omega
    subst this; rw [mul_one]; exact h
  | succ n ih =>
    have k1 : Deg (b / 2) n := by
      obtain ⟨k1, k2⟩ := k
      unfold Deg
      simp only [Nat.pow_succ] at *
      omega
    rw [mul_step, Nat.xor_comm]
    refine deg_xor (by simpa [Nat.add_assoc] using deg_two (ih k1)) ?_
    split
    · exact Nat.lt_of_lt_of_le h.2 (Nat.pow_le_pow_right (by omega) (by omega))
    · exact Nat.two_pow_pos _

theorem mul_eq_zero {a b : Nat} (h : mul a b = 0) : a = 0 ∨ b = 0 := by
  by_cases ha : a = 0
  · exact .inl ha
  · by_cases hb : b = 0
    · exact .inr hb
    · exact absurd h (deg_pos (deg_mul (deg_log ha) (deg_log hb)))


/-! ### division -/
/-- one round of the division: what is left of 'a' -/
def modF : Nat → Nat → Nat → Nat
  | 0, a, _ => a
  | f + 1, a, b => if a < 2 ^ b.log2 then a else modF f (a ^^^ (b * 2 ^ (a.log2 - b.log2))) b

def divF : Nat → Nat → Nat → Nat
  | 0, _, _ => 0
  | f + 1, a, b => if a < 2 ^ b.log2 then 0 else 2 ^ (a.log2 - b.log2) ^^^ divF f (a ^^^ (b * 2 ^ (a.log2 - b.log2))) b

/-- the rest and the quotient -/
def pmod (a b : Nat) : Nat := modF (a.log2 + 1) a b

def pdiv (a b : Nat) : Nat := divF (a.log2 + 1) a b

theorem step_lt {a b : Nat} (hb : b ≠ 0) (h : ¬ a < 2 ^ b.log2) : a ≠ 0 ∧ a ^^^ (b * 2 ^ (a.log2 - b.log2)) < 2 ^ a.log2 := by
  have ha : a ≠ 0 := by have := Nat.two_pow_pos b.log2; omega
  refine ⟨ha, ?_⟩
  have hl : b.log2 ≤ a.log2 := (Nat.le_log2 ha).2 (by omega)
  have hd : Deg (b * 2 ^ (a.log2 - b.log2)) (b.log2 + (a.log2 - b.log2)) := by
    rw [← mul_two_pow]; exact deg_mul (deg_log hb) ⟨Nat.le_refl _, Nat.pow_lt_pow_right (by omega) (by omega)⟩
  rw [show b.log2 + (a.log2 - b.log2) = a.log2 by omega] at hd
  exact xor_top (deg_log ha) hd

theorem modF_lt : ∀ (f a b : Nat), b ≠ 0 → a < 2 ^ f → modF f a b < 2 ^ b.log2
  | 0, a, b, _, h => by
    have := Nat.two_pow_pos b.log2
    simp [modF] at *; omega
  | f + 1, a, b, hb, h => by
    unfold modF
    split
    · assumption
    · rename_i hc
      obtain ⟨ha, hs⟩ := step_lt hb hc
      refine modF_lt f _ b hb (Nat.lt_of_lt_of_le hs (Nat.pow_le_pow_right (by omega) ?_))
      have := (Nat.log2_lt ha).2 h
      omega

theorem divF_modF : ∀ (f a b : Nat), a = mul b (divF f a b) ^^^ modF f a b
  | 0, a, b => by simp [modF, divF, mul_zero]
  | f + 1, a, b => by
    unfold modF divF
    split
    · simp [mul_zero]
    · rw [mul_xor, mul_two_pow, Nat.xor_assoc, ← divF_modF f, ← Nat.xor_assoc, Nat.xor_comm _ a, Nat.xor_assoc, Nat.xor_self, Nat.xor_zero]

theorem pmod_lt (a : Nat) {b : Nat} (hb : b ≠ 0) : pmod a b < 2 ^ b.log2 := modF_lt _ a b hb Nat.lt_log2_self

theorem pdiv_pmod (a b : Nat) : a = mul b (pdiv a b) ^^^ pmod a b := divF_modF _ a b

/-- THE QUOTIENT AND THE REST ARE THE ONLY ONES -/
theorem div_unique {b q r q' r' : Nat} (hb : b ≠ 0) (hr : r < 2 ^ b.log2) (hr' : r' < 2 ^ b.log2) (h : mul b q ^^^ r = mul b q' ^^^ r') : q = q' ∧ r = r' := by
  have e : mul b (q ^^^ q') = r ^^^ r' := by
    rw [mul_xor]
    have h2 : (mul b q ^^^ r) ^^^ (mul b q' ^^^ r') = 0 := by rw [h, Nat.xor_self]
    rw [xor_four] at h2
    exact eq_of_xor h2
  by_cases hq : q ^^^ q' = 0
  · have : q = q' := eq_of_xor hq
    refine ⟨this, ?_⟩
    rw [hq, mul_zero] at e
    exact eq_of_xor e.symm
  · exfalso
    have hd := deg_mul (deg_log hb) (deg_log hq)
    have hx : r ^^^ r' < 2 ^ b.log2 := Nat.xor_lt_two_pow hr hr'
    rw [← e] at hx
    have := hd.1
    have h3 : 2 ^ b.log2 ≤ 2 ^ (b.log2 + (q ^^^ q').log2) := Nat.pow_le_pow_right (by omega) (by omega)
    omega

theorem pmod_of {a b q r : Nat} (hb : b ≠ 0) (hr : r < 2 ^ b.log2) (h : a = mul b q ^^^ r) : pmod a b = r ∧ pdiv a b = q := by
  have := div_unique hb (pmod_lt a hb) hr ((pdiv_pmod a b).symm.trans h)
  exact ⟨this.2, this.1⟩

theorem pmod_small {a b : Nat} (hb : b ≠ 0) (h : a < 2 ^ b.log2) : pmod a b = a := (pmod_of (q := 0) hb h (by simp [mul_zero])).1

theorem pmod_xor (a c : Nat) {b : Nat} (hb : b ≠ 0) : pmod (a ^^^ c) b = pmod a b ^^^ pmod c b := by
  refine (pmod_of (q := pdiv a b ^^^ pdiv c b) hb (Nat.xor_lt_two_pow (pmod_lt a hb) (pmod_lt c hb)) ?_).1
  rw [mul_xor, xor_four, ← pdiv_pmod, ← pdiv_pmod]

theorem pmod_mul_self (a : Nat) {b : Nat} (hb : b ≠ 0) : pmod (mul b a) b = 0 :=
  (pmod_of (q := a) hb (Nat.two_pow_pos _) (by simp)).1

theorem pmod_pmod (a : Nat) {b : Nat} (hb : b ≠ 0) : pmod (pmod a b) b = pmod a b := pmod_small hb (pmod_lt a hb)

theorem pmod_mul_left (a c : Nat) {b : Nat} (hb : b ≠ 0) : pmod (mul (pmod a b) c) b = pmod (mul a c) b := by
  conv => rhs; rw [pdiv_pmod a b, xor_mul, pmod_xor _ _ hb, mul_assoc, pmod_mul_self _ hb, Nat.zero_xor]

theorem pmod_mul_right (a c : Nat) {b : Nat} (hb : b ≠ 0) : pmod (mul a (pmod c b)) b = pmod (mul a c) b := by
  rw [mul_comm, pmod_mul_left _ _ hb, mul_comm]

/-! ### divisors -/
def Dvd (d a : Nat) : Prop := ∃ q, a = mul d q

theorem dvd_iff {a b : Nat} (hb : b ≠ 0) : pmod a b = 0 ↔ Dvd b a := by
  constructor
  · intro h; exact ⟨pdiv a b, by have := pdiv_pmod a b; rwa [h, Nat.xor_zero] at this⟩
  · rintro ⟨q, rfl⟩; exact pmod_mul_self q hb

theorem Dvd.xor {d a b : Nat} (h : Dvd d a) (k : Dvd d b) : Dvd d (a ^^^ b) := by
  obtain ⟨q, rfl⟩ := h; obtain ⟨r, rfl⟩ := k; exact ⟨q ^^^ r, (mul_xor _ _ _).symm⟩

theorem Dvd.mul {d a : Nat} (h : Dvd d a) (c : Nat) : Dvd d (Bw.mul a c) := by
  obtain ⟨q, rfl⟩ := h; exact ⟨Bw.mul q c, mul_assoc _ _ _⟩

theorem Dvd.trans {a b c : Nat} (h : Dvd a b) (k : Dvd b c) : Dvd a c := by
  obtain ⟨q, rfl⟩ := k; exact h.mul q

theorem Dvd.refl (a : Nat) : Dvd a a := ⟨1, (mul_one a).symm⟩

theorem Dvd.zero (a : Nat) : Dvd a 0 := ⟨0, (mul_zero a).symm⟩

theorem pmod_eq (a b : Nat) : pmod a b = a ^^^ mul b (pdiv a b) := by
  have h := xor_cancel (pmod a b) (mul b (pdiv a b))
  rw [Nat.xor_comm (pmod a b), ← pdiv_pmod a b] at h
  exact h.symm

theorem Dvd.rest {d a b : Nat} (h : Dvd d a) (k : Dvd d b) : Dvd d (pmod a b) := by
  rw [pmod_eq]; exact h.xor (k.mul _)

theorem Dvd.of_rest {d a b : Nat} (h : Dvd d (pmod a b)) (k : Dvd d b) : Dvd d a := by
  rw [pdiv_pmod a b]; exact (k.mul _).xor h

theorem Dvd.deg {d a : Nat} (h : Dvd d a) (ha : a ≠ 0) : d ≠ 0 ∧ d.log2 ≤ a.log2 := by
  obtain ⟨q, rfl⟩ := h
  have hd : d ≠ 0 := by rintro rfl; exact ha (zero_mul q)
  have hq : q ≠ 0 := by rintro rfl; exact ha (mul_zero d)
  rw [deg_log_eq (deg_mul (deg_log hd) (deg_log hq))]
  exact ⟨hd, by omega⟩

/-- Two that divide each other are one. -/
theorem Dvd.antisymm {a b : Nat} (h : Dvd a b) (k : Dvd b a) : a = b := by
  by_cases ha : a = 0
  · subst ha; obtain ⟨q, rfl⟩ := h; exact (zero_mul q).symm
  · obtain ⟨hb, hl⟩ := k.deg ha
    obtain ⟨q, rfl⟩ := h
    have hq : q ≠ 0 := by rintro rfl; exact hb (mul_zero a)
    rw [deg_log_eq (deg_mul (deg_log ha) (deg_log hq))] at hl
    have h0 : q.log2 = 0 := by omega
    have := deg_log hq
    rw [h0] at this
    obtain ⟨h1, h2⟩ := this
    have : q = 1 := by simp at h1 h2; omega
    subst this; exact (mul_one a).symm

/-! ### the greatest common divisor -/
def gcdF : Nat → Nat → Nat → Nat
  | 0, a, _ => a
  | f + 1, a, b => if b = 0 then a else gcdF f b (pmod a b)

theorem gcdF_spec : ∀ (f a b : Nat), b < 2 ^ f →
    (Dvd (gcdF f a b) a ∧ Dvd (gcdF f a b) b) ∧ (∀ d, Dvd d a → Dvd d b → Dvd d (gcdF f a b)) ∧ ∃ x y, gcdF f a b = mul a x ^^^ mul b y
  | 0, a, b, h => by
    have hb : b = 0 := by simp at h; exact h
    subst hb
    exact ⟨⟨Dvd.refl a, Dvd.zero a⟩, fun d h _ => h, 1, 0, by simp [gcdF, mul_one, mul_zero]⟩
  | f + 1, a, b, h => by
    unfold gcdF
    split
    · rename_i hb; subst hb
      exact ⟨⟨Dvd.refl a, Dvd.zero a⟩, fun d h _ => h, 1, 0, by simp [mul_one, mul_zero]⟩
    · rename_i hb
      have hl := pmod_lt a hb
      have hlog : b.log2 ≤ f := by have := (Nat.log2_lt hb).2 h; omega
      obtain ⟨⟨h1, h2⟩, h3, x, y, h4⟩ := gcdF_spec f b (pmod a b) (Nat.lt_of_lt_of_le hl (Nat.pow_le_pow_right (by omega) hlog))
      refine ⟨⟨Dvd.of_rest h2 h1, h1⟩, fun d k1 k2 => h3 d k2 (k1.rest k2), y, x ^^^ mul (pdiv a b) y, ?_⟩
      rw [h4, pmod_eq a b, xor_mul, mul_xor b x, mul_assoc b (pdiv a b) y, ← Nat.xor_assoc, Nat.xor_comm _ (mul a y), Nat.xor_assoc]

def pgcd (a b : Nat) : Nat := gcdF (b.log2 + 1) a b

theorem pgcd_left (a b : Nat) : Dvd (pgcd a b) a := (gcdF_spec _ a b Nat.lt_log2_self).1.1

theorem pgcd_right (a b : Nat) : Dvd (pgcd a b) b := (gcdF_spec _ a b Nat.lt_log2_self).1.2

theorem pgcd_greatest {a b d : Nat} (h : Dvd d a) (k : Dvd d b) : Dvd d (pgcd a b) := (gcdF_spec _ a b Nat.lt_log2_self).2.1 d h k

theorem pgcd_bezout (a b : Nat) : ∃ x y, pgcd a b = mul a x ^^^ mul b y := (gcdF_spec _ a b Nat.lt_log2_self).2.2

theorem pgcd_comm (a b : Nat) : pgcd a b = pgcd b a :=
  Dvd.antisymm (pgcd_greatest (pgcd_right a b) (pgcd_left a b)) (pgcd_greatest (pgcd_right b a) (pgcd_left b a))

theorem gcdF_pgcd {f a b : Nat} (h : b < 2 ^ f) : gcdF f a b = pgcd a b :=
  Dvd.antisymm (pgcd_greatest (gcdF_spec f a b h).1.1 (gcdF_spec f a b h).1.2) ((gcdF_spec f a b h).2.1 _ (pgcd_left a b) (pgcd_right a b))

theorem pgcd_zero (a : Nat) : pgcd a 0 = a := by unfold pgcd gcdF; simp

theorem pgcd_step (a : Nat) {b : Nat} (hb : b ≠ 0) : pgcd a b = pgcd b (pmod a b) := by
  have : pgcd a b = gcdF b.log2 b (pmod a b) := by
    conv => lhs; unfold pgcd gcdF
    rw [if_neg hb]
  rw [this, gcdF_pgcd (pmod_lt a hb)]

/-! ### prime polynomials -/
/-- no divisor of a degree from 1 on and less than its own -/
def Prime (p : Nat) : Prop := 2 ≤ p ∧ ∀ d, 2 ≤ d → d.log2 < p.log2 → pmod p d ≠ 0

theorem log2_two {d : Nat} (h : 2 ≤ d) : 1 ≤ d.log2 := (Nat.le_log2 (by omega)).2 (by simpa using h)

theorem prime_gcd {p a : Nat} (hp : Prime p) (ha : a ≠ 0) (hl : a.log2 < p.log2) : pgcd p a = 1 := by
  have h1 := pgcd_left p a
  have h2 := pgcd_right p a
  obtain ⟨g0, gl⟩ := h2.deg ha
  by_cases hg : pgcd p a = 1
  · exact hg
  · exfalso
    have : 2 ≤ pgcd p a := by omega
    exact hp.2 _ this (by omega) ((dvd_iff g0).2 h1)

theorem lt_log2 {a p : Nat} (ha : a ≠ 0) (h : a < 2 ^ p.log2) : a.log2 < p.log2 := by
  have := (Nat.log2_lt ha).2 h
  exact this

/-- A STATE THAT IS NOT 0 CAN BE TAKEN AWAY -/
theorem prime_cancel {p a b : Nat} (hp : Prime p) (ha : a ≠ 0) (hl : a < 2 ^ p.log2) (h : pmod (mul a b) p = 0) : pmod b p = 0 := by
  have p0 : p ≠ 0 := by have := hp.1; omega
  obtain ⟨x, y, e⟩ := pgcd_bezout p a
  rw [prime_gcd hp ha (lt_log2 ha hl)] at e
  have : b = mul p (mul x b) ^^^ mul (mul a b) y := by
    conv => lhs; rw [← one_mul b, e, xor_mul, mul_assoc, mul_assoc, mul_comm y b, ← mul_assoc a b y]
  rw [this, pmod_xor _ _ p0, pmod_mul_self _ p0, ← pmod_mul_left _ _ p0, h, zero_mul, pmod_small p0 (Nat.two_pow_pos _)]; rfl

end Bw
