/- Fields of polynomials mod 2: powers, the inverse. Plain arithmetic, no program. -/
import Derived.Test.YtmhgipnmojcjaaaGf

namespace Bw

def fm (p a b : Nat) : Nat := pmod (mul a b) p

def pw (p a : Nat) : Nat → Nat
  | 0 => pmod 1 p
  | n + 1 => fm p (pw p a n) a

theorem fm_one (p a : Nat) : fm p a 1 = pmod a p := by unfold fm; rw [mul_one]

theorem one_fm (p a : Nat) : fm p 1 a = pmod a p := by unfold fm; rw [one_mul]

section
variable {p : Nat} (p0 : p ≠ 0)
include p0

theorem fm_lt (a b : Nat) : fm p a b < 2 ^ p.log2 := pmod_lt _ p0

theorem fm_assoc (a b c : Nat) : fm p (fm p a b) c = fm p a (fm p b c) := by
  unfold fm; rw [pmod_mul_left _ _ p0, pmod_mul_right _ _ p0, mul_assoc]

theorem fm_left (a b : Nat) : fm p (pmod a p) b = fm p a b := pmod_mul_left _ _ p0

theorem fm_right (a b : Nat) : fm p a (pmod b p) = fm p a b := pmod_mul_right _ _ p0

theorem fm_xor (a b c : Nat) : fm p a (b ^^^ c) = fm p a b ^^^ fm p a c := by unfold fm; rw [mul_xor, pmod_xor _ _ p0]

theorem xor_fm (a b c : Nat) : fm p (a ^^^ b) c = fm p a c ^^^ fm p b c := by unfold fm; rw [xor_mul, pmod_xor _ _ p0]

theorem pw_lt (a n : Nat) : pw p a n < 2 ^ p.log2 := by cases n <;> exact pmod_lt _ p0

theorem pw_one (a : Nat) : pw p a 1 = pmod a p := by show fm p (pmod 1 p) a = _; rw [fm_left p0, one_fm p]

theorem pw_add (a m n : Nat) : pw p a (m + n) = fm p (pw p a m) (pw p a n) := by
  induction n with
  | zero => show pw p a m = fm p (pw p a m) (pmod 1 p); rw [fm_right p0, fm_one p, pmod_small p0 (pw_lt p0 a m)]
  | succ n ih => show fm p (pw p a (m + n)) a = fm p (pw p a m) (fm p (pw p a n) a); rw [ih, fm_assoc p0]
end

theorem fm_comm (p a b : Nat) : fm p a b = fm p b a := by unfold fm; rw [mul_comm]

section
variable {p : Nat} (p0 : p ≠ 0)
include p0

theorem fm_four (a b c d : Nat) : fm p (fm p a b) (fm p c d) = fm p (fm p a c) (fm p b d) := by
  rw [fm_assoc p0, fm_assoc p0, ← fm_assoc p0 b c d, ← fm_assoc p0 c b d, fm_comm p b c]

theorem pw_fm (a b n : Nat) : pw p (fm p a b) n = fm p (pw p a n) (pw p b n) := by
  induction n with
  | zero => show pmod 1 p = fm p (pmod 1 p) (pmod 1 p); rw [fm_left p0, fm_right p0, fm_one p]
  | succ n ih =>
    show fm p (pw p (fm p a b) n) (fm p a b) = fm p (fm p (pw p a n) a) (fm p (pw p b n) b)
    rw [ih, fm_four p0]

theorem pw_mul (a m n : Nat) : pw p (pw p a m) n = pw p a (m * n) := by
  induction n with
  | zero => rfl
  | succ n ih => show fm p (pw p (pw p a m) n) (pw p a m) = _; rw [ih, Nat.mul_succ, pw_add p0]

theorem pw_pmod (a n : Nat) : pw p (pmod a p) n = pw p a n := by
  induction n with
  | zero => rfl
  | succ n ih => show fm p _ _ = fm p _ _; rw [ih, fm_right p0]

theorem sq_xor (a b : Nat) : fm p (a ^^^ b) (a ^^^ b) = fm p a a ^^^ fm p b b := by
  rw [fm_xor p0, xor_fm p0, xor_fm p0, fm_comm p b a, Nat.xor_assoc, ← Nat.xor_assoc (fm p a b), Nat.xor_self, Nat.zero_xor]

theorem pw_two (a k : Nat) : pw p a (2 ^ (k + 1)) = fm p (pw p a (2 ^ k)) (pw p a (2 ^ k)) := by
  rw [Nat.pow_succ, Nat.mul_two, pw_add p0]

theorem frob_xor (a b k : Nat) : pw p (a ^^^ b) (2 ^ k) = pw p a (2 ^ k) ^^^ pw p b (2 ^ k) := by
  induction k with
  | zero => simp only [Nat.pow_zero]; rw [pw_one p0, pw_one p0, pw_one p0, pmod_xor _ _ p0]
  | succ k ih => rw [pw_two p0, ih, sq_xor p0, ← pw_two p0, ← pw_two p0]

theorem pw_of_one (n : Nat) : pw p 1 n = pmod 1 p := by
  induction n with
  | zero => rfl
  | succ n ih => show fm p _ _ = _; rw [ih, fm_one p, pmod_pmod _ p0]

theorem pw_of_zero (n : Nat) : pw p 0 (n + 1) = 0 := by
  show fm p _ _ = _; unfold fm; rw [mul_zero, pmod_small p0 (Nat.two_pow_pos _)]

/-- WHERE x TO THE POWER 2^k IS x, EVERY STATE IS -/
theorem frob_all {k : Nat} (h : pw p 2 (2 ^ k) = pmod 2 p) (a : Nat) : pw p a (2 ^ k) = pmod a p := by
  have hk : ∃ m, 2 ^ k = m + 1 := ⟨2 ^ k - 1, by have := Nat.two_pow_pos k; omega⟩
  induction a using Nat.strongRecOn with
  | ind a ih =>
    by_cases ha : a = 0
    · subst ha
      obtain ⟨m, hm⟩ := hk
      rw [hm, pw_of_zero p0, pmod_small p0 (Nat.two_pow_pos _)]
    · have e1 : pw p (2 * (a / 2)) (2 ^ k) = pmod (2 * (a / 2)) p := by
        have : 2 * (a / 2) = mul 2 (a / 2) := by rw [show (2 : Nat) = 2 * 1 from rfl, two_mul_mul, one_mul]
        rw [this, ← pw_pmod p0]
        show pw p (fm p 2 (a / 2)) _ = _
        rw [pw_fm p0, h, ih (a / 2) (by omega), fm_left p0, fm_right p0]; rfl
      have e2 : pw p (a % 2) (2 ^ k) = pmod (a % 2) p := by
        rcases Nat.mod_two_eq_zero_or_one a with h2 | h2 <;> rw [h2]
        · obtain ⟨m, hm⟩ := hk
          rw [hm, pw_of_zero p0, pmod_small p0 (Nat.two_pow_pos _)]
        · exact pw_of_one p0 _
      conv => lhs; rw [split_two a]
      rw [frob_xor p0, e1, e2, ← pmod_xor _ _ p0, ← split_two]
end

/-! ### by reckoning: x to the power 2^degree is x, for every prime polynomial of a degree at most 8 -/
def mulF : Nat → Nat → Nat → Nat
  | 0, _, _ => 0
  | f + 1, a, b => bif b % 2 == 1 then a ^^^ (2 * mulF f a (b / 2)) else 2 * mulF f a (b / 2)

theorem mulF_mul : ∀ (f a b : Nat), b < 2 ^ f → mulF f a b = mul a b
  | 0, a, b, h => by
    have : b = 0 := by simp at h; exact h
    subst this; rw [mul_zero]; rfl
  | f + 1, a, b, h => by
    rw [mul_step]; unfold mulF
    rw [mulF_mul f a (b / 2) (by rw [Nat.pow_succ] at h; omega)]
    rcases Nat.mod_two_eq_zero_or_one b with hb | hb <;> simp [hb]

/-- x squared k times -/
def sqF (p : Nat) : Nat → Nat
  | 0 => pmod 2 p
  | k + 1 => pmod (mulF 9 (sqF p k) (sqF p k)) p

theorem sqF_pw {p : Nat} (p0 : p ≠ 0) (hp : p.log2 ≤ 8) (k : Nat) : sqF p k = pw p 2 (2 ^ k) := by
  induction k with
  | zero => show pmod 2 p = pw p 2 1; rw [pw_one p0]
  | succ k ih =>
    rw [pw_two p0, ← ih]
    show pmod _ p = pmod _ p
    rw [mulF_mul]
    have h : sqF p k < 2 ^ p.log2 := by cases k <;> exact pmod_lt _ p0
    exact Nat.lt_of_lt_of_le h (Nat.pow_le_pow_right (by omega) (by omega))

def frobOk (p : Nat) : Bool := sqF p p.log2 == pmod 2 p || (List.range 30).any fun d => Nat.blt (d + 2).log2 p.log2 && pmod p (d + 2) == 0

theorem frobOk_all : ((List.range 510).all fun p => frobOk (p + 2)) = true := by decide +kernel

theorem prime_frob {p : Nat} (hp : Prime p) (hl : p.log2 ≤ 8) (a : Nat) : pw p a (2 ^ p.log2) = pmod a p := by
  have h2 := hp.1
  have p0 : p ≠ 0 := by omega
  have hlt : p < 512 := (Nat.log2_lt p0 (k := 9)).1 (by omega)
  have h := List.all_eq_true.1 frobOk_all (p - 2) (List.mem_range.2 (by omega))
  rw [show p - 2 + 2 = p by omega] at h
  unfold frobOk at h
  rw [Bool.or_eq_true] at h
  rcases h with h | h
  · exact frob_all p0 (by rw [← sqF_pw p0 hl]; exact eq_of_beq h) a
  · exfalso
    obtain ⟨d, _, hd⟩ := List.any_eq_true.1 h
    rw [Bool.and_eq_true, Nat.blt_eq] at hd
    exact hp.2 (d + 2) (by omega) hd.1 (eq_of_beq hd.2)

/-- THE INVERSE: the state to the power of the number of states, less 2 -/
theorem prime_inverse {p a : Nat} (hp : Prime p) (hl : p.log2 ≤ 8) (ha : a ≠ 0) (hlt : a < 2 ^ p.log2) : fm p a (pw p a (2 ^ p.log2 - 2)) = 1 := by
  have h2 := hp.1
  have p0 : p ≠ 0 := by omega
  have hd : 1 ≤ p.log2 := log2_two h2
  have hpow : 2 ≤ 2 ^ p.log2 := by have := Nat.pow_le_pow_right (n := 2) (by omega) hd; omega
  have one : pmod 1 p = 1 := pmod_small p0 (by omega)
  have e := prime_frob hp hl a
  have e2 : 2 ^ p.log2 = (2 ^ p.log2 - 2) + 1 + 1 := by omega
  rw [e2] at e
  have e3 : pw p a (2 ^ p.log2 - 2 + 1) = fm p a (pw p a (2 ^ p.log2 - 2)) := fm_comm p _ _
  have e4 : fm p (pw p a (2 ^ p.log2 - 2 + 1)) a = pmod a p := e
  rw [e3] at e4
  have e5 : pmod (mul a (fm p a (pw p a (2 ^ p.log2 - 2)) ^^^ 1)) p = 0 := by
    show fm p a _ = 0
    rw [fm_xor p0, fm_comm, e4, fm_one p, Nat.xor_self]
  have e6 := prime_cancel hp ha hlt e5
  have hx : fm p a (pw p a (2 ^ p.log2 - 2)) ^^^ 1 < 2 ^ p.log2 := Nat.xor_lt_two_pow (fm_lt p0 _ _) (by omega)
  rw [pmod_small p0 hx] at e6
  exact eq_of_xor e6

theorem fm_cancel {p a b c : Nat} (hp : Prime p) (ha : a ≠ 0) (hlt : a < 2 ^ p.log2) (hb : b < 2 ^ p.log2) (hc : c < 2 ^ p.log2) (h : fm p a b = fm p a c) : b = c := by
  have p0 : p ≠ 0 := by have := hp.1; omega
  have e5 : pmod (mul a (b ^^^ c)) p = 0 := by show fm p a _ = 0; rw [fm_xor p0, h, Nat.xor_self]
  have e6 := prime_cancel hp ha hlt e5
  rw [pmod_small p0 (Nat.xor_lt_two_pow hb hc)] at e6
  exact eq_of_xor e6

theorem fm_eq_zero {p a b : Nat} (hp : Prime p) (ha : a < 2 ^ p.log2) (hb : b < 2 ^ p.log2) : fm p a b = 0 ↔ a = 0 ∨ b = 0 := by
  have p0 : p ≠ 0 := by have := hp.1; omega
  constructor
  · intro h
    by_cases h0 : a = 0
    · exact .inl h0
    · have := prime_cancel hp h0 ha h
      rw [pmod_small p0 hb] at this
      exact .inr this
  · rintro (rfl | rfl)
    · unfold fm; rw [zero_mul, pmod_small p0 (Nat.two_pow_pos _)]
    · unfold fm; rw [mul_zero, pmod_small p0 (Nat.two_pow_pos _)]

/-- The inverse of the inverse -/
theorem prime_inverse_twice {p a : Nat} (hp : Prime p) (hl : p.log2 ≤ 8) (ha : a ≠ 0) (hlt : a < 2 ^ p.log2) :
    pw p (pw p a (2 ^ p.log2 - 2)) (2 ^ p.log2 - 2) = a := by
  have p0 : p ≠ 0 := by have := hp.1; omega
  have h1 := prime_inverse hp hl ha hlt
  have hy : pw p a (2 ^ p.log2 - 2) ≠ 0 := by
    intro h
    rw [h] at h1
    unfold fm at h1; rw [mul_zero, pmod_small p0 (Nat.two_pow_pos _)] at h1
    exact absurd h1 (by omega)
  have h2 := prime_inverse hp hl hy (pw_lt p0 _ _)
  rw [fm_comm] at h1
  exact fm_cancel hp hy (pw_lt p0 _ _) (pw_lt p0 _ _) hlt (h2.trans h1.symm)

theorem prime_of_all {p : Nat} (h0 : 2 ≤ p) {n : Nat} (hn : 2 ^ p.log2 ≤ n) (h : ∀ d, 2 ≤ d → d < n → pmod p d ≠ 0) : Prime p := by
  refine ⟨h0, fun d h2 hd => h d h2 ?_⟩
  have h3 := (Nat.log2_lt (n := d) (k := p.log2) (by omega)).1 hd
  omega

/-! multiplication by x can be taken back where the polynomial has the power 0 -/

theorem mul_mod_two (a b : Nat) : mul a b % 2 = a % 2 * (b % 2) := by
  rw [mul_step, xor_mod_two]
  rcases Nat.mod_two_eq_zero_or_one b with h | h <;> rw [h] <;> simp

theorem twice_cancel {p t : Nat} (hp : p % 2 = 1) (p0 : p ≠ 0) (h : pmod (2 * t) p = 0) : pmod t p = 0 := by
  obtain ⟨q, hq⟩ := (dvd_iff p0).1 h
  have h2 := mul_mod_two p q
  rw [← hq, hp, Nat.one_mul] at h2
  have hq2 : q = 2 * (q / 2) := by omega
  rw [hq2, mul_two_mul] at hq
  have : t = mul p (q / 2) := by omega
  rw [this]
  exact pmod_mul_self _ p0

theorem twice_inj {p s b : Nat} (hp : p % 2 = 1) (p0 : p ≠ 0) (hs : s < 2 ^ p.log2) (hb : b < 2 ^ p.log2) (h : pmod (2 * s) p = pmod (2 * b) p) : s = b := by
  have e : pmod (2 * (s ^^^ b)) p = 0 := by rw [xor_two_mul, pmod_xor _ _ p0, h, Nat.xor_self]
  have := twice_cancel hp p0 e
  rw [pmod_small p0 (Nat.xor_lt_two_pow hs hb)] at this
  exact eq_of_xor this

end Bw
