/- Plain arithmetic for the laws on divisions and registers. -/
import Derived.Test.YtdnjmnlieilpiadLawPlain

namespace Bw
open Go Go.RowKit

theorem div_facts {x y : Nat} (hx : x ≤ 65535) (hy : y ≤ 65535) (h0 : y ≠ 0) : pmod x y ≤ 65535 ∧ dg (pmod x y) < dg y ∧ mul y (pdiv x y) ≤ 65535 ∧ pdiv x y ≤ 65535 := by
  have hr := pmod_lt x h0
  have hrl := pmod_le x h0
  have e := pdiv_pmod x y
  have hm : mul y (pdiv x y) ≤ 65535 := by
    have : mul y (pdiv x y) = x ^^^ pmod x y := by
      conv => rhs; lhs; rw [e]
      rw [xor_cancel]
    rw [this]
    have := Nat.xor_lt_two_pow (n := 16) (show x < 2 ^ 16 by omega) (show pmod x y < 2 ^ 16 by omega)
    omega
  refine ⟨by omega, dg_of_lt h0 hr, hm, ?_⟩
  by_cases hq : pdiv x y = 0
  · omega
  · have h1 := (deg_mul (deg_log h0) (deg_log hq)).1
    have h2 : (pdiv x y).log2 < 16 := by
      have : y.log2 + (pdiv x y).log2 < 16 := (Nat.pow_lt_pow_iff_right (a := 2) (by omega)).1 (Nat.lt_of_le_of_lt h1 (by omega))
      omega
    have := (Nat.log2_lt hq).1 h2
    omega

/-! by reckoning: the periods of all registers -/
def perOk (p : Nat) : Bool :=
  (decide (0 < per p) == decide (p % 2 = 1)) && decide (per p < ((2 ^ p.log2 : Nat) : Int)) && (decide (per p < 0) || decide (0 < per p)) &&
    (decide (per p < 0) || ((2 ^ p.log2 - 1) % (per p).toNat == 0) || (List.range 30).any fun d => Nat.blt (d + 2).log2 p.log2 && pmod p (d + 2) == 0)

theorem perOk_all : ((List.range 510).all fun p => perOk (p + 2)) = true := by decide +kernel

theorem per_facts {p : Nat} (h0 : 2 ≤ p) (h1 : p ≤ 511) : ((0 < per p) ↔ p % 2 = 1) ∧ per p < ((2 ^ p.log2 : Nat) : Int) ∧ (per p < 0 ∨ 0 < per p) ∧ (0 < per p → Prime p → ((2 ^ p.log2 - 1 : Nat) : Int) % per p = 0) := by
  have h := List.all_eq_true.1 perOk_all (p - 2) (List.mem_range.2 (by omega))
  rw [show p - 2 + 2 = p by omega] at h
  unfold perOk at h
  simp only [Bool.and_eq_true, beq_iff_eq, decide_eq_true_eq, Bool.or_eq_true] at h
  obtain ⟨⟨⟨a, b⟩, c⟩, d⟩ := h
  refine ⟨by simpa using a, b, c, fun hpos hp => ?_⟩
  rcases d with (d | d) | d
  · omega
  · obtain ⟨r, hr⟩ := Int.eq_ofNat_of_zero_le (show 0 ≤ per p by omega)
    rw [hr, Int.toNat_natCast] at d
    rw [hr]
    omega
  · exfalso
    obtain ⟨x, _, hx⟩ := List.any_eq_true.1 d
    rw [Bool.and_eq_true, Nat.blt_eq] at hx
    exact hp.2 (x + 2) (by omega) hx.1 (eq_of_beq hx.2)

end Bw
