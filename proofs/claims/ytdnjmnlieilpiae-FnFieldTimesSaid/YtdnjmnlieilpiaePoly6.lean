/- Contracts: products of the reference in a field, and inverses. -/
import Derived.Test.YtdnjmnlieilpiaePoly5

namespace Go.Proofs.Ytdnjmnlieilpiae
open Go.RowKit
set_option linter.unusedVariables false

theorem spec_degree_any (p : Int) : ∃ d : Int, d < 32 ∧ -2 ≤ d ∧ ∀ w : World, Calls Try.prog 9 #[.int .i64 p] w fun e w' => e = .returned (.int .i64 d) ∧ w = w' := by
  by_cases hv : 0 ≤ p ∧ p ≤ 65535
  · obtain ⟨v0, v1⟩ := hv
    obtain ⟨p, rfl⟩ := Int.eq_ofNat_of_zero_le v0
    have := Bw.dg_bd (p := p) (by omega)
    exact ⟨Bw.dg p, by omega, by omega, fun w => spec_PolyDegree_yes p w (by omega)⟩
  · exact ⟨-2, by omega, by omega, fun w => spec_PolyDegree_no p w (by omega)⟩

theorem spec_FieldTimes_yes (a b p : Nat) (w : World) (h1 : p ≤ 511) (hp : Hid (Bw.Prime p)) (ha : a < 2 ^ p.log2) (hb : b < 2 ^ p.log2) :
    Calls Try.prog 14 #[.int .i64 a, .int .i64 b, .int .i64 p] w fun e w' => e = .returned (.int .i64 ((Bw.fm p a b : Nat) : Int)) ∧ w = w' := by
  have h0 : 2 ≤ p := hp.out.1
  have hpw := Bw.modulus_pow h0 h1
  have hlg := Bw.modulus_log h0 h1
  obtain ⟨he, _, _⟩ := Bw.modulus_dg h0 h1
  have hm := Bw.mul_lt a b (m := 8) (n := 8) (by omega) (by omega)
  have HM := Lib.hid hm
  clear hm
  obtain ⟨q, hq⟩ : ∃ q, 2 ^ p.log2 = q := ⟨_, rfl⟩
  rw [hq] at hpw ha hb
  obtain ⟨D, hD⟩ : ∃ D, p.log2 = D := ⟨_, rfl⟩
  rw [hD] at he hlg hq
  have HD := Lib.hid (fun (w : World) => he ▸ spec_PolyDegree_yes p w (by omega))
  have hmx : max (D : Int) 0 = D := by omega
  have hw : wrap64 (2 ^ D) = (q : Int) := by rw [Bw.two_pow_cast, hq, Bw.w64n (by omega)]
  clear he hq hD
  go_enter Try.func14, Try.ntmps14
  go_wp2_with (first | (go_at_call 9; ((with_reducible refine (HD.out _).mono ?_); rintro e w' ⟨rfl, rfl⟩)) | (go_at_call 7; ((with_reducible refine (spec_PolyPrime_yes p _ h1 hp).mono ?_); rintro e w' ⟨rfl, rfl⟩)) | (go_at_call 23; ((with_reducible refine (l1In_yes _ _ _ _ (by omega) (by omega)).mono ?_); rintro e w' ⟨rfl, rfl⟩)) | (go_at_call 33; ((with_reducible refine (l7Times_any a b 8 8 _ (by omega) (by omega) (by omega)).mono ?_); rintro e w' ⟨rfl, rfl⟩)) | (go_at_call 24; ((with_reducible refine (l7Divide_any (Bw.mul a b) p _ (by have := HM.out; omega) (by omega) (by omega)).mono ?_); rintro e w' ⟨rfl, rfl⟩)))
  go_ret
  exact ⟨rfl, rfl⟩

theorem spec_FieldTimes_no (a b p : Int) (w : World) (h : Hid (¬ FieldOk a b p)) :
    Calls Try.prog 14 #[.int .i64 a, .int .i64 b, .int .i64 p] w fun e w' => e = .returned (.int .i64 (-1)) ∧ w = w' := by
  by_cases hp : 0 ≤ p ∧ p ≤ 511 ∧ Bw.Prime p.toNat
  · obtain ⟨p, rfl⟩ := Int.eq_ofNat_of_zero_le hp.1
    have hp2 : Bw.Prime p := by simpa using hp.2.2
    have h0 := hp2.1
    have h1 : p ≤ 511 := by omega
    have HP := Lib.hid hp2
    have hpw := Bw.modulus_pow h0 h1
    have hlg := Bw.modulus_log h0 h1
    obtain ⟨he, _, _⟩ := Bw.modulus_dg h0 h1
    have hor : (a < 0 ∨ ((2 ^ p.log2 : Nat) : Int) ≤ a) ∨ ((0 ≤ a ∧ a < ((2 ^ p.log2 : Nat) : Int)) ∧ (b < 0 ∨ ((2 ^ p.log2 : Nat) : Int) ≤ b)) := by
      by_cases ha : 0 ≤ a ∧ a < ((2 ^ p.log2 : Nat) : Int)
      · refine .inr ⟨ha, ?_⟩
        by_cases hb : 0 ≤ b ∧ b < ((2 ^ p.log2 : Nat) : Int)
        · exact absurd ⟨hp, by rw [Int.toNat_natCast]; exact ha, by rw [Int.toNat_natCast]; exact hb⟩ h.out
        · omega
      · exact .inl (by omega)
    obtain ⟨q, hq⟩ : ∃ q, 2 ^ p.log2 = q := ⟨_, rfl⟩
    rw [hq] at hpw hor
    obtain ⟨D, hD⟩ : ∃ D, p.log2 = D := ⟨_, rfl⟩
    rw [hD] at he hlg hq
    have HD := Lib.hid (fun (w : World) => he ▸ spec_PolyDegree_yes p w (by omega))
    have hmx : max (D : Int) 0 = D := by omega
    have hw : wrap64 (2 ^ D) = (q : Int) := by rw [Bw.two_pow_cast, hq, Bw.w64n (by omega)]
    clear he hq hD hp hp2 h
    rcases hor with hor | ⟨ha, hor⟩
    · go_enter Try.func14, Try.ntmps14
      go_wp2_with (first | (go_at_call 9; ((with_reducible refine (HD.out _).mono ?_); rintro e w' ⟨rfl, rfl⟩)) | (go_at_call 7; ((with_reducible refine (spec_PolyPrime_yes p _ h1 HP).mono ?_); rintro e w' ⟨rfl, rfl⟩)) | (go_at_call 23; ((with_reducible refine (l1In_no _ _ _ _ (by omega)).mono ?_); rintro e w' ⟨rfl, rfl⟩)))
      go_ret
      exact ⟨rfl, rfl⟩
    · go_enter Try.func14, Try.ntmps14
      go_wp2_with (first | (go_at_call 9; ((with_reducible refine (HD.out _).mono ?_); rintro e w' ⟨rfl, rfl⟩)) | (go_at_call 7; ((with_reducible refine (spec_PolyPrime_yes p _ h1 HP).mono ?_); rintro e w' ⟨rfl, rfl⟩)) | (go_at_call 23; ((with_reducible refine (l1In_no _ _ _ _ (by omega)).mono ?_); rintro e w' ⟨rfl, rfl⟩)) | (go_at_call 23; ((with_reducible refine (l1In_yes _ _ _ _ (by omega) (by omega)).mono ?_); rintro e w' ⟨rfl, rfl⟩)))
      go_ret
      exact ⟨rfl, rfl⟩
  · have HP := Lib.hid hp
    obtain ⟨d, hd32, hd2, hcall⟩ := spec_degree_any p
    have HC := Lib.hid hcall
    obtain ⟨m, hm⟩ : ∃ m, wrap64 (2 ^ (max d 0).toNat) = m := ⟨_, rfl⟩
    clear hp h hcall
    go_enter Try.func14, Try.ntmps14
    go_wp2_with (first | (go_at_call 9; ((with_reducible refine (HC.out _).mono ?_); rintro e w' ⟨rfl, rfl⟩)) | (go_at_call 7; ((with_reducible refine (spec_PolyPrime_no p _ HP).mono ?_); rintro e w' ⟨rfl, rfl⟩)))
    go_ret
    exact ⟨rfl, rfl⟩

/-! FieldInverse -/

/-- the arguments of an inverse -/
def InverseOk (a p : Int) : Prop := (0 ≤ p ∧ p ≤ 511 ∧ Bw.Prime p.toNat) ∧ (0 < a ∧ a < ((2 ^ p.toNat.log2 : Nat) : Int))

end Go.Proofs.Ytdnjmnlieilpiae
