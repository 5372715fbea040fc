/- Contracts: products of the reference in a field, and inverses. -/
import Derived.Test.YtdnjmnlieilpiaaPoly5

namespace Go.Proofs.Ytdnjmnlieilpiaa
open Go.RowKit
set_option linter.unusedVariables false

theorem spec_degree_any (p : Int) : ∃ d : Int, d < 32 ∧ -2 ≤ d ∧ ∀ w : World, Calls Try.prog 18 #[.int .i64 p] w fun e w' => e = .returned (.int .i64 d) ∧ w = w' := by
  by_cases hv : 0 ≤ p ∧ p ≤ 65535
  · obtain ⟨v0, v1⟩ := hv
    obtain ⟨p, rfl⟩ := Int.eq_ofNat_of_zero_le v0
    have := Bw.dg_bd (p := p) (by omega)
    exact ⟨Bw.dg p, by omega, by omega, fun w => spec_PolyDegree_yes p w (by omega)⟩
  · exact ⟨-2, by omega, by omega, fun w => spec_PolyDegree_no p w (by omega)⟩

theorem spec_FieldTimes_yes (a b p : Nat) (w : World) (h1 : p ≤ 511) (hp : Hid (Bw.Prime p)) (ha : a < 2 ^ p.log2) (hb : b < 2 ^ p.log2) :
    Calls Try.prog 33 #[.int .i64 a, .int .i64 b, .int .i64 p] w fun e w' => e = .returned (.int .i64 ((Bw.fm p a b : Nat) : Int)) ∧ w = w' := by
  have h0 : 2 ≤ p := hp.out.1
  have hpw := Bw.modulus_pow h0 h1
  have hlg := Bw.modulus_log h0 h1
  obtain ⟨he, _, _⟩ := Bw.modulus_dg h0 h1
  have hm := Bw.mul_lt a b (m := 8) (n := 8) (by omega) (by omega)
  have HM := Lib.hid hm
  clear hm
  obtain ⟨q, hq⟩ : ∃ q, 2 ^ p.log2 = q := ⟨_, rfl⟩
  rw [hq] at hpw ha hb
  obtain ⟨D, hD⟩ : ∃ D, p.log2 = D := ⟨_, rfl⟩
  rw [hD] at he hlg hq
  have HD := Lib.hid (fun (w : World) => he ▸ spec_PolyDegree_yes p w (by omega))
  have hmx : max (D : Int) 0 = D := by omega
  have hw : wrap64 (2 ^ D) = (q : Int) := by rw [Bw.two_pow_cast, hq, Bw.w64n (by omega)]
  clear he hq hD
  go_enter Try.func33, Try.ntmps33
  go_wp2_with (first | (go_at_call 18; ((with_reducible refine (HD.out _).mono ?_); rintro e w' ⟨rfl, rfl⟩)) | (go_at_call 46; ((with_reducible refine (spec_PolyPrime_yes p _ h1 hp).mono ?_); rintro e w' ⟨rfl, rfl⟩)) | (go_at_call 23; ((with_reducible refine (l1In_yes _ _ _ _ (by omega) (by omega)).mono ?_); rintro e w' ⟨rfl, rfl⟩)) | (go_at_call 35; ((with_reducible refine (l7Times_any a b 8 8 _ (by omega) (by omega) (by omega)).mono ?_); rintro e w' ⟨rfl, rfl⟩)) | (go_at_call 34; ((with_reducible refine (l7Divide_any (Bw.mul a b) p _ (by have := HM.out; omega) (by omega) (by omega)).mono ?_); rintro e w' ⟨rfl, rfl⟩)))
  go_ret
  exact ⟨rfl, rfl⟩

theorem spec_FieldTimes_no (a b p : Int) (w : World) (h : Hid (¬ FieldOk a b p)) :
    Calls Try.prog 33 #[.int .i64 a, .int .i64 b, .int .i64 p] w fun e w' => e = .returned (.int .i64 (-1)) ∧ w = w' := by
  by_cases hp : 0 ≤ p ∧ p ≤ 511 ∧ Bw.Prime p.toNat
  · obtain ⟨p, rfl⟩ := Int.eq_ofNat_of_zero_le hp.1
    have hp2 : Bw.Prime p := by simpa using hp.2.2
    have h0 := hp2.1
    have h1 : p ≤ 511 := by omega
    have HP := Lib.hid hp2
    have hpw := Bw.modulus_pow h0 h1
    have hlg := Bw.modulus_log h0 h1
    obtain ⟨he, _, _⟩ := Bw.modulus_dg h0 h1
    have hor : (a < 0 ∨ ((2 ^ p.log2 : Nat) : Int) ≤ a) ∨ ((0 ≤ a ∧ a < ((2 ^ p.log2 : Nat) : Int)) ∧ (b < 0 ∨ ((2 ^ p.log2 : Nat) : Int) ≤ b)) := by
      by_cases ha : 0 ≤ a ∧ a < ((2 ^ p.log2 : Nat) : Int)
      · refine .inr ⟨ha, ?_⟩
        by_cases hb : 0 ≤ b ∧ b < ((2 ^ p.log2 : Nat) : Int)
        · exact absurd ⟨hp, by rw [Int.toNat_natCast]; exact ha, by rw [Int.toNat_natCast]; exact hb⟩ h.out
        · omega
      · exact .inl (by omega)
    obtain ⟨q, hq⟩ : ∃ q, 2 ^ p.log2 = q := ⟨_, rfl⟩
    rw [hq] at hpw hor
    obtain ⟨D, hD⟩ : ∃ D, p.log2 = D := ⟨_, rfl⟩
    rw [hD] at he hlg hq
    have HD := Lib.hid (fun (w : World) => he ▸ spec_PolyDegree_yes p w (by omega))
    have hmx : max (D : Int) 0 = D := by omega
    have hw : wrap64 (2 ^ D) = (q : Int) := by rw [Bw.two_pow_cast, hq, Bw.w64n (by omega)]
    clear he hq hD hp hp2 h
    rcases hor with hor | ⟨ha, hor⟩
    · go_enter Try.func33, Try.ntmps33
      go_wp2_with (first | (go_at_call 18; ((with_reducible refine (HD.out _).mono ?_); rintro e w' ⟨rfl, rfl⟩)) | (go_at_call 46; ((with_reducible refine (spec_PolyPrime_yes p _ h1 HP).mono ?_); rintro e w' ⟨rfl, rfl⟩)) | (go_at_call 23; ((with_reducible refine (l1In_no _ _ _ _ (by omega)).mono ?_); rintro e w' ⟨rfl, rfl⟩)))
      go_ret
      exact ⟨rfl, rfl⟩
    · go_enter Try.func33, Try.ntmps33
      go_wp2_with (first | (go_at_call 18; ((with_reducible refine (HD.out _).mono ?_); rintro e w' ⟨rfl, rfl⟩)) | (go_at_call 46; ((with_reducible refine (spec_PolyPrime_yes p _ h1 HP).mono ?_); rintro e w' ⟨rfl, rfl⟩)) | (go_at_call 23; ((with_reducible refine (l1In_no _ _ _ _ (by omega)).mono ?_); rintro e w' ⟨rfl, rfl⟩)) | (go_at_call 23; ((with_reducible refine (l1In_yes _ _ _ _ (by omega) (by omega)).mono ?_); rintro e w' ⟨rfl, rfl⟩)))
      go_ret
      exact ⟨rfl, rfl⟩
  · have HP := Lib.hid hp
    obtain ⟨d, hd32, hd2, hcall⟩ := spec_degree_any p
    have HC := Lib.hid hcall
    obtain ⟨m, hm⟩ : ∃ m, wrap64 (2 ^ (max d 0).toNat) = m := ⟨_, rfl⟩
    clear hp h hcall
    go_enter Try.func33, Try.ntmps33
    go_wp2_with (first | (go_at_call 18; ((with_reducible refine (HC.out _).mono ?_); rintro e w' ⟨rfl, rfl⟩)) | (go_at_call 46; ((with_reducible refine (spec_PolyPrime_no p _ HP).mono ?_); rintro e w' ⟨rfl, rfl⟩)))
    go_ret
    exact ⟨rfl, rfl⟩

/-! FieldInverse -/

/-- the arguments of an inverse -/
def InverseOk (a p : Int) : Prop := (0 ≤ p ∧ p ≤ 511 ∧ Bw.Prime p.toNat) ∧ (0 < a ∧ a < ((2 ^ p.toNat.log2 : Nat) : Int))

set_option maxHeartbeats 400000 in
theorem impl_FieldInverse_yes (a p : Nat) (w : World) (h1 : p ≤ 511) (hp : Hid (Bw.Prime p)) (ha0 : 0 < a) (ha : a < 2 ^ p.log2) :
    Calls Try.prog 14 #[.int .i64 a, .int .i64 p] w fun e w' => e = .returned (.int .i64 ((Bw.pw p a (2 ^ p.log2 - 2) : Nat) : Int)) ∧ w = w' := by
  have h0 : 2 ≤ p := hp.out.1
  have hpw := Bw.modulus_pow h0 h1
  have hlg := Bw.modulus_log h0 h1
  obtain ⟨he, _, _⟩ := Bw.modulus_dg h0 h1
  have HD := Lib.hid (fun (w : World) => he ▸ degree_any p w (by omega))
  have HS := Lib.hid (fun w : World => isState_yes a p w h0 h1 ha)
  have HT := Lib.hid (fun (k : Nat) (w : World) => impl_FieldTimes_yes (Bw.pw p a k) a p w h1 hp (Bw.pw_lt (by omega) a k) ha)
  have H1 : Hid (Bw.pw p a 0 = 1) := Bw.pmod_small (by omega) (by omega)
  obtain ⟨q, hq⟩ : ∃ q, 2 ^ p.log2 = q := ⟨_, rfl⟩
  have HP := Lib.hid (fun (w : World) => hq ▸ power_any p.log2 w (by omega))
  rw [hq] at hpw ⊢
  clear he hq ha
  go_enter Try.func14, Try.ntmps14
  go_wp2_with (first | (go_at_call 29; ((with_reducible refine (impl_PolyPrime_yes p _ h1 hp).mono ?_); rintro e w' ⟨rfl, rfl⟩)) | (go_at_call 30; ((with_reducible refine (HS.out _).mono ?_); rintro e w' ⟨rfl, rfl⟩)) | (go_at_call 32; ((with_reducible refine (HD.out _).mono ?_); rintro e w' ⟨rfl, rfl⟩)) | (go_at_call 31; ((with_reducible refine (HP.out _).mono ?_); rintro e w' ⟨rfl, rfl⟩)))
  go_loop [5, 23] (fun t i => ∃ k : Nat, k ≤ q - 2 ∧ i = .int .i64 k ∧ t = .int .i64 ((Bw.pw p a k : Nat) : Int)) (fun _ i => q - 2 - (intOf i).toNat)
  case atStart => exact ⟨0, by omega, rfl, by rw [H1.out]; rfl⟩
  case round =>
    obtain ⟨k, hk, rfl, rfl⟩ := hrel
    by_cases hl : k < q - 2
    · have hdec : decide ((k : Int) < (q : Int) - 2) = true := by rw [decide_eq_true_eq]; omega
      go_wp2_with (go_at_call 17; ((with_reducible refine (HT.out k _).mono ?_); rintro e w' ⟨rfl, rfl⟩))
      go_round
      case rel => exact ⟨k + 1, by omega, by go_num, rfl⟩
      case measure => simp [intOf]; omega
    · obtain rfl : k = q - 2 := by omega
      have hdec : decide (((q - 2 : Nat) : Int) < (q : Int) - 2) = false := by rw [decide_eq_false_iff_not]; omega
      go_wp2_with fail
      go_ret
      exact ⟨rfl, rfl⟩

theorem impl_FieldInverse_no (a p : Int) (w : World) (h : Hid (¬ InverseOk a p)) :
    Calls Try.prog 14 #[.int .i64 a, .int .i64 p] w fun e w' => e = .returned (.int .i64 (-1)) ∧ w = w' := by
  by_cases hp : 0 ≤ p ∧ p ≤ 511 ∧ Bw.Prime p.toNat
  · obtain ⟨p, rfl⟩ := Int.eq_ofNat_of_zero_le hp.1
    have hp2 : Bw.Prime p := by simpa using hp.2.2
    have h0 := hp2.1
    have h1 : p ≤ 511 := by omega
    have HP := Lib.hid hp2
    by_cases ha0 : a = 0
    · subst ha0
      have HS : Hid (∀ w : World, Calls Try.prog 30 #[.int .i64 0, .int .i64 p] w fun e w' => e = .returned (.bool true) ∧ w = w') := fun w => by
        have t := isState_yes 0 p w h0 h1 (Nat.two_pow_pos _)
        rw [Int.ofNat_zero] at t
        exact t
      clear hp hp2 h
      go_enter Try.func14, Try.ntmps14
      go_wp2_with (first | (go_at_call 29; ((with_reducible refine (impl_PolyPrime_yes p _ h1 HP).mono ?_); rintro e w' ⟨rfl, rfl⟩)) | (go_at_call 30; ((with_reducible refine (HS.out _).mono ?_); rintro e w' ⟨rfl, rfl⟩)))
      go_ret
      exact ⟨rfl, rfl⟩
    · have HS := Lib.hid (fun w : World => isState_no a p w (.inr (by
        rw [Int.toNat_natCast]
        by_cases ha : 0 < a ∧ a < ((2 ^ p.log2 : Nat) : Int)
        · exact absurd ⟨hp, by rw [Int.toNat_natCast]; exact ha⟩ h.out
        · omega)))
      clear hp hp2 h ha0
      go_enter Try.func14, Try.ntmps14
      go_wp2_with (first | (go_at_call 29; ((with_reducible refine (impl_PolyPrime_yes p _ h1 HP).mono ?_); rintro e w' ⟨rfl, rfl⟩)) | (go_at_call 30; ((with_reducible refine (HS.out _).mono ?_); rintro e w' ⟨rfl, rfl⟩)))
      go_ret
      exact ⟨rfl, rfl⟩
  · have HP := Lib.hid hp
    clear hp h
    go_enter Try.func14, Try.ntmps14
    go_wp2_with (go_at_call 29; ((with_reducible refine (impl_PolyPrime_no p _ HP).mono ?_); rintro e w' ⟨rfl, rfl⟩))
    go_ret
    exact ⟨rfl, rfl⟩

set_option maxHeartbeats 400000 in
theorem spec_FieldInverse_yes (a p : Nat) (w : World) (h1 : p ≤ 511) (hp : Hid (Bw.Prime p)) (ha0 : 0 < a) (ha : a < 2 ^ p.log2) :
    Calls Try.prog 15 #[.int .i64 a, .int .i64 p] w fun e w' => e = .returned (.int .i64 ((Bw.pw p a (2 ^ p.log2 - 2) : Nat) : Int)) ∧ w = w' := by
  have h0 : 2 ≤ p := hp.out.1
  have hpw := Bw.modulus_pow h0 h1
  have hlg := Bw.modulus_log h0 h1
  obtain ⟨he, _, _⟩ := Bw.modulus_dg h0 h1
  have HF : Hid (∀ w : World, Calls Try.prog 33 #[.int .i64 a, .int .i64 1, .int .i64 p] w fun e w' => e = .returned (.int .i64 (a : Int)) ∧ w = w') := fun w => by
    have t := spec_FieldTimes_yes a 1 p w h1 hp ha (by omega)
    rw [Int.ofNat_one, Bw.fm_one, Bw.pmod_small (by omega) ha] at t
    exact t
  have HL := Lib.hid (fun k => (show Bw.pw p a k < 256 from by have := Bw.pw_lt (p := p) (by omega) a k; omega))
  have HM := Lib.hid (fun k => (show Bw.mul (Bw.pw p a k) a < 65536 from by have := Bw.mul_lt (Bw.pw p a k) a (m := 8) (n := 8) (by have := Bw.pw_lt (p := p) (by omega) a k; omega) (by omega); omega))
  have H1 : Hid (Bw.pw p a 0 = 1) := Bw.pmod_small (by omega) (by omega)
  have ha8 : a < 256 := by omega
  obtain ⟨q, hq⟩ : ∃ q, 2 ^ p.log2 = q := ⟨_, rfl⟩
  rw [hq] at hpw ⊢
  obtain ⟨D, hD⟩ : ∃ D, p.log2 = D := ⟨_, rfl⟩
  rw [hD] at he hlg hq
  have HD := Lib.hid (fun (w : World) => he ▸ spec_PolyDegree_yes p w (by omega))
  have hw : wrap64 (2 ^ D) = (q : Int) := by rw [Bw.two_pow_cast, hq, Bw.w64n (by omega)]
  clear he hq hD ha
  go_enter Try.func15, Try.ntmps15
  go_wp2_with (go_at_call 33; ((with_reducible refine (HF.out _).mono ?_); rintro e w' ⟨rfl, rfl⟩))
  go_loop [5, 6] (fun t i => ∃ k : Nat, k ≤ q - 2 ∧ i = .int .i64 k ∧ t = .int .i64 ((Bw.pw p a k : Nat) : Int)) (fun _ i => q - 2 - (intOf i).toNat)
  case atStart => exact ⟨0, by omega, rfl, by rw [H1.out]; rfl⟩
  case round =>
    obtain ⟨k, hk, rfl, rfl⟩ := hrel
    by_cases hl : k < q - 2
    · have hdec : decide ((k : Int) < (q : Int) - 2) = true := by rw [decide_eq_true_eq]; omega
      have hlk := HL.out k
      have hmk := HM.out k
      go_wp2_with (first | (go_at_call 18; ((with_reducible refine (HD.out _).mono ?_); rintro e w' ⟨rfl, rfl⟩)) | (go_at_call 35; ((with_reducible refine (l7Times_any (Bw.pw p a k) a 8 8 _ (by omega) (by omega) (by omega)).mono ?_); rintro e w' ⟨rfl, rfl⟩)) | (go_at_call 34; ((with_reducible refine (l7Divide_any (Bw.mul (Bw.pw p a k) a) p _ (by omega) (by omega) (by omega)).mono ?_); rintro e w' ⟨rfl, rfl⟩)))
      go_round
      case rel => exact ⟨k + 1, by omega, by go_num, rfl⟩
      case measure => simp [intOf]; omega
    · obtain rfl : k = q - 2 := by omega
      have hdec : decide (((q - 2 : Nat) : Int) < (q : Int) - 2) = false := by rw [decide_eq_false_iff_not]; omega
      go_wp2_with (go_at_call 18; ((with_reducible refine (HD.out _).mono ?_); rintro e w' ⟨rfl, rfl⟩))
      go_ret
      exact ⟨rfl, rfl⟩

theorem spec_FieldInverse_no (a p : Int) (w : World) (h : Hid (¬ InverseOk a p)) :
    Calls Try.prog 15 #[.int .i64 a, .int .i64 p] w fun e w' => e = .returned (.int .i64 (-1)) ∧ w = w' := by
  by_cases hp : (0 ≤ p ∧ p ≤ 511 ∧ Bw.Prime p.toNat) ∧ a = 0
  · obtain ⟨hp, rfl⟩ := hp
    obtain ⟨p, rfl⟩ := Int.eq_ofNat_of_zero_le hp.1
    have hp2 : Bw.Prime p := by simpa using hp.2.2
    have h0 := hp2.1
    have h1 : p ≤ 511 := by omega
    have hpw := Bw.modulus_pow h0 h1
    have HF : Hid (∀ w : World, Calls Try.prog 33 #[.int .i64 0, .int .i64 1, .int .i64 p] w fun e w' => e = .returned (.int .i64 0) ∧ w = w') := fun w => by
      have t := spec_FieldTimes_yes 0 1 p w h1 hp2 (by omega) (by omega)
      rw [Int.ofNat_one, Bw.fm_one, Bw.pmod_small (by omega) (by omega), Int.ofNat_zero] at t
      exact t
    clear hp hp2 h
    go_enter Try.func15, Try.ntmps15
    go_wp2_with (go_at_call 33; ((with_reducible refine (HF.out _).mono ?_); rintro e w' ⟨rfl, rfl⟩))
    go_ret
    exact ⟨rfl, rfl⟩
  · have HN := Lib.hid (fun w : World => spec_FieldTimes_no a 1 p w (fun hf => h.out ⟨hf.1, by have := hf.2.1; by_cases h0 : a = 0; exact absurd ⟨hf.1, h0⟩ hp; omega⟩))
    clear hp h
    go_enter Try.func15, Try.ntmps15
    go_wp2_with (go_at_call 33; ((with_reducible refine (HN.out _).mono ?_); rintro e w' ⟨rfl, rfl⟩))
    go_ret
    exact ⟨rfl, rfl⟩

end Go.Proofs.Ytdnjmnlieilpiaa
