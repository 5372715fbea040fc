/- Contracts: registers and fields. -/
import Derived.Test.YtdnjmnlieilpiadPoly4

namespace Go.Proofs.Ytdnjmnlieilpiad
open Go.RowKit
set_option linter.unusedVariables false

/-! RegisterNext -/

theorem impl_RegisterNext_yes (s p : Nat) (w : World) (h0 : 2 ≤ p) (h1 : p ≤ 511) (hs : s < 2 ^ p.log2) :
    Calls Try.prog 10 #[.int .i64 s, .int .i64 p] w fun e w' => e = .returned (.int .i64 ((Bw.pmod (2 * s) p : Nat) : Int)) ∧ w = w' := by
  have hpw := Bw.modulus_pow h0 h1
  have HS := Lib.hid hs
  have hs2 : s < 256 := by omega
  clear hs hpw
  go_enter Try.func10, Try.ntmps10
  go_wp2_with (first | (go_at_call 36; ((with_reducible refine (isState_yes s p _ h0 h1 HS.out).mono ?_); rintro e w' ⟨rfl, rfl⟩)) | (go_at_call 37; rw [show (2 : Int) * (s : Int) = ((2 * s : Nat) : Int) from by omega]; ((with_reducible refine (rest_any (2 * s) p _ (by omega) (by omega) (by omega)).mono ?_); rintro e w' ⟨rfl, rfl⟩)))
  go_ret
  exact ⟨rfl, rfl⟩

theorem impl_RegisterNext_no (s p : Int) (w : World) (h : (p < 2 ∨ 511 < p) ∨ (s < 0 ∨ ((2 ^ p.toNat.log2 : Nat) : Int) ≤ s)) :
    Calls Try.prog 10 #[.int .i64 s, .int .i64 p] w fun e w' => e = .returned (.int .i64 (-1)) ∧ w = w' := by
  have HN := Lib.hid (fun w : World => isState_no s p w h)
  clear h
  go_enter Try.func10, Try.ntmps10
  go_wp2_with (go_at_call 36; ((with_reducible refine (HN.out _).mono ?_); rintro e w' ⟨rfl, rfl⟩))
  go_ret
  exact ⟨rfl, rfl⟩

theorem spec_RegisterNext_yes (s p : Nat) (w : World) (h0 : 2 ≤ p) (h1 : p ≤ 511) (hs : s < 2 ^ p.log2) :
    Calls Try.prog 11 #[.int .i64 s, .int .i64 p] w fun e w' => e = .returned (.int .i64 ((Bw.pmod (2 * s) p : Nat) : Int)) ∧ w = w' := by
  have hpw := Bw.modulus_pow h0 h1
  have hlg := Bw.modulus_log h0 h1
  obtain ⟨he, hd0, hd1⟩ := Bw.modulus_dg h0 h1
  have hs2 : s < 256 := by omega
  have e : wrap64 (2 ^ (Bw.dg p).toNat) = ((2 ^ p.log2 : Nat) : Int) := by rw [he, Int.toNat_natCast, Bw.two_pow_cast, Bw.w64n (by omega)]
  have HE := Lib.hid e
  generalize hq : 2 ^ p.log2 = q at *
  clear he e hq
  go_enter Try.func11, Try.ntmps11
  go_wp2_with (first | (go_at_call 13; ((with_reducible refine (spec_PolyDegree_yes p _ (by omega)).mono ?_); rintro e w' ⟨rfl, rfl⟩)) | (go_at_call 38; ((with_reducible refine (l1In_yes (Bw.dg p) _ _ _ (by omega) (by omega)).mono ?_); rintro e w' ⟨rfl, rfl⟩)) | (go_at_call 38; rw [HE.out]; (refine (l1In_yes (s : Int) _ _ _ (by omega) (by simp only [Bw.w64 (n := (q : Int) - 1) (by omega)]; omega)).mono ?_); rintro e w' ⟨rfl, rfl⟩) | (go_at_call 39; rw [show (2 : Int) * (s : Int) = ((2 * s : Nat) : Int) from by omega]; ((with_reducible refine (l7Divide_any (2 * s) p _ (by omega) (by omega) (by omega)).mono ?_); rintro e w' ⟨rfl, rfl⟩)))
  go_ret
  exact ⟨rfl, rfl⟩

theorem spec_RegisterNext_no1 (s : Int) (p : Nat) (w : World) (h0 : 2 ≤ p) (h1 : p ≤ 511) (hs : s < 0 ∨ ((2 ^ p.log2 : Nat) : Int) ≤ s) :
    Calls Try.prog 11 #[.int .i64 s, .int .i64 p] w fun e w' => e = .returned (.int .i64 (-1)) ∧ w = w' := by
  have hpw := Bw.modulus_pow h0 h1
  have hlg := Bw.modulus_log h0 h1
  obtain ⟨he, hd0, hd1⟩ := Bw.modulus_dg h0 h1
  have e : wrap64 (2 ^ (Bw.dg p).toNat) = ((2 ^ p.log2 : Nat) : Int) := by rw [he, Int.toNat_natCast, Bw.two_pow_cast, Bw.w64n (by omega)]
  have HE := Lib.hid e
  generalize hq : 2 ^ p.log2 = q at *
  clear he e hq
  go_enter Try.func11, Try.ntmps11
  go_wp2_with (first | (go_at_call 13; ((with_reducible refine (spec_PolyDegree_yes p _ (by omega)).mono ?_); rintro e w' ⟨rfl, rfl⟩)) | (go_at_call 38; ((with_reducible refine (l1In_yes (Bw.dg p) _ _ _ (by omega) (by omega)).mono ?_); rintro e w' ⟨rfl, rfl⟩)) | (go_at_call 38; rw [HE.out]; (refine (l1In_no (s : Int) _ _ _ (by simp only [Bw.w64 (n := (q : Int) - 1) (by omega)]; omega)).mono ?_); rintro e w' ⟨rfl, rfl⟩))
  go_ret
  exact ⟨rfl, rfl⟩

theorem spec_RegisterNext_no (s p : Int) (w : World) (h : (p < 2 ∨ 511 < p) ∨ (s < 0 ∨ ((2 ^ p.toNat.log2 : Nat) : Int) ≤ s)) :
    Calls Try.prog 11 #[.int .i64 s, .int .i64 p] w fun e w' => e = .returned (.int .i64 (-1)) ∧ w = w' := by
  by_cases hm : 2 ≤ p ∧ p ≤ 511
  · obtain ⟨m0, m1⟩ := hm
    obtain ⟨q, rfl⟩ := Int.eq_ofNat_of_zero_le (show 0 ≤ p by omega)
    rw [Int.toNat_natCast] at h
    exact spec_RegisterNext_no1 s q w (by omega) (by omega) (by omega)
  · have hm2 : p < 2 ∨ 511 < p := by omega
    obtain ⟨d, hd, hd32, hd2, hcall⟩ := spec_degree_no p hm2
    have HC := Lib.hid hcall
    clear hm hcall h
    go_enter Try.func11, Try.ntmps11
    go_wp2_with (first | (go_at_call 13; ((with_reducible refine (HC.out _).mono ?_); rintro e w' ⟨rfl, rfl⟩)) | (go_at_call 38; ((with_reducible refine (l1In_no _ _ _ _ (by omega)).mono ?_); rintro e w' ⟨rfl, rfl⟩)))
    go_ret
    exact ⟨rfl, rfl⟩

/-! RegisterPeriod -/

set_option maxHeartbeats 400000 in
theorem impl_RegisterPeriod_yes (p : Nat) (w : World) (h0 : 2 ≤ p) (h1 : p ≤ 511) :
    Calls Try.prog 19 #[.int .i64 p] w fun e w' => e = .returned (.int .i64 (Bw.per p)) ∧ w = w' := by
  have hpw := Bw.modulus_pow h0 h1
  have hlg := Bw.modulus_log h0 h1
  obtain ⟨he, _, _⟩ := Bw.modulus_dg h0 h1
  have HD := Lib.hid (fun (w : World) => he ▸ degree_any p w (by omega))
  have HM := Lib.hid (fun a => (Bw.pmod_lt256 h0 h1 a).2)
  obtain ⟨q, hq⟩ : ∃ q, 2 ^ p.log2 = q := ⟨_, rfl⟩
  have HP := Lib.hid (fun (w : World) => hq ▸ power_any p.log2 w (by omega))
  have HR : Hid (Bw.per p = Bw.perF p (q + 1 - 1) 1 ((1 : Nat) : Int)) := by unfold Bw.per Hid; rw [hq]; rfl
  rw [hq] at hpw
  clear he hq
  go_enter Try.func19, Try.ntmps19
  go_wp2_with (go_at_call 45; ((with_reducible refine (isModulus_yes p _ h0 h1).mono ?_); rintro e w' ⟨rfl, rfl⟩))
  go_loop [3, 4] (fun t i => ∃ s n : Nat, s < 256 ∧ 1 ≤ n ∧ n ≤ q + 1 ∧ Hid (Bw.per p = Bw.perF p (q + 1 - n) s (n : Int)) ∧ t = .int .i64 s ∧ i = .int .i64 n) (fun _ i => q + 1 - (intOf i).toNat)
  case atStart => exact ⟨1, 1, by omega, by omega, by omega, HR, rfl, rfl⟩
  case round =>
    obtain ⟨s, n, hs, hn, hn2, hr, rfl, rfl⟩ := hrel
    by_cases hl : n ≤ q
    · have hdec : decide ((n : Int) ≤ (q : Int)) = true := by rw [decide_eq_true_eq]; omega
      have hm2 := HM.out (2 * s)
      by_cases hm : Bw.pmod (2 * s) p = 1
      · have ht : (((Bw.pmod (2 * s) p : Nat) : Int) == 1) = true := by rw [hm]; rfl
        have HH := Lib.hid hm
        clear hm
        go_wp2_with (first | (go_at_call 47; ((with_reducible refine (HD.out _).mono ?_); rintro e w' ⟨rfl, rfl⟩)) | (go_at_call 50; ((with_reducible refine (HP.out _).mono ?_); rintro e w' ⟨rfl, rfl⟩)) | (go_at_call 37; rw [show (2 : Int) * (s : Int) = ((2 * s : Nat) : Int) from by omega]; ((with_reducible refine (rest_any (2 * s) p _ (by omega) (by omega) (by omega)).mono ?_); rintro e w' ⟨rfl, rfl⟩)))
        go_ret
        exact ⟨by rw [hr.out, show q + 1 - n = (q - n) + 1 by omega, Bw.perF_hit HH.out]; rfl, rfl⟩
      · have ht : (((Bw.pmod (2 * s) p : Nat) : Int) == 1) = false := by rw [beq_eq_false_iff_ne]; omega
        have HH := Lib.hid hm
        clear hm
        go_wp2_with (first | (go_at_call 47; ((with_reducible refine (HD.out _).mono ?_); rintro e w' ⟨rfl, rfl⟩)) | (go_at_call 50; ((with_reducible refine (HP.out _).mono ?_); rintro e w' ⟨rfl, rfl⟩)) | (go_at_call 37; rw [show (2 : Int) * (s : Int) = ((2 * s : Nat) : Int) from by omega]; ((with_reducible refine (rest_any (2 * s) p _ (by omega) (by omega) (by omega)).mono ?_); rintro e w' ⟨rfl, rfl⟩)))
        go_round
        case rel => exact ⟨_, n + 1, hm2, by omega, by omega, by unfold Hid; rw [hr.out, show q + 1 - n = (q - n) + 1 by omega, Bw.perF_miss HH.out, show q + 1 - (n + 1) = q - n by omega]; rfl, rfl, by go_num⟩
        case measure => simp [intOf]; omega
    · obtain rfl : n = q + 1 := by omega
      have hdec : decide (((q + 1 : Nat) : Int) ≤ (q : Int)) = false := by rw [decide_eq_false_iff_not]; omega
      have hdec2 : decide (((q : Nat) : Int) + 1 ≤ (q : Int)) = false := by rw [decide_eq_false_iff_not]; omega
      go_wp2_with (first | (go_at_call 47; ((with_reducible refine (HD.out _).mono ?_); rintro e w' ⟨rfl, rfl⟩)) | (go_at_call 50; ((with_reducible refine (HP.out _).mono ?_); rintro e w' ⟨rfl, rfl⟩)))
      go_ret
      exact ⟨by rw [hr.out, show q + 1 - (q + 1) = 0 by omega]; rfl, rfl⟩

theorem impl_RegisterPeriod_no (p : Int) (w : World) (h : p < 2 ∨ 511 < p) :
    Calls Try.prog 19 #[.int .i64 p] w fun e w' => e = .returned (.int .i64 (-1)) ∧ w = w' := by
  go_enter Try.func19, Try.ntmps19
  go_wp2_with (go_at_call 45; ((with_reducible refine (isModulus_no p _ h).mono ?_); rintro e w' ⟨rfl, rfl⟩))
  go_ret
  exact ⟨rfl, rfl⟩

theorem spec_RegisterPeriod_no (p : Int) (w : World) (h : p < 2 ∨ 511 < p) :
    Calls Try.prog 20 #[.int .i64 p] w fun e w' => e = .returned (.int .i64 (-1)) ∧ w = w' := by
  obtain ⟨d, hd, hd32, hd2, hcall⟩ := spec_degree_no p h
  have HC := Lib.hid hcall
  have HN := Lib.hid (fun w : World => spec_RegisterNext_no 1 p w (.inl h))
  clear hcall
  obtain ⟨m, hm⟩ : ∃ m, wrap64 (2 ^ (max (min d 8) 0).toNat) = m := ⟨_, rfl⟩
  clear hd h
  go_enter Try.func20, Try.ntmps20
  go_wp2_with (first | (go_at_call 13; ((with_reducible refine (HC.out _).mono ?_); rintro e w' ⟨rfl, rfl⟩)) | (go_at_call 11; ((with_reducible refine (HN.out _).mono ?_); rintro e w' ⟨rfl, rfl⟩)))
  refine wp_loop_rounds 1 ?_
  rw [rounds_succ]
  go_wp2
  all_goals
    go_ret
    exact ⟨rfl, rfl⟩

set_option maxHeartbeats 400000 in
theorem spec_RegisterPeriod_yes (p : Nat) (w : World) (h0 : 2 ≤ p) (h1 : p ≤ 511) :
    Calls Try.prog 20 #[.int .i64 p] w fun e w' => e = .returned (.int .i64 (Bw.per p)) ∧ w = w' := by
  have hpw := Bw.modulus_pow h0 h1
  have hlg := Bw.modulus_log h0 h1
  obtain ⟨he, _, _⟩ := Bw.modulus_dg h0 h1
  have HM := Lib.hid (fun a => (Bw.pmod_lt256 h0 h1 a).2)
  have HN := Lib.hid (fun (a : Nat) (h : a < 2 ^ p.log2) (w : World) => spec_RegisterNext_yes a p w h0 h1 h)
  have hn1 : ∀ w : World, Calls Try.prog 11 #[.int .i64 1, .int .i64 p] w fun e w' => e = .returned (.int .i64 ((Bw.pmod (2 * 1) p : Nat) : Int)) ∧ w = w' := fun w => by
    have t := spec_RegisterNext_yes 1 p w h0 h1 (by omega)
    rw [Int.ofNat_one] at t
    exact t
  have HN1 := Lib.hid hn1
  clear hn1
  have HL := Lib.hid (fun a => (Bw.pmod_lt256 h0 h1 a).1)
  obtain ⟨q, hq⟩ : ∃ q, 2 ^ p.log2 = q := ⟨_, rfl⟩
  have HR : Hid (Bw.per p = Bw.perF p (q + 1 - 1) 1 ((1 : Nat) : Int)) := by unfold Bw.per Hid; rw [hq]; rfl
  rw [hq] at hpw HN HL
  obtain ⟨D, hD⟩ : ∃ D, p.log2 = D := ⟨_, rfl⟩
  rw [hD] at he hlg hq
  have HD := Lib.hid (fun (w : World) => he ▸ spec_PolyDegree_yes p w (by omega))
  have hmn : min (D : Int) 8 = D := by omega
  have hmx : max (D : Int) 0 = D := by omega
  have hw : wrap64 (2 ^ D) = (q : Int) := by rw [Bw.two_pow_cast, hq, Bw.w64n (by omega)]
  clear he hq hD
  go_enter Try.func20, Try.ntmps20
  go_wp2_with (first | (go_at_call 13; ((with_reducible refine (HD.out _).mono ?_); rintro e w' ⟨rfl, rfl⟩)) | (go_at_call 11; ((with_reducible refine (HN1.out _).mono ?_); rintro e w' ⟨rfl, rfl⟩)))
  go_loop [4, 5] (fun t i => ∃ s n : Nat, s < q ∧ 1 ≤ n ∧ n ≤ q + 1 ∧ Hid (Bw.per p = Bw.perF p (q + 1 - n) s (n : Int)) ∧ t = .int .i64 ((Bw.pmod (2 * s) p : Nat) : Int) ∧ i = .int .i64 n) (fun _ i => q + 1 - (intOf i).toNat)
  case atStart => exact ⟨1, 1, by omega, by omega, by omega, HR, rfl, rfl⟩
  case round =>
    obtain ⟨s, n, hs, hn, hn2, hr, rfl, rfl⟩ := hrel
    by_cases hl : n ≤ q
    · have hdec : decide ((n : Int) ≤ (q : Int)) = true := by rw [decide_eq_true_eq]; omega
      have hm2 := HM.out (2 * s)
      have hm3 := HL.out (2 * s)
      by_cases hm : Bw.pmod (2 * s) p = 1
      · have ht : (((Bw.pmod (2 * s) p : Nat) : Int) == 1) = true := by rw [hm]; rfl
        have HH := Lib.hid hm
        clear hm
        go_wp2_with fail
        go_ret
        exact ⟨by rw [hr.out, show q + 1 - n = (q - n) + 1 by omega, Bw.perF_hit HH.out]; rfl, rfl⟩
      · have ht : (((Bw.pmod (2 * s) p : Nat) : Int) == 1) = false := by rw [beq_eq_false_iff_ne]; omega
        have HH := Lib.hid hm
        clear hm
        go_wp2_with (go_at_call 11; ((with_reducible refine (HN.out (Bw.pmod (2 * s) p) hm3 _).mono ?_); rintro e w' ⟨rfl, rfl⟩))
        go_round
        case rel => exact ⟨_, n + 1, hm3, by omega, by omega, by unfold Hid; rw [hr.out, show q + 1 - n = (q - n) + 1 by omega, Bw.perF_miss HH.out, show q + 1 - (n + 1) = q - n by omega]; rfl, rfl, by go_num⟩
        case measure => simp [intOf]; omega
    · obtain rfl : n = q + 1 := by omega
      have hdec : decide (((q + 1 : Nat) : Int) ≤ (q : Int)) = false := by rw [decide_eq_false_iff_not]; omega
      have hdec2 : decide (((q : Nat) : Int) + 1 ≤ (q : Int)) = false := by rw [decide_eq_false_iff_not]; omega
      go_wp2_with fail
      go_ret
      exact ⟨by rw [hr.out, show q + 1 - (q + 1) = 0 by omega]; rfl, rfl⟩

/-! FieldTimes -/

/-- the arguments of a product in a field -/
def FieldOk (a b p : Int) : Prop := (0 ≤ p ∧ p ≤ 511 ∧ Bw.Prime p.toNat) ∧ (0 ≤ a ∧ a < ((2 ^ p.toNat.log2 : Nat) : Int)) ∧ (0 ≤ b ∧ b < ((2 ^ p.toNat.log2 : Nat) : Int))

end Go.Proofs.Ytdnjmnlieilpiad
