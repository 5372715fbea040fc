/- Contracts: prime polynomials, registers, fields. -/
import Derived.Test.YtdnjmnlieilpiaePoly3

namespace Go.Proofs.Ytdnjmnlieilpiae
open Go.RowKit
set_option linter.unusedVariables false

theorem isModulus_yes (p : Nat) (w : World) (h0 : 2 ≤ p) (h1 : p ≤ 511) :
    Calls Try.prog 20 #[.int .i64 p] w fun e w' => e = .returned (.bool true) ∧ w = w' := by
  obtain ⟨he, hd0, hd1⟩ := Bw.modulus_dg h0 h1
  clear he
  go_enter Try.func20, Try.ntmps20
  go_wp2_with (first | (go_at_call 28; ((with_reducible refine (impl_PolyValid_yes _ _ (by omega) (by omega)).mono ?_); rintro e w' ⟨rfl, rfl⟩)) | (go_at_call 21; ((with_reducible refine (degree_any p _ (by omega)).mono ?_); rintro e w' ⟨rfl, rfl⟩)) | (go_at_call 35; ((with_reducible refine (within_yes _ _ _ _ (by omega) (by omega)).mono ?_); rintro e w' ⟨rfl, rfl⟩)))
  go_ret
  exact ⟨rfl, rfl⟩

theorem isModulus_no (p : Int) (w : World) (h : p < 2 ∨ 511 < p) :
    Calls Try.prog 20 #[.int .i64 p] w fun e w' => e = .returned (.bool false) ∧ w = w' := by
  by_cases hv : 0 ≤ p ∧ p ≤ 65535
  · obtain ⟨v0, v1⟩ := hv
    obtain ⟨p, rfl⟩ := Int.eq_ofNat_of_zero_le v0
    have hd := Bw.not_modulus_dg (p := p) (by omega)
    go_enter Try.func20, Try.ntmps20
    go_wp2_with (first | (go_at_call 28; ((with_reducible refine (impl_PolyValid_yes _ _ (by omega) (by omega)).mono ?_); rintro e w' ⟨rfl, rfl⟩)) | (go_at_call 21; ((with_reducible refine (degree_any p _ (by omega)).mono ?_); rintro e w' ⟨rfl, rfl⟩)) | (go_at_call 35; ((with_reducible refine (within_no _ _ _ _ (by omega)).mono ?_); rintro e w' ⟨rfl, rfl⟩)))
    go_ret
    exact ⟨rfl, rfl⟩
  · have hv2 : p < 0 ∨ 65535 < p := by omega
    clear h hv
    go_enter Try.func20, Try.ntmps20
    go_wp2_with (go_at_call 28; ((with_reducible refine (impl_PolyValid_no _ _ hv2).mono ?_); rintro e w' ⟨rfl, rfl⟩))
    go_ret
    exact ⟨rfl, rfl⟩

/-! PolyPrime -/

theorem impl_PolyPrime_yes (p : Nat) (w : World) (h1 : p ≤ 511) (hp : Hid (Bw.Prime p)) :
    Calls Try.prog 6 #[.int .i64 p] w fun e w' => e = .returned (.bool true) ∧ w = w' := by
  have h0 : 2 ≤ p := hp.out.1
  have hpw := Bw.modulus_pow h0 h1
  go_enter Try.func6, Try.ntmps6
  go_wp2_with (go_at_call 20; ((with_reducible refine (isModulus_yes p _ h0 h1).mono ?_); rintro e w' ⟨rfl, rfl⟩))
  go_loop [3] (fun t => ∃ d : Nat, 2 ≤ d ∧ d ≤ 2 ^ p.log2 ∧ t = .int .i64 d) (fun t => 2 ^ p.log2 - (intOf t).toNat)
  case atStart => exact ⟨2, by omega, by omega, rfl⟩
  case round =>
    obtain ⟨d, hd, hd2, rfl⟩ := hrel
    by_cases hl : d < 2 ^ p.log2
    · have hdg := Bw.dg_of_lt (a := d) (b := p) (by omega) hl
      have hm := hp.out.2 d hd (Bw.lt_log2 (by omega) hl)
      have hm0 : (((Bw.pmod p d : Nat) : Int) == 0) = false := by rw [beq_eq_false_iff_ne]; omega
      clear hm
      go_wp2_with (first | (go_at_call 21; ((with_reducible refine (degree_any d _ (by omega)).mono ?_); rintro e w' ⟨rfl, rfl⟩)) | (go_at_call 21; ((with_reducible refine (degree_any p _ (by omega)).mono ?_); rintro e w' ⟨rfl, rfl⟩)) | (go_at_call 22; ((with_reducible refine (rest_any p d _ (by omega) (by omega) (by omega)).mono ?_); rintro e w' ⟨rfl, rfl⟩)))
      go_round
      case rel => exact ⟨d + 1, by omega, by omega, by go_num⟩
      case measure => simp [intOf]; omega
    · have hdg : Bw.dg p ≤ Bw.dg d := by
        have := Bw.dg_pos (p := p) (by omega)
        have h3 := Bw.dg_pos (p := d) (by omega)
        have h4 := (Nat.le_log2 (n := d) (k := p.log2) (by omega)).2 (by omega)
        omega
      have hdec : decide (Bw.dg d < Bw.dg p) = false := by rw [decide_eq_false_iff_not]; omega
      go_wp2_with (first | (go_at_call 21; ((with_reducible refine (degree_any d _ (by omega)).mono ?_); rintro e w' ⟨rfl, rfl⟩)) | (go_at_call 21; ((with_reducible refine (degree_any p _ (by omega)).mono ?_); rintro e w' ⟨rfl, rfl⟩)))
      go_ret
      exact ⟨rfl, rfl⟩

theorem impl_PolyPrime_no1 (p : Nat) (w : World) (h0 : 2 ≤ p) (h1 : p ≤ 511) (hp : Hid (¬ Bw.Prime p)) :
    Calls Try.prog 6 #[.int .i64 p] w fun e w' => e = .returned (.bool false) ∧ w = w' := by
  have hpw := Bw.modulus_pow h0 h1
  go_enter Try.func6, Try.ntmps6
  go_wp2_with (go_at_call 20; ((with_reducible refine (isModulus_yes p _ h0 h1).mono ?_); rintro e w' ⟨rfl, rfl⟩))
  go_loop [3] (fun t => ∃ d : Nat, 2 ≤ d ∧ d ≤ 2 ^ p.log2 ∧ Hid (∀ x, 2 ≤ x → x < d → Bw.pmod p x ≠ 0) ∧ t = .int .i64 d) (fun t => 2 ^ p.log2 - (intOf t).toNat)
  case atStart => exact ⟨2, by omega, by omega, fun x _ _ => by omega, rfl⟩
  case round =>
    obtain ⟨d, hd, hd2, hall, rfl⟩ := hrel
    by_cases hl : d < 2 ^ p.log2
    · have hdg := Bw.dg_of_lt (a := d) (b := p) (by omega) hl
      by_cases hm : Bw.pmod p d = 0
      · have hm0 : (((Bw.pmod p d : Nat) : Int) == 0) = true := by rw [hm]; rfl
        clear hm
        go_wp2_with (first | (go_at_call 21; ((with_reducible refine (degree_any d _ (by omega)).mono ?_); rintro e w' ⟨rfl, rfl⟩)) | (go_at_call 21; ((with_reducible refine (degree_any p _ (by omega)).mono ?_); rintro e w' ⟨rfl, rfl⟩)) | (go_at_call 22; ((with_reducible refine (rest_any p d _ (by omega) (by omega) (by omega)).mono ?_); rintro e w' ⟨rfl, rfl⟩)))
        go_ret
        exact ⟨rfl, rfl⟩
      · have hm0 : (((Bw.pmod p d : Nat) : Int) == 0) = false := by rw [beq_eq_false_iff_ne]; omega
        have HM := Lib.hid hm
        clear hm
        go_wp2_with (first | (go_at_call 21; ((with_reducible refine (degree_any d _ (by omega)).mono ?_); rintro e w' ⟨rfl, rfl⟩)) | (go_at_call 21; ((with_reducible refine (degree_any p _ (by omega)).mono ?_); rintro e w' ⟨rfl, rfl⟩)) | (go_at_call 22; ((with_reducible refine (rest_any p d _ (by omega) (by omega) (by omega)).mono ?_); rintro e w' ⟨rfl, rfl⟩)))
        go_round
        case rel => exact ⟨d + 1, by omega, by omega, fun x h2 hx => by rcases Nat.lt_or_ge x d with h | h; exact hall.out x h2 h; (have : x = d := by omega); rw [this]; exact HM.out, by go_num⟩
        case measure => simp [intOf]; omega
    · exact absurd (Bw.prime_of_all h0 (by omega) hall.out) hp.out

theorem impl_PolyPrime_no (p : Int) (w : World) (hp : Hid (¬ (0 ≤ p ∧ p ≤ 511 ∧ Bw.Prime p.toNat))) :
    Calls Try.prog 6 #[.int .i64 p] w fun e w' => e = .returned (.bool false) ∧ w = w' := by
  by_cases hm : 2 ≤ p ∧ p ≤ 511
  · obtain ⟨m0, m1⟩ := hm
    obtain ⟨q, rfl⟩ := Int.eq_ofNat_of_zero_le (show 0 ≤ p by omega)
    exact impl_PolyPrime_no1 q w (by omega) (by omega) (fun h => hp.out ⟨by omega, by omega, by simpa using h⟩)
  · have hm2 : p < 2 ∨ 511 < p := by omega
    clear hm
    go_enter Try.func6, Try.ntmps6
    go_wp2_with (go_at_call 20; ((with_reducible refine (isModulus_no p _ hm2).mono ?_); rintro e w' ⟨rfl, rfl⟩))
    go_ret
    exact ⟨rfl, rfl⟩

theorem spec_PolyPrime_yes (p : Nat) (w : World) (h1 : p ≤ 511) (hp : Hid (Bw.Prime p)) :
    Calls Try.prog 7 #[.int .i64 p] w fun e w' => e = .returned (.bool true) ∧ w = w' := by
  have h0 : 2 ≤ p := hp.out.1
  have hpw := Bw.modulus_pow h0 h1
  have hlg := Bw.modulus_log h0 h1
  obtain ⟨he, hd0, hd1⟩ := Bw.modulus_dg h0 h1
  have HE := Lib.hid he
  clear he
  go_enter Try.func7, Try.ntmps7
  go_wp2_with (first | (go_at_call 9; ((with_reducible refine (spec_PolyDegree_yes p _ (by omega)).mono ?_); rintro e w' ⟨rfl, rfl⟩)) | (go_at_call 23; ((with_reducible refine (l1In_yes _ _ _ _ (by omega) (by omega)).mono ?_); rintro e w' ⟨rfl, rfl⟩)))
  go_loop [4] (fun t => ∃ d : Nat, 2 ≤ d ∧ d ≤ 2 ^ p.log2 ∧ t = .int .i64 d) (fun t => 2 ^ p.log2 - (intOf t).toNat)
  case atStart => exact ⟨2, by omega, by omega, rfl⟩
  case round =>
    obtain ⟨d, hd, hd2, rfl⟩ := hrel
    have e : wrap64 (2 ^ (Bw.dg p).toNat) = ((2 ^ p.log2 : Nat) : Int) := by rw [HE.out, Int.toNat_natCast, Bw.two_pow_cast, Bw.w64n (by omega)]
    by_cases hl : d < 2 ^ p.log2
    · have hm := hp.out.2 d hd (Bw.lt_log2 (by omega) hl)
      have hm0 : (((Bw.pmod p d : Nat) : Int) == 0) = false := by rw [beq_eq_false_iff_ne]; omega
      have hdec : decide ((d : Int) < wrap64 (2 ^ (Bw.dg p).toNat)) = true := by rw [e, decide_eq_true_eq]; exact Int.ofNat_lt.2 hl
      clear hm e
      go_wp2_with (go_at_call 24; ((with_reducible refine (l7Divide_any p d _ (by omega) (by omega) (by omega)).mono ?_); rintro e w' ⟨rfl, rfl⟩))
      go_round
      case rel => exact ⟨d + 1, by omega, by omega, by go_num⟩
      case measure => simp [intOf]; omega
    · have hdec : decide ((d : Int) < wrap64 (2 ^ (Bw.dg p).toNat)) = false := by rw [e, decide_eq_false_iff_not]; intro h; exact hl (Int.ofNat_lt.1 h)
      clear e
      go_wp2_with fail
      go_ret
      exact ⟨rfl, rfl⟩

theorem spec_PolyPrime_no1 (p : Nat) (w : World) (h0 : 2 ≤ p) (h1 : p ≤ 511) (hp : Hid (¬ Bw.Prime p)) :
    Calls Try.prog 7 #[.int .i64 p] w fun e w' => e = .returned (.bool false) ∧ w = w' := by
  have hpw := Bw.modulus_pow h0 h1
  have hlg := Bw.modulus_log h0 h1
  obtain ⟨he, hd0, hd1⟩ := Bw.modulus_dg h0 h1
  have HE := Lib.hid he
  clear he
  go_enter Try.func7, Try.ntmps7
  go_wp2_with (first | (go_at_call 9; ((with_reducible refine (spec_PolyDegree_yes p _ (by omega)).mono ?_); rintro e w' ⟨rfl, rfl⟩)) | (go_at_call 23; ((with_reducible refine (l1In_yes _ _ _ _ (by omega) (by omega)).mono ?_); rintro e w' ⟨rfl, rfl⟩)))
  go_loop [4] (fun t => ∃ d : Nat, 2 ≤ d ∧ d ≤ 2 ^ p.log2 ∧ Hid (∀ x, 2 ≤ x → x < d → Bw.pmod p x ≠ 0) ∧ t = .int .i64 d) (fun t => 2 ^ p.log2 - (intOf t).toNat)
  case atStart => exact ⟨2, by omega, by omega, fun x _ _ => by omega, rfl⟩
  case round =>
    obtain ⟨d, hd, hd2, hall, rfl⟩ := hrel
    have e : wrap64 (2 ^ (Bw.dg p).toNat) = ((2 ^ p.log2 : Nat) : Int) := by rw [HE.out, Int.toNat_natCast, Bw.two_pow_cast, Bw.w64n (by omega)]
    by_cases hl : d < 2 ^ p.log2
    · have hdec : decide ((d : Int) < wrap64 (2 ^ (Bw.dg p).toNat)) = true := by rw [e, decide_eq_true_eq]; exact Int.ofNat_lt.2 hl
      clear e
      by_cases hm : Bw.pmod p d = 0
      · have hm0 : (((Bw.pmod p d : Nat) : Int) == 0) = true := by rw [hm]; rfl
        clear hm
        go_wp2_with (go_at_call 24; ((with_reducible refine (l7Divide_any p d _ (by omega) (by omega) (by omega)).mono ?_); rintro e w' ⟨rfl, rfl⟩))
        go_ret
        exact ⟨rfl, rfl⟩
      · have hm0 : (((Bw.pmod p d : Nat) : Int) == 0) = false := by rw [beq_eq_false_iff_ne]; omega
        have HM := Lib.hid hm
        clear hm
        go_wp2_with (go_at_call 24; ((with_reducible refine (l7Divide_any p d _ (by omega) (by omega) (by omega)).mono ?_); rintro e w' ⟨rfl, rfl⟩))
        go_round
        case rel => exact ⟨d + 1, by omega, by omega, fun x h2 hx => by rcases Nat.lt_or_ge x d with h | h; exact hall.out x h2 h; (have : x = d := by omega); rw [this]; exact HM.out, by go_num⟩
        case measure => simp [intOf]; omega
    · exact absurd (Bw.prime_of_all h0 (by omega) hall.out) hp.out

/-- the degree of what is no modulus, as the reference has it -/
theorem spec_degree_no (p : Int) (h : p < 2 ∨ 511 < p) : ∃ d : Int, (d < 1 ∨ 8 < d) ∧ d < 32 ∧ -2 ≤ d ∧ ∀ w : World, Calls Try.prog 9 #[.int .i64 p] w fun e w' => e = .returned (.int .i64 d) ∧ w = w' := by
  by_cases hv : 0 ≤ p ∧ p ≤ 65535
  · obtain ⟨v0, v1⟩ := hv
    obtain ⟨p, rfl⟩ := Int.eq_ofNat_of_zero_le v0
    have := Bw.dg_bd (p := p) (by omega)
    exact ⟨Bw.dg p, Bw.not_modulus_dg (by omega), by omega, by omega, fun w => spec_PolyDegree_yes p w (by omega)⟩
  · exact ⟨-2, by omega, by omega, by omega, fun w => spec_PolyDegree_no p w (by omega)⟩

theorem spec_PolyPrime_no (p : Int) (w : World) (hp : Hid (¬ (0 ≤ p ∧ p ≤ 511 ∧ Bw.Prime p.toNat))) :
    Calls Try.prog 7 #[.int .i64 p] w fun e w' => e = .returned (.bool false) ∧ w = w' := by
  by_cases hm : 2 ≤ p ∧ p ≤ 511
  · obtain ⟨m0, m1⟩ := hm
    obtain ⟨q, rfl⟩ := Int.eq_ofNat_of_zero_le (show 0 ≤ p by omega)
    exact spec_PolyPrime_no1 q w (by omega) (by omega) (fun h => hp.out ⟨by omega, by omega, by simpa using h⟩)
  · have hm2 : p < 2 ∨ 511 < p := by omega
    obtain ⟨d, hd, hd32, hd2, hcall⟩ := spec_degree_no p hm2
    have HC := Lib.hid hcall
    clear hm hcall
    go_enter Try.func7, Try.ntmps7
    go_wp2_with (first | (go_at_call 9; ((with_reducible refine (HC.out _).mono ?_); rintro e w' ⟨rfl, rfl⟩)) | (go_at_call 23; ((with_reducible refine (l1In_no _ _ _ _ (by omega)).mono ?_); rintro e w' ⟨rfl, rfl⟩)))
    go_ret
    exact ⟨rfl, rfl⟩

/-! states -/

theorem isState_yes (s p : Nat) (w : World) (h0 : 2 ≤ p) (h1 : p ≤ 511) (hs : s < 2 ^ p.log2) :
    Calls Try.prog 30 #[.int .i64 s, .int .i64 p] w fun e w' => e = .returned (.bool true) ∧ w = w' := by
  have hpw := Bw.modulus_pow h0 h1
  have hlg := Bw.modulus_log h0 h1
  obtain ⟨he, _, _⟩ := Bw.modulus_dg h0 h1
  have HD := Lib.hid (fun (w : World) => he ▸ degree_any p w (by omega))
  clear he
  generalize hq : 2 ^ p.log2 = q at *
  have HP := Lib.hid (fun (w : World) => hq ▸ power_any p.log2 w (by omega))
  clear hq
  go_enter Try.func30, Try.ntmps30
  go_wp2_with (first | (go_at_call 20; ((with_reducible refine (isModulus_yes p _ h0 h1).mono ?_); rintro e w' ⟨rfl, rfl⟩)) | (go_at_call 21; ((with_reducible refine (HD.out _).mono ?_); rintro e w' ⟨rfl, rfl⟩)) | (go_at_call 42; ((with_reducible refine (HP.out _).mono ?_); rintro e w' ⟨rfl, rfl⟩)) | (go_at_call 35; ((with_reducible refine (within_yes _ _ _ _ (by omega) (by omega)).mono ?_); rintro e w' ⟨rfl, rfl⟩)))
  go_ret
  exact ⟨rfl, rfl⟩

theorem isState_no1 (s : Int) (p : Nat) (w : World) (h0 : 2 ≤ p) (h1 : p ≤ 511) (hs : s < 0 ∨ ((2 ^ p.log2 : Nat) : Int) ≤ s) :
    Calls Try.prog 30 #[.int .i64 s, .int .i64 p] w fun e w' => e = .returned (.bool false) ∧ w = w' := by
  have hpw := Bw.modulus_pow h0 h1
  have hlg := Bw.modulus_log h0 h1
  obtain ⟨he, _, _⟩ := Bw.modulus_dg h0 h1
  have HD := Lib.hid (fun (w : World) => he ▸ degree_any p w (by omega))
  clear he
  generalize hq : 2 ^ p.log2 = q at *
  have HP := Lib.hid (fun (w : World) => hq ▸ power_any p.log2 w (by omega))
  clear hq
  go_enter Try.func30, Try.ntmps30
  go_wp2_with (first | (go_at_call 20; ((with_reducible refine (isModulus_yes p _ h0 h1).mono ?_); rintro e w' ⟨rfl, rfl⟩)) | (go_at_call 21; ((with_reducible refine (HD.out _).mono ?_); rintro e w' ⟨rfl, rfl⟩)) | (go_at_call 42; ((with_reducible refine (HP.out _).mono ?_); rintro e w' ⟨rfl, rfl⟩)) | (go_at_call 35; ((with_reducible refine (within_no _ _ _ _ (by omega)).mono ?_); rintro e w' ⟨rfl, rfl⟩)))
  go_ret
  exact ⟨rfl, rfl⟩

theorem isState_no (s p : Int) (w : World) (h : (p < 2 ∨ 511 < p) ∨ (s < 0 ∨ ((2 ^ p.toNat.log2 : Nat) : Int) ≤ s)) :
    Calls Try.prog 30 #[.int .i64 s, .int .i64 p] w fun e w' => e = .returned (.bool false) ∧ w = w' := by
  by_cases hm : 2 ≤ p ∧ p ≤ 511
  · obtain ⟨m0, m1⟩ := hm
    obtain ⟨q, rfl⟩ := Int.eq_ofNat_of_zero_le (show 0 ≤ p by omega)
    rw [Int.toNat_natCast] at h
    exact isState_no1 s q w (by omega) (by omega) (by omega)
  · have hm2 : p < 2 ∨ 511 < p := by omega
    clear hm h
    go_enter Try.func30, Try.ntmps30
    go_wp2_with (go_at_call 20; ((with_reducible refine (isModulus_no p _ hm2).mono ?_); rintro e w' ⟨rfl, rfl⟩))
    go_ret
    exact ⟨rfl, rfl⟩

end Go.Proofs.Ytdnjmnlieilpiae
