/- Contracts: rests of messages. -/
import Derived.Test.YtmhgipnmojcjaaaSlice
import Derived.Test.YtmhgipnmojcjaaaCheckPlain
import Derived.Test.YtmhgipnmojcjaaaPoly4

namespace Go.Proofs.Ytmhgipnmojcjaaa
open Go.RowKit
set_option linter.unusedVariables false

theorem isBit_yes (x : Int) (w : World) (h : x = 0 ∨ x = 1) :
    Calls Try.prog 19 #[.int .i64 x] w fun e w' => e = .returned (.bool true) ∧ w = w' := by
  rcases h with rfl | rfl <;>
  · go_enter Try.func19, Try.ntmps19
    go_wp2
    go_ret
    exact ⟨rfl, rfl⟩

theorem isBit_no (x : Int) (w : World) (h : x ≠ 0 ∧ x ≠ 1) :
    Calls Try.prog 19 #[.int .i64 x] w fun e w' => e = .returned (.bool false) ∧ w = w' := by
  have h0 : (x == 0) = false := by simpa using h.1
  have h1 : (x == 1) = false := by simpa using h.2
  clear h
  go_enter Try.func19, Try.ntmps19
  go_wp2
  go_ret
  exact ⟨rfl, rfl⟩

/-- impl.CheckOf at a message that is not empty, of a length and a modulus that fit: the rest, if all are bits, and otherwise -1 -/
theorem impl_CheckOf_some (b off cap : Nat) (zs : List Int) (p : Nat) (w : World) (h0 : 2 ≤ p) (h1 : p ≤ 511) (hn : zs.length ≤ 16) (hpos : 0 < zs.length)
    (hc : Hid (∀ i, i < zs.length → w.cell? ⟨b, off + i, none⟩ = some (.int .i64 (Bw.nth zs i)))) (r : Int) (hr : Hid ((Bw.AllBits zs → r = ((Bw.pmod (Bw.val zs zs.length * 2 ^ p.log2) p : Nat) : Int)) ∧ (¬ Bw.AllBits zs → r = -1))) :
    Calls Try.prog 6 #[.slice (some ⟨b, off, none⟩) zs.length cap, .int .i64 p] w fun e w' => e = .returned (.int .i64 r) ∧ w = w' := by
  have hlg := Bw.modulus_log h0 h1
  obtain ⟨he, _, _⟩ := Bw.modulus_dg h0 h1
  obtain ⟨D, hD⟩ : ∃ D, p.log2 = D := ⟨_, rfl⟩
  rw [hD] at he hlg hr
  have HD := Lib.hid (fun (w : World) => he ▸ degree_any p w (by omega))
  clear he hD
  go_enter Try.func6, Try.ntmps6
  go_wp2_with (go_at_call 18; ((with_reducible refine (isModulus_yes p _ h0 h1).mono ?_); rintro e w' ⟨rfl, rfl⟩))
  go_loop [5, 18] (fun t i => ∃ k : Nat, k ≤ zs.length ∧ i = .int .i64 k ∧ t = .int .i64 ((Bw.val zs k : Nat) : Int) ∧ Hid (∀ j, j < k → Bw.nth zs j = 0 ∨ Bw.nth zs j = 1)) (fun _ i => zs.length - (intOf i).toNat)
  case atStart => exact ⟨0, Nat.zero_le _, rfl, rfl, fun j h => absurd h (by omega)⟩
  case round =>
    obtain ⟨k, hk, rfl, rfl, hall⟩ := hrel
    have hv := Bw.val_lt_pow hall.out
    have hv16 : Bw.val zs k < 65536 := Nat.lt_of_lt_of_le hv (by have := Nat.pow_le_pow_right (n := 2) (by omega) (show k ≤ 16 by omega); omega)
    clear hv
    by_cases hl : k < zs.length
    · have hcell := hc.out k hl
      by_cases hb : Bw.nth zs k = 0 ∨ Bw.nth zs k = 1
      · have hb2 : 0 ≤ Bw.nth zs k ∧ Bw.nth zs k ≤ 1 := by omega
        have HB := Lib.hid hb
        clear hb
        go_wp2_with (go_at_call 19; ((with_reducible refine (isBit_yes _ _ HB.out).mono ?_); rintro e w' ⟨rfl, rfl⟩))
        go_round
        case rel => exact ⟨k + 1, by omega, by go_num, by rw [Bw.val]; go_num, fun j hj => by rcases Nat.lt_or_ge j k with h | h; exact hall.out j h; (have : j = k := by omega); rw [this]; exact HB.out⟩
        case measure => simp [intOf]; omega
      · have HB := Lib.hid hb
        have hb2 : Bw.nth zs k ≠ 0 ∧ Bw.nth zs k ≠ 1 := by omega
        have HB2 := Lib.hid hb2
        clear hb hb2
        go_wp2_with (go_at_call 19; ((with_reducible refine (isBit_no _ _ HB2.out).mono ?_); rintro e w' ⟨rfl, rfl⟩))
        go_ret
        exact ⟨ret_int (hr.out.2 (fun h => HB.out (h k hl))).symm, rfl⟩
    · obtain rfl : k = zs.length := by omega
      have hm : Bw.val zs zs.length * 2 ^ D < 4294967296 := by
        have h8 := Nat.pow_le_pow_right (n := 2) (by omega) hlg.2
        have := Nat.mul_le_mul (show Bw.val zs zs.length ≤ 65536 by omega) h8
        omega
      have HM := Lib.hid hm
      clear hm
      go_wp2_with (first | (go_at_call 21; ((with_reducible refine (HD.out _).mono ?_); rintro e w' ⟨rfl, rfl⟩)) | (go_at_call 20; rw [show wrap64 (((Bw.val zs zs.length : Nat) : Int) * 2 ^ D) = ((Bw.val zs zs.length * 2 ^ D : Nat) : Int) from by rw [Bw.two_pow_cast, ← Int.natCast_mul, Bw.w64n (by have := HM.out; omega)]]; ((with_reducible refine (rest_any _ p _ HM.out (by omega) (by omega)).mono ?_); rintro e w' ⟨rfl, rfl⟩)))
      go_ret
      exact ⟨ret_int (hr.out.1 hall.out).symm, rfl⟩

theorem impl_CheckOf_none (a : Option Addr) (cap : Nat) (p : Nat) (w : World) (h0 : 2 ≤ p) (h1 : p ≤ 511) :
    Calls Try.prog 6 #[.slice a 0 cap, .int .i64 p] w fun e w' => e = .returned (.int .i64 0) ∧ w = w' := by
  have hlg := Bw.modulus_log h0 h1
  obtain ⟨he, _, _⟩ := Bw.modulus_dg h0 h1
  have hz := Bw.pmod_small (a := 0) (b := p) (by omega) (Nat.two_pow_pos _)
  have HZ : Hid (∀ w : World, Calls Try.prog 20 #[.int .i64 0, .int .i64 p] w fun e w' => e = .returned (.int .i64 0) ∧ w = w') := fun w => by
    have t := rest_any 0 p w (by omega) (by omega) (by omega)
    rw [hz, Int.ofNat_zero] at t
    exact t
  obtain ⟨D, hD⟩ : ∃ D, p.log2 = D := ⟨_, rfl⟩
  rw [hD] at he hlg
  have HD := Lib.hid (fun (w : World) => he ▸ degree_any p w (by omega))
  clear he hD hz
  go_enter Try.func6, Try.ntmps6
  go_wp2_with (go_at_call 18; ((with_reducible refine (isModulus_yes p _ h0 h1).mono ?_); rintro e w' ⟨rfl, rfl⟩))
  refine wp_loop_rounds 1 ?_
  rw [rounds_succ]
  go_wp2_with (first | (go_at_call 21; ((with_reducible refine (HD.out _).mono ?_); rintro e w' ⟨rfl, rfl⟩)) | (go_at_call 20; ((with_reducible refine (HZ.out _).mono ?_); rintro e w' ⟨rfl, rfl⟩)))
  go_ret
  exact ⟨rfl, rfl⟩

theorem impl_CheckOf_bad (a : Option Addr) (n cap : Nat) (p : Int) (w : World) (h : (p < 2 ∨ 511 < p) ∨ 16 < n) :
    Calls Try.prog 6 #[.slice a n cap, .int .i64 p] w fun e w' => e = .returned (.int .i64 (-1)) ∧ w = w' := by
  by_cases hm : p < 2 ∨ 511 < p
  · clear h
    go_enter Try.func6, Try.ntmps6
    go_wp2_with (go_at_call 18; ((with_reducible refine (isModulus_no p _ hm).mono ?_); rintro e w' ⟨rfl, rfl⟩))
    go_ret
    exact ⟨rfl, rfl⟩
  · have hn : 16 < n := by omega
    obtain ⟨q, rfl⟩ := Int.eq_ofNat_of_zero_le (show 0 ≤ p by omega)
    have h0 : 2 ≤ q := by omega
    have h1 : q ≤ 511 := by omega
    clear h hm
    go_enter Try.func6, Try.ntmps6
    go_wp2_with (go_at_call 18; ((with_reducible refine (isModulus_yes q _ h0 h1).mono ?_); rintro e w' ⟨rfl, rfl⟩))
    go_ret
    exact ⟨rfl, rfl⟩

theorem impl_CheckOf_any (v : Value) (zs : List Int) (p : Int) (w : World) (hv : Bw.Reads w v zs) (r : Int) (hr : Hid (Bw.CheckIs zs p r)) :
    Calls Try.prog 6 #[v, .int .i64 p] w fun e w' => e = .returned (.int .i64 r) ∧ w = w' := by
  by_cases hb : (p < 2 ∨ 511 < p) ∨ 16 < zs.length
  · obtain rfl : r = -1 := hr.out.2 (fun h => by have := h.1; have := h.2.1; omega)
    rcases hv with ⟨rfl, a, cap, rfl⟩ | ⟨_, b, off, cap, rfl, _⟩ <;> exact impl_CheckOf_bad _ _ _ _ _ hb
  · obtain ⟨q, rfl⟩ := Int.eq_ofNat_of_zero_le (show 0 ≤ p by omega)
    rcases hv with ⟨rfl, a, cap, rfl⟩ | ⟨hz, b, off, cap, rfl, _, _, hcell⟩
    · obtain rfl : r = 0 := by
        have := hr.out.1 ⟨by omega, by simp, fun i hi => absurd hi (by simp)⟩
        rw [this]
        simp only [List.length_nil, Bw.val, Nat.zero_mul]
        rw [Bw.pmod_small (by omega) (Nat.two_pow_pos _)]; rfl
      exact impl_CheckOf_none a cap q w (by omega) (by omega)
    · refine impl_CheckOf_some b off cap zs q w (by omega) (by omega) (by omega) (List.length_pos_iff.2 hz) hcell r ⟨fun ha => ?_, fun ha => hr.out.2 (fun hf => ha hf.2.2)⟩
      have := hr.out.1 ⟨by omega, by omega, ha⟩
      rwa [Int.toNat_natCast] at this

/-! the reference's -/

set_option maxHeartbeats 1000000 in
theorem spec_CheckOf_some (b off cap : Nat) (zs : List Int) (p : Nat) (w : World) (h0 : 2 ≤ p) (h1 : p ≤ 511) (hn : zs.length ≤ 16) (hpos : 0 < zs.length)
    (hc : Hid (∀ i, i < zs.length → w.cell? ⟨b, off + i, none⟩ = some (.int .i64 (Bw.nth zs i)))) (r : Int) (hr : Hid ((Bw.AllBits zs → r = ((Bw.pmod (Bw.val zs zs.length * 2 ^ p.log2) p : Nat) : Int)) ∧ (¬ Bw.AllBits zs → r = -1))) :
    Calls Try.prog 7 #[.slice (some ⟨b, off, none⟩) zs.length cap, .int .i64 p] w fun e w' => e = .returned (.int .i64 r) ∧ w = w' := by
  have hlg := Bw.modulus_log h0 h1
  have hpw := Bw.modulus_pow h0 h1
  obtain ⟨he, _, _⟩ := Bw.modulus_dg h0 h1
  have hge := Bw.pow_log_le (p := p) (by omega)
  have HL := Lib.hid (fun a => (Bw.pmod_lt256 h0 h1 a).2)
  obtain ⟨q, hq⟩ : ∃ q, 2 ^ p.log2 = q := ⟨_, rfl⟩
  obtain ⟨D, hD⟩ : ∃ D, p.log2 = D := ⟨_, rfl⟩
  rw [hq] at hpw hge hr
  have HS : Hid (∀ v m : Nat, m ≤ 1 → Bw.pmod ((2 * v + m) * q) p = Bw.regStep p (Bw.pmod (v * q) p) m) := fun v m hm => by rw [← hq]; exact Bw.reg_step h0 hm
  have HQ := Lib.hid hq
  have HDD := Lib.hid hD
  rw [hD] at he hlg hq
  have HD := Lib.hid (fun (w : World) => he ▸ spec_PolyDegree_yes p w (by omega))
  have hw : wrap64 (2 ^ D) = (q : Int) := by rw [Bw.two_pow_cast, hq, Bw.w64n (by omega)]
  clear he hD hq
  go_enter Try.func7, Try.ntmps7
  go_wp2_with (first | (go_at_call 9; ((with_reducible refine (HD.out _).mono ?_); rintro e w' ⟨rfl, rfl⟩)) | (go_at_call 22; ((with_reducible refine (l1In_yes _ _ _ _ (by omega) (by omega)).mono ?_); rintro e w' ⟨rfl, rfl⟩)))
  go_loop [6, 7] (fun t i => ∃ k : Nat, k ≤ zs.length ∧ i = .int .i64 k ∧ t = .int .i64 ((Bw.pmod (Bw.val zs k * q) p : Nat) : Int) ∧ Hid (∀ j, j < k → Bw.nth zs j = 0 ∨ Bw.nth zs j = 1)) (fun _ i => zs.length - (intOf i).toNat)
  case atStart => exact ⟨0, Nat.zero_le _, rfl, by rw [show Bw.val zs 0 * q = 0 from Nat.zero_mul q, Bw.pmod_small (by omega) (Nat.two_pow_pos _)]; rfl, fun j h => absurd h (by omega)⟩
  case round =>
    obtain ⟨k, hk, rfl, rfl, hall⟩ := hrel
    obtain ⟨R, hR⟩ : ∃ R, Bw.pmod (Bw.val zs k * q) p = R := ⟨_, rfl⟩
    have hR2 := HL.out (Bw.val zs k * q)
    rw [hR] at hR2 ⊢
    have HR := Lib.hid hR
    clear hR
    by_cases hl : k < zs.length
    · have hcell := hc.out k hl
      by_cases hb : Bw.nth zs k = 0 ∨ Bw.nth zs k = 1
      · have HB := Lib.hid hb
        have eD : (D : Int) - 1 = ((D - 1 : Nat) : Int) := by omega
        have HE := Lib.hid eD
        clear eD
        rcases Bw.bt_cases R (D - 1) with hbt | hbt
        · have hbn := (Bw.bt_zero R (D - 1)).1 hbt
          rw [← HDD.out] at hbn
          have HN := Lib.hid hbn
          clear hbn
          rcases hb with hb | hb
          · have hs := HS.out (Bw.val zs k) 0 (by omega)
            rw [HR.out, Bw.reg00 HQ.out HN.out] at hs
            have HX := Lib.hid hs
            clear hs
            go_wp2_with (first | (go_at_call 22; ((with_reducible refine (l1In_yes _ _ _ _ (by omega) (by omega)).mono ?_); rintro e w' ⟨rfl, rfl⟩)) | (go_at_call 23; rw [HE.out]; ((with_reducible refine (l1Bit_any R (D - 1) _ (by omega) (by omega)).mono ?_); rintro e w' ⟨rfl, rfl⟩)))
            go_round
            case rel => exact ⟨k + 1, by omega, by go_num, by rw [Bw.val, hb, show Int.toNat 0 = 0 from rfl, HX.out]; go_num, fun j hj => by rcases Nat.lt_or_ge j k with h | h; exact hall.out j h; (have : j = k := by omega); rw [this]; exact HB.out⟩
            case measure => simp [intOf]; omega
          · have hs := HS.out (Bw.val zs k) 1 (by omega)
            rw [HR.out, Bw.reg01 HQ.out HN.out] at hs
            have HX := Lib.hid hs
            clear hs
            go_wp2_with (first | (go_at_call 22; ((with_reducible refine (l1In_yes _ _ _ _ (by omega) (by omega)).mono ?_); rintro e w' ⟨rfl, rfl⟩)) | (go_at_call 23; rw [HE.out]; ((with_reducible refine (l1Bit_any R (D - 1) _ (by omega) (by omega)).mono ?_); rintro e w' ⟨rfl, rfl⟩)) | (go_at_call 24; rw [show (2 : Int) * (R : Int) = ((2 * R : Nat) : Int) from by omega, show (p : Int) - (q : Int) = ((p - q : Nat) : Int) from by omega]; ((with_reducible refine (l1Xor_any (2 * R) (p - q) _ (by omega) (by omega)).mono ?_); rintro e w' ⟨rfl, rfl⟩)))
            go_round
            case rel => exact ⟨k + 1, by omega, by go_num, by rw [Bw.val, hb, show Int.toNat 1 = 1 from rfl, HX.out], fun j hj => by rcases Nat.lt_or_ge j k with h | h; exact hall.out j h; (have : j = k := by omega); rw [this]; exact HB.out⟩
            case measure => simp [intOf]; omega
        · have hbn := (Bw.bt_one R (D - 1)).1 hbt
          rw [← HDD.out] at hbn
          have HN := Lib.hid hbn
          have htop := Bw.bit_top_ge h0 HQ.out hbn
          clear hbn
          rcases hb with hb | hb
          · have hs := HS.out (Bw.val zs k) 0 (by omega)
            rw [HR.out, Bw.reg10 HQ.out HN.out] at hs
            have HX := Lib.hid hs
            clear hs
            go_wp2_with (first | (go_at_call 22; ((with_reducible refine (l1In_yes _ _ _ _ (by omega) (by omega)).mono ?_); rintro e w' ⟨rfl, rfl⟩)) | (go_at_call 23; rw [HE.out]; ((with_reducible refine (l1Bit_any R (D - 1) _ (by omega) (by omega)).mono ?_); rintro e w' ⟨rfl, rfl⟩)) | (go_at_call 24; rw [show (2 : Int) * (R : Int) - (q : Int) = ((2 * R - q : Nat) : Int) from by omega, show (p : Int) - (q : Int) = ((p - q : Nat) : Int) from by omega]; ((with_reducible refine (l1Xor_any (2 * R - q) (p - q) _ (by omega) (by omega)).mono ?_); rintro e w' ⟨rfl, rfl⟩)))
            go_round
            case rel => exact ⟨k + 1, by omega, by go_num, by rw [Bw.val, hb, show Int.toNat 0 = 0 from rfl, HX.out], fun j hj => by rcases Nat.lt_or_ge j k with h | h; exact hall.out j h; (have : j = k := by omega); rw [this]; exact HB.out⟩
            case measure => simp [intOf]; omega
          · have hs := HS.out (Bw.val zs k) 1 (by omega)
            rw [HR.out, Bw.reg11 HQ.out HN.out] at hs
            have HX := Lib.hid hs
            clear hs
            go_wp2_with (first | (go_at_call 22; ((with_reducible refine (l1In_yes _ _ _ _ (by omega) (by omega)).mono ?_); rintro e w' ⟨rfl, rfl⟩)) | (go_at_call 23; rw [HE.out]; ((with_reducible refine (l1Bit_any R (D - 1) _ (by omega) (by omega)).mono ?_); rintro e w' ⟨rfl, rfl⟩)))
            go_round
            case rel => exact ⟨k + 1, by omega, by go_num, by rw [Bw.val, hb, show Int.toNat 1 = 1 from rfl, HX.out]; go_num, fun j hj => by rcases Nat.lt_or_ge j k with h | h; exact hall.out j h; (have : j = k := by omega); rw [this]; exact HB.out⟩
            case measure => simp [intOf]; omega
      · have HB := Lib.hid hb
        have hb2 : Bw.nth zs k < 0 ∨ 1 < Bw.nth zs k := by omega
        have HB2 := Lib.hid hb2
        clear hb hb2
        go_wp2_with (go_at_call 22; ((with_reducible refine (l1In_no _ _ _ _ HB2.out).mono ?_); rintro e w' ⟨rfl, rfl⟩))
        go_ret
        exact ⟨ret_int (hr.out.2 (fun h => HB.out (h k hl))).symm, rfl⟩
    · obtain rfl : k = zs.length := by omega
      go_wp2_with fail
      go_ret
      exact ⟨ret_int (by rw [hr.out.1 hall.out, HR.out]), rfl⟩

theorem spec_CheckOf_none (a : Option Addr) (cap : Nat) (p : Nat) (w : World) (h0 : 2 ≤ p) (h1 : p ≤ 511) :
    Calls Try.prog 7 #[.slice a 0 cap, .int .i64 p] w fun e w' => e = .returned (.int .i64 0) ∧ w = w' := by
  obtain ⟨he, hd0, hd1⟩ := Bw.modulus_dg h0 h1
  clear he
  go_enter Try.func7, Try.ntmps7
  go_wp2_with (first | (go_at_call 9; ((with_reducible refine (spec_PolyDegree_yes p _ (by omega)).mono ?_); rintro e w' ⟨rfl, rfl⟩)) | (go_at_call 22; ((with_reducible refine (l1In_yes _ _ _ _ (by omega) (by omega)).mono ?_); rintro e w' ⟨rfl, rfl⟩)))
  refine wp_loop_rounds 1 ?_
  rw [rounds_succ]
  go_wp2_with fail
  go_ret
  exact ⟨rfl, rfl⟩

theorem spec_CheckOf_bad (a : Option Addr) (n cap : Nat) (p : Int) (w : World) (h : (p < 2 ∨ 511 < p) ∨ 16 < n) :
    Calls Try.prog 7 #[.slice a n cap, .int .i64 p] w fun e w' => e = .returned (.int .i64 (-1)) ∧ w = w' := by
  by_cases hm : p < 2 ∨ 511 < p
  · obtain ⟨d, hd, hd32, hd2, hcall⟩ := spec_degree_no p hm
    have HC := Lib.hid hcall
    clear hcall h
    go_enter Try.func7, Try.ntmps7
    go_wp2_with (first | (go_at_call 9; ((with_reducible refine (HC.out _).mono ?_); rintro e w' ⟨rfl, rfl⟩)) | (go_at_call 22; ((with_reducible refine (l1In_no _ _ _ _ (by omega)).mono ?_); rintro e w' ⟨rfl, rfl⟩)))
    go_ret
    exact ⟨rfl, rfl⟩
  · have hn : 16 < n := by omega
    obtain ⟨q, rfl⟩ := Int.eq_ofNat_of_zero_le (show 0 ≤ p by omega)
    have h0 : 2 ≤ q := by omega
    have h1 : q ≤ 511 := by omega
    obtain ⟨he, hd0, hd1⟩ := Bw.modulus_dg h0 h1
    clear h hm he
    go_enter Try.func7, Try.ntmps7
    go_wp2_with (first | (go_at_call 9; ((with_reducible refine (spec_PolyDegree_yes q _ (by omega)).mono ?_); rintro e w' ⟨rfl, rfl⟩)) | (go_at_call 22; ((with_reducible refine (l1In_yes _ _ _ _ (by omega) (by omega)).mono ?_); rintro e w' ⟨rfl, rfl⟩)))
    go_ret
    exact ⟨rfl, rfl⟩

theorem spec_CheckOf_any (v : Value) (zs : List Int) (p : Int) (w : World) (hv : Bw.Reads w v zs) (r : Int) (hr : Hid (Bw.CheckIs zs p r)) :
    Calls Try.prog 7 #[v, .int .i64 p] w fun e w' => e = .returned (.int .i64 r) ∧ w = w' := by
  by_cases hb : (p < 2 ∨ 511 < p) ∨ 16 < zs.length
  · obtain rfl : r = -1 := hr.out.2 (fun h => by have := h.1; have := h.2.1; omega)
    rcases hv with ⟨rfl, a, cap, rfl⟩ | ⟨_, b, off, cap, rfl, _⟩ <;> exact spec_CheckOf_bad _ _ _ _ _ hb
  · obtain ⟨q, rfl⟩ := Int.eq_ofNat_of_zero_le (show 0 ≤ p by omega)
    rcases hv with ⟨rfl, a, cap, rfl⟩ | ⟨hz, b, off, cap, rfl, _, _, hcell⟩
    · obtain rfl : r = 0 := by
        have := hr.out.1 ⟨by omega, by simp, fun i hi => absurd hi (by simp)⟩
        rw [this]
        simp only [List.length_nil, Bw.val, Nat.zero_mul]
        rw [Bw.pmod_small (by omega) (Nat.two_pow_pos _)]; rfl
      exact spec_CheckOf_none a cap q w (by omega) (by omega)
    · refine spec_CheckOf_some b off cap zs q w (by omega) (by omega) (by omega) (List.length_pos_iff.2 hz) hcell r ⟨fun ha => ?_, fun ha => hr.out.2 (fun hf => ha hf.2.2)⟩
      have := hr.out.1 ⟨by omega, by omega, ha⟩
      rwa [Int.toNat_natCast] at this

/-! CheckOk -/

theorem impl_CheckOk_any (v : Value) (zs : List Int) (p s : Int) (w : World) (hv : Bw.Reads w v zs) (r : Int) (hr : Hid (Bw.CheckIs zs p r)) (t : Bool) (ht : Hid (t = decide (0 ≤ r ∧ r = s))) :
    Calls Try.prog 12 #[v, .int .i64 p, .int .i64 s] w fun e w' => e = .returned (.bool t) ∧ w = w' := by
  have HV := Lib.hid hv
  clear hv
  by_cases h0 : 0 ≤ r
  · go_enter Try.func12, Try.ntmps12
    go_wp2_with (go_at_call 6; ((with_reducible refine (impl_CheckOf_any v zs p _ HV.out r hr).mono ?_); rintro e w' ⟨rfl, rfl⟩))
    go_ret
    exact ⟨ret_bool (by rw [ht.out]; simp [h0, Bw.beq_dec]), rfl⟩
  · have h1 : r < 0 := by omega
    go_enter Try.func12, Try.ntmps12
    go_wp2_with (go_at_call 6; ((with_reducible refine (impl_CheckOf_any v zs p _ HV.out r hr).mono ?_); rintro e w' ⟨rfl, rfl⟩))
    go_ret
    exact ⟨ret_bool (by rw [ht.out]; symm; rw [decide_eq_false_iff_not]; omega), rfl⟩

theorem spec_CheckOk_any (v : Value) (zs : List Int) (p s : Int) (w : World) (hv : Bw.Reads w v zs) (r : Int) (hr : Hid (Bw.CheckIs zs p r)) (t : Bool) (ht : Hid (t = decide (0 ≤ r ∧ r = s))) :
    Calls Try.prog 13 #[v, .int .i64 p, .int .i64 s] w fun e w' => e = .returned (.bool t) ∧ w = w' := by
  have HV := Lib.hid hv
  clear hv
  by_cases h0 : 0 ≤ r
  · go_enter Try.func13, Try.ntmps13
    go_wp2_with (go_at_call 7; ((with_reducible refine (spec_CheckOf_any v zs p _ HV.out r hr).mono ?_); rintro e w' ⟨rfl, rfl⟩))
    go_ret
    exact ⟨ret_bool (by rw [ht.out]; simp [h0, Bw.beq_dec]), rfl⟩
  · have h1 : r < 0 := by omega
    go_enter Try.func13, Try.ntmps13
    go_wp2_with (go_at_call 7; ((with_reducible refine (spec_CheckOf_any v zs p _ HV.out r hr).mono ?_); rintro e w' ⟨rfl, rfl⟩))
    go_ret
    exact ⟨ret_bool (by rw [ht.out]; symm; rw [decide_eq_false_iff_not]; omega), rfl⟩

end Go.Proofs.Ytmhgipnmojcjaaa
