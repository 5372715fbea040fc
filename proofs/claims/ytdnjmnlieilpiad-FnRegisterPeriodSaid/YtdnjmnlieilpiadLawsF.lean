/- The walks of the laws on divisions, divisors, registers. -/
import Derived.Test.YtdnjmnlieilpiadDraws
import Derived.Test.YtdnjmnlieilpiadWord2
import Derived.Test.YtdnjmnlieilpiadLawPlain2

namespace Go.Proofs.Ytdnjmnlieilpiad
open Go.RowKit
set_option linter.unusedVariables false

set_option maxHeartbeats 400000 in
theorem law_FnPolyDivide (w : World) (a : Option Addr) (n cap : Nat) (zs : List Int) (h : Bw.IsRow .u8 w a n cap zs) :
    Calls Try.prog 6 #[.slice a n cap] w fun e w' => e = .returned (.bool true) ∧ Below w.heap.size w w' := by
  have hc := code_of_row h
  have hlen := h.len.2
  have HC := Lib.hid hc
  clear h hc
  by_cases hbig : 1048576 < n
  · go_enter Try.func6, Try.ntmps6
    go_wp2_with fail
    go_ret
    exact ⟨rfl, Below.refl _ _⟩
  have hs : n ≤ 1048576 := by omega
  clear hbig
  go_enter Try.func6, Try.ntmps6
  go_wp2_with fail
  refine (DrawPolyDivide_any a n cap _ HC.out).mono ?_
  rintro e w1 ⟨x, y, rfl, _, hb⟩
  have HB := Lib.hid hb
  clear hb
  by_cases hv : (0 ≤ x ∧ x ≤ 65535) ∧ (0 < y ∧ y ≤ 65535)
  · obtain ⟨x, rfl⟩ := Int.eq_ofNat_of_zero_le hv.1.1
    obtain ⟨y, rfl⟩ := Int.eq_ofNat_of_zero_le (show 0 ≤ y by omega)
    have hx : x ≤ 65535 := by omega
    have hy : y ≤ 65535 := by omega
    have hy0 : y ≠ 0 := by omega
    have HS := Lib.hid (fun w : World => spec_PolyDivide_yes x y w hx hy hy0)
    have HI := Lib.hid (fun w : World => impl_PolyDivide_yes x y w hx hy hy0)
    obtain ⟨hr, hrd, hm⟩ := Bw.div_facts hx hy hy0
    have HM := Lib.hid (fun w : World => impl_PolyTimes_yes y (Bw.pdiv x y) w hy hm.2 hm.1)
    have HA : Hid (∀ w : World, Calls Try.prog 14 #[.int .i64 ((Bw.mul y (Bw.pdiv x y) : Nat) : Int), .int .i64 ((Bw.pmod x y : Nat) : Int)] w fun e w' => e = .returned (.int .i64 (x : Int)) ∧ w = w') := fun w => by
      have t := impl_PolyAdd_yes (Bw.mul y (Bw.pdiv x y)) (Bw.pmod x y) w hm.1 hr
      rw [← Bw.pdiv_pmod] at t
      exact t
    have D1 := Lib.hid (fun w : World => impl_PolyDegree_yes (Bw.pmod x y) w hr)
    have D2 := Lib.hid (fun w : World => impl_PolyDegree_yes y w hy)
    clear hv hr hm hy0
    go_wp2_with (first | (go_at_call 24; ((with_reducible refine (HS.out _).mono ?_); rintro e w' ⟨rfl, rfl⟩)) | (go_at_call 23; ((with_reducible refine (HI.out _).mono ?_); rintro e w' ⟨rfl, rfl⟩)) | (go_at_call 25; ((with_reducible refine (HM.out _).mono ?_); rintro e w' ⟨rfl, rfl⟩)) | (go_at_call 14; ((with_reducible refine (HA.out _).mono ?_); rintro e w' ⟨rfl, rfl⟩)) | (go_at_call 26; ((with_reducible refine (D1.out _).mono ?_); rintro e w' ⟨rfl, rfl⟩)) | (go_at_call 26; ((with_reducible refine (D2.out _).mono ?_); rintro e w' ⟨rfl, rfl⟩)))
    go_ret
    exact ⟨ret_bool (by simp), HB.out⟩
  · have hv2 : (x < 0 ∨ 65535 < x) ∨ (y ≤ 0 ∨ 65535 < y) := by omega
    clear hv
    go_wp2_with (first | (go_at_call 24; ((with_reducible refine (spec_PolyDivide_no x y _ hv2).mono ?_); rintro e w' ⟨rfl, rfl⟩)) | (go_at_call 23; ((with_reducible refine (impl_PolyDivide_no x y _ hv2).mono ?_); rintro e w' ⟨rfl, rfl⟩)))
    refine (alive_any _).mono ?_
    rintro e w2 ⟨rfl, hb2⟩
    have HB2 := Lib.hid hb2
    clear hb2
    go_wp2_with fail
    go_ret
    exact ⟨rfl, HB.out.trans (HB2.out.mono HB.out.size)⟩

theorem period_law (p : Nat) (h0 : 2 ≤ p) (h1 : p ≤ 511) : ((0 < Bw.per p) ↔ p % 2 = 1) ∧ Bw.per p < ((2 ^ p.log2 : Nat) : Int) ∧ (Bw.per p < 0 ∨ 0 < Bw.per p) ∧ (0 < Bw.per p → Bw.Prime p → ((2 ^ p.log2 - 1 : Nat) : Int) % Bw.per p = 0) := Bw.per_facts h0 h1

set_option maxHeartbeats 400000 in
theorem law_FnRegisterPeriod (w : World) (a : Option Addr) (n cap : Nat) (zs : List Int) (h : Bw.IsRow .u8 w a n cap zs) :
    Calls Try.prog 5 #[.slice a n cap] w fun e w' => e = .returned (.bool true) ∧ Below w.heap.size w w' := by
  have hc := code_of_row h
  have hlen := h.len.2
  have HC := Lib.hid hc
  clear h hc
  by_cases hbig : 1048576 < n
  · go_enter Try.func5, Try.ntmps5
    go_wp2_with fail
    go_ret
    exact ⟨rfl, Below.refl _ _⟩
  have hs : n ≤ 1048576 := by omega
  clear hbig
  go_enter Try.func5, Try.ntmps5
  go_wp2_with fail
  refine (DrawRegisterPeriod_any a n cap _ HC.out).mono ?_
  rintro e w1 ⟨x, rfl, hx, hb⟩
  have HB := Lib.hid hb
  clear hb
  by_cases hv : x < 2 ∨ 511 < x
  · obtain ⟨d, hd, hd32, hd2, hcall⟩ := spec_degree_no x hv
    have HD := Lib.hid hcall
    clear hcall
    rcases hd with hd | hd
    all_goals
      go_wp2_with (first | (go_at_call 20; ((with_reducible refine (spec_RegisterPeriod_no x _ hv).mono ?_); rintro e w' ⟨rfl, rfl⟩)) | (go_at_call 19; ((with_reducible refine (impl_RegisterPeriod_no x _ hv).mono ?_); rintro e w' ⟨rfl, rfl⟩)) | (go_at_call 13; ((with_reducible refine (HD.out _).mono ?_); rintro e w' ⟨rfl, rfl⟩)))
      refine (alive_any _).mono ?_
      rintro e w2 ⟨rfl, hb2⟩
      have HB2 := Lib.hid hb2
      clear hb2
      go_wp2_with fail
      go_ret
      exact ⟨rfl, HB.out.trans (HB2.out.mono HB.out.size)⟩
  · obtain ⟨p, rfl⟩ := Int.eq_ofNat_of_zero_le (show 0 ≤ x by omega)
    have h0 : 2 ≤ p := by omega
    have h1 : p ≤ 511 := by omega
    obtain ⟨k1, k2, k3, k4⟩ := period_law p h0 h1
    have hpw := Bw.modulus_pow h0 h1
    have hlg := Bw.modulus_log h0 h1
    obtain ⟨he, _, _⟩ := Bw.modulus_dg h0 h1
    have HS := Lib.hid (fun w : World => spec_RegisterPeriod_yes p w h0 h1)
    have HI := Lib.hid (fun w : World => impl_RegisterPeriod_yes p w h0 h1)
    obtain ⟨q, hq⟩ : ∃ q, 2 ^ p.log2 = q := ⟨_, rfl⟩
    obtain ⟨D, hD⟩ : ∃ D, p.log2 = D := ⟨_, rfl⟩
    rw [hq] at hpw k2 k4
    rw [hD] at he hlg hq
    have HD := Lib.hid (fun (w : World) => he ▸ spec_PolyDegree_yes p w (by omega))
    have hw : wrap64 (2 ^ D) = (q : Int) := by rw [Bw.two_pow_cast, hq, Bw.w64n (by omega)]
    obtain ⟨r, hr⟩ : ∃ r, Bw.per p = r := ⟨_, rfl⟩
    rw [hr] at k1 k2 k3 k4 HS HI
    clear he hq hD hr hv
    have ho : ((p : Int) % 2 == 1) = decide (0 < r) := by
      by_cases h : 0 < r
      · have := k1.1 h; simp [h]; omega
      · have : p % 2 ≠ 1 := fun h2 => h (k1.2 h2)
        simp [h]; omega
    have ho2 : (decide (0 < r) == ((p : Int) % 2 == 1)) = true := by rw [ho]; simp
    have HO := Lib.hid ho
    clear ho k1
    rcases k3 with k3 | k3
    · go_wp2_with (first | (go_at_call 20; ((with_reducible refine (HS.out _).mono ?_); rintro e w' ⟨rfl, rfl⟩)) | (go_at_call 19; ((with_reducible refine (HI.out _).mono ?_); rintro e w' ⟨rfl, rfl⟩)) | (go_at_call 13; ((with_reducible refine (HD.out _).mono ?_); rintro e w' ⟨rfl, rfl⟩)))
      go_ret
      exact ⟨rfl, HB.out⟩
    · have hodd : ((p : Int) % 2 == 1) = true := by rw [HO.out]; simp [k3]
      clear ho2
      by_cases hp : Bw.Prime p
      · have hk := k4 k3 hp
        have hmod : (((q : Int) - 1) % r == 0) = true := by
          rw [show (q : Int) - 1 = ((q - 1 : Nat) : Int) from by omega, hk]; rfl
        have HP := Lib.hid hp
        clear hp hk k4
        go_wp2_with (first | (go_at_call 20; ((with_reducible refine (HS.out _).mono ?_); rintro e w' ⟨rfl, rfl⟩)) | (go_at_call 19; ((with_reducible refine (HI.out _).mono ?_); rintro e w' ⟨rfl, rfl⟩)) | (go_at_call 13; ((with_reducible refine (HD.out _).mono ?_); rintro e w' ⟨rfl, rfl⟩)) | (go_at_call 21; ((with_reducible refine (impl_PolyPrime_yes p _ h1 HP).mono ?_); rintro e w' ⟨rfl, rfl⟩)))
        go_ret
        exact ⟨rfl, HB.out⟩
      · have HP := Lib.hid hp
        clear hp k4
        go_wp2_with (first | (go_at_call 20; ((with_reducible refine (HS.out _).mono ?_); rintro e w' ⟨rfl, rfl⟩)) | (go_at_call 19; ((with_reducible refine (HI.out _).mono ?_); rintro e w' ⟨rfl, rfl⟩)) | (go_at_call 13; ((with_reducible refine (HD.out _).mono ?_); rintro e w' ⟨rfl, rfl⟩)) | (go_at_call 21; ((with_reducible refine (impl_PolyPrime_no1 p _ h0 h1 HP).mono ?_); rintro e w' ⟨rfl, rfl⟩)))
        go_ret
        exact ⟨rfl, HB.out⟩

end Go.Proofs.Ytdnjmnlieilpiad
