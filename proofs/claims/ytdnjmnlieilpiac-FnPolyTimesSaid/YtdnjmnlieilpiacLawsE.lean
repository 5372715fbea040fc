/- The walks of the laws on polynomials: degrees and products. -/
import Derived.Test.YtdnjmnlieilpiacDraws
import Derived.Test.YtdnjmnlieilpiacWord2
import Derived.Test.YtdnjmnlieilpiacLawPlain

namespace Go.Proofs.Ytdnjmnlieilpiac
open Go.RowKit
set_option linter.unusedVariables false

set_option maxHeartbeats 400000 in
theorem law_FnPolyDegree (w : World) (a : Option Addr) (n cap : Nat) (zs : List Int) (h : Bw.IsRow .u8 w a n cap zs) (a2 : Option Addr) (n2 cap2 : Nat) (zs2 : List Int) (h2 : Bw.IsRow .u8 w a2 n2 cap2 zs2) :
    Calls Try.prog 4 #[.slice a n cap, .slice a2 n2 cap2] w fun e w' => e = .returned (.bool true) ∧ Below w.heap.size w w' := by
  have hc := code_of_row h
  have hlen := h.len.2
  have hlen2 := h2.len.2
  have HC := Lib.hid hc
  clear h hc h2
  by_cases hbig : 1048576 < n
  · go_enter Try.func4, Try.ntmps4
    go_wp2_with fail
    go_ret
    exact ⟨rfl, Below.refl _ _⟩
  have hs : n ≤ 1048576 := by omega
  clear hbig
  by_cases hbig : 1048576 < n2
  · go_enter Try.func4, Try.ntmps4
    go_wp2_with fail
    go_ret
    exact ⟨rfl, Below.refl _ _⟩
  have hs2 : n2 ≤ 1048576 := by omega
  clear hbig
  go_enter Try.func4, Try.ntmps4
  go_wp2_with fail
  refine (DrawPolyDegree_any a n cap _ HC.out).mono ?_
  rintro e w1 ⟨x, rfl, hx, hb⟩
  have HB := Lib.hid hb
  clear hb
  by_cases hv : x < 0 ∨ 65535 < x
  · go_wp2_with (first | (go_at_call 15; ((with_reducible refine (spec_PolyDegree_no _ _ hv).mono ?_); rintro e w' ⟨rfl, rfl⟩)) | (go_at_call 14; ((with_reducible refine (impl_PolyDegree_no _ _ hv).mono ?_); rintro e w' ⟨rfl, rfl⟩)) | (go_at_call 16; ((with_reducible refine (impl_PolyValid_no _ _ hv).mono ?_); rintro e w' ⟨rfl, rfl⟩)))
    refine (alive_any _).mono ?_
    rintro e w2 ⟨rfl, hb2⟩
    have HB2 := Lib.hid hb2
    clear hb2
    go_wp2_with fail
    go_ret
    exact ⟨rfl, HB.out.trans (HB2.out.mono HB.out.size)⟩
  · by_cases h0 : x = 0
    · subst h0
      have H1 : Hid (∀ w : World, Calls Try.prog 14 #[.int .i64 0] w fun e w' => e = .returned (.int .i64 (-1)) ∧ w = w') := fun w => impl_PolyDegree_yes 0 w (by omega)
      have H2 : Hid (∀ w : World, Calls Try.prog 15 #[.int .i64 0] w fun e w' => e = .returned (.int .i64 (-1)) ∧ w = w') := fun w => spec_PolyDegree_yes 0 w (by omega)
      go_wp2_with (first | (go_at_call 15; ((with_reducible refine (H2.out _).mono ?_); rintro e w' ⟨rfl, rfl⟩)) | (go_at_call 14; ((with_reducible refine (H1.out _).mono ?_); rintro e w' ⟨rfl, rfl⟩)))
      refine (alive_any _).mono ?_
      rintro e w2 ⟨rfl, hb2⟩
      have HB2 := Lib.hid hb2
      clear hb2
      go_wp2_with fail
      go_ret
      exact ⟨rfl, HB.out.trans (HB2.out.mono HB.out.size)⟩
    · obtain ⟨x, rfl⟩ := Int.eq_ofNat_of_zero_le (show 0 ≤ x by omega)
      have hx0 : x ≠ 0 := by omega
      have hx1 : x ≤ 65535 := by omega
      have hdeg := Bw.deg_log hx0
      have hD16 : x.log2 < 16 := (Nat.log2_lt hx0).2 (by omega)
      have hdx := Bw.dg_pos hx0
      obtain ⟨D, hD⟩ : ∃ D, x.log2 = D := ⟨_, rfl⟩
      rw [hD] at hdeg hD16 hdx
      have H1 := Lib.hid (fun w : World => hdx ▸ impl_PolyDegree_yes x w hx1)
      have H2 := Lib.hid (fun w : World => hdx ▸ spec_PolyDegree_yes x w hx1)
      obtain ⟨q, hq, hq0, hq1⟩ : ∃ q : Nat, (1 : Int) + (n2 : Int) * 11 % 200 = (q : Int) ∧ q ≠ 0 ∧ q ≤ 200 := ⟨1 + n2 * 11 % 200, by omega, by omega, by omega⟩
      have H3 := Lib.hid (fun w : World => impl_PolyDegree_yes q w (by omega))
      have hpow := Nat.pow_le_pow_right (n := 2) (by omega) (show D ≤ 15 by omega)
      obtain ⟨Q, hQ⟩ : ∃ Q, 2 ^ D = Q := ⟨_, rfl⟩
      obtain ⟨hd1, hd2⟩ := hdeg
      rw [Nat.pow_succ, hQ] at hd2
      rw [hQ] at hd1 hpow
      have hw : wrap64 (2 ^ D) = (Q : Int) := by rw [Bw.two_pow_cast, hQ, Bw.w64n (by omega)]
      have hw2 : wrap64 (2 * 2 ^ D) = 2 * (Q : Int) := Bw.shl_two hQ (by omega)
      by_cases hm : Bw.mul x q ≤ 65535
      · have hdm := Bw.deg_of_mul hx0 hq0
        rw [hdx] at hdm
        have H4 := Lib.hid (fun w : World => impl_PolyTimes_yes x q w hx1 (by omega) hm)
        have H5 := Lib.hid (fun w : World => hdm ▸ impl_PolyDegree_yes (Bw.mul x q) w hm)
        have kq := Bw.dg_bd (p := q) (by omega)
        clear hdm hD hdx hQ hv h0 hx hm
        go_wp2_with (first | (go_at_call 15; ((with_reducible refine (H2.out _).mono ?_); rintro e w' ⟨rfl, rfl⟩)) | (go_at_call 14; ((with_reducible refine (H1.out _).mono ?_); rintro e w' ⟨rfl, rfl⟩)) | (go_at_call 18; ((with_reducible refine (H4.out _).mono ?_); rintro e w' ⟨rfl, rfl⟩)) | (go_at_call 14; ((with_reducible refine (H5.out _).mono ?_); rintro e w' ⟨rfl, rfl⟩)) | (go_at_call 14; ((with_reducible refine (H3.out _).mono ?_); rintro e w' ⟨rfl, rfl⟩)))
        go_ret
        exact ⟨rfl, HB.out⟩
      · have H4 := Lib.hid (fun w : World => impl_PolyTimes_big x q w hx1 (by omega) (by omega))
        clear hD hdx hQ hv h0 hx hm
        go_wp2_with (first | (go_at_call 15; ((with_reducible refine (H2.out _).mono ?_); rintro e w' ⟨rfl, rfl⟩)) | (go_at_call 14; ((with_reducible refine (H1.out _).mono ?_); rintro e w' ⟨rfl, rfl⟩)) | (go_at_call 18; ((with_reducible refine (H4.out _).mono ?_); rintro e w' ⟨rfl, rfl⟩)))
        go_ret
        exact ⟨rfl, HB.out⟩

theorem impl_PolyTimes_any (a b : Nat) (ha : a ≤ 65535) (hb : b ≤ 65535) : ∃ v : Int, ((v = -1 ∧ 65535 < Bw.mul a b) ∨ (v = ((Bw.mul a b : Nat) : Int) ∧ Bw.mul a b ≤ 65535)) ∧ ∀ w : World, Calls Try.prog 18 #[.int .i64 a, .int .i64 b] w fun e w' => e = .returned (.int .i64 v) ∧ w = w' := by
  by_cases h : Bw.mul a b ≤ 65535
  · exact ⟨_, .inr ⟨rfl, h⟩, fun w => impl_PolyTimes_yes a b w ha hb h⟩
  · exact ⟨-1, .inl ⟨rfl, by omega⟩, fun w => impl_PolyTimes_big a b w ha hb (by omega)⟩

set_option maxRecDepth 100000 in
set_option maxHeartbeats 1000000 in
theorem law_FnPolyTimes (w : World) (a : Option Addr) (n cap : Nat) (zs : List Int) (h : Bw.IsRow .u8 w a n cap zs) (a2 : Option Addr) (n2 cap2 : Nat) (zs2 : List Int) (h2 : Bw.IsRow .u8 w a2 n2 cap2 zs2) :
    Calls Try.prog 6 #[.slice a n cap, .slice a2 n2 cap2] w fun e w' => e = .returned (.bool true) ∧ Below w.heap.size w w' := by
  have hc := code_of_row h
  have hlen := h.len.2
  have hlen2 := h2.len.2
  have HC := Lib.hid hc
  clear h hc h2
  by_cases hbig : 1048576 < n
  · go_enter Try.func6, Try.ntmps6
    go_wp2_with fail
    go_ret
    exact ⟨rfl, Below.refl _ _⟩
  have hs : n ≤ 1048576 := by omega
  clear hbig
  by_cases hbig : 1048576 < n2
  · go_enter Try.func6, Try.ntmps6
    go_wp2_with fail
    go_ret
    exact ⟨rfl, Below.refl _ _⟩
  have hs2 : n2 ≤ 1048576 := by omega
  clear hbig
  go_enter Try.func6, Try.ntmps6
  go_wp2_with fail
  refine (DrawPolyTimes_any a n cap _ HC.out).mono ?_
  rintro e w1 ⟨x, y, rfl, _, hb⟩
  have HB := Lib.hid hb
  clear hb
  by_cases hv : (0 ≤ x ∧ x ≤ 65535) ∧ (0 ≤ y ∧ y ≤ 65535)
  · obtain ⟨x, rfl⟩ := Int.eq_ofNat_of_zero_le hv.1.1
    obtain ⟨y, rfl⟩ := Int.eq_ofNat_of_zero_le hv.2.1
    have hx2 : x ≤ 65535 := by omega
    have hy2 : y ≤ 65535 := by omega
    clear hv
    by_cases hs : Bw.mul x y ≤ 65535
    · have HS := Lib.hid (fun w : World => spec_PolyTimes_yes x y w hx2 hy2 ((Bw.times_small hx2 hy2).1 hs))
      have HI := Lib.hid (fun w : World => impl_PolyTimes_yes x y w hx2 hy2 hs)
      obtain ⟨c, hc, hc1⟩ : ∃ c : Nat, (n2 : Int) * 11 % 200 = (c : Int) ∧ c < 200 := ⟨n2 * 11 % 200, by omega, by omega⟩
      have hyc : y ^^^ c ≤ 65535 := by have := Nat.xor_lt_two_pow (n := 16) (show y < 2 ^ 16 by omega) (show c < 2 ^ 16 by omega); omega
      have HYC := Lib.hid (fun w : World => impl_PolyAdd_yes y c w hy2 (by omega))
      have HYX : Hid (∀ w : World, Calls Try.prog 18 #[.int .i64 y, .int .i64 x] w fun e w' => e = .returned (.int .i64 ((Bw.mul x y : Nat) : Int)) ∧ w = w') := fun w => by
        have t := impl_PolyTimes_yes y x w hy2 hx2 (by rw [Bw.mul_comm]; exact hs)
        rw [Bw.mul_comm] at t
        exact t
      obtain ⟨q, hq, hqc⟩ := impl_PolyTimes_any y y hy2 hy2
      have HQ := Lib.hid hqc
      have hqt : Hid (y < 256 → q = ((Bw.tw y 8 : Nat) : Int)) := fun h => by
        have hm := Bw.tw_square h
        have hl := Bw.tw_lt y 8
        rcases hq with ⟨rfl, h2⟩ | ⟨rfl, _⟩
        · omega
        · rw [hm]
      clear hq hqc
      obtain ⟨u, hu, huc⟩ := impl_PolyTimes_any x c hx2 (by omega)
      obtain ⟨v, hv, hvc⟩ := impl_PolyTimes_any x (y ^^^ c) hx2 hyc
      have HU := Lib.hid huc
      have HV := Lib.hid hvc
      clear huc hvc
      obtain ⟨T, hT⟩ : ∃ T, Bw.tw y 8 = T := ⟨_, rfl⟩
      have HT := Lib.hid hT
      rw [hT] at hqt
      have hend : (256 ≤ y ∧ decide ((256 : Int) ≤ (y : Int)) = true) ∨ (y < 256 ∧ (q == (T : Int)) = true) := by
        by_cases h : 256 ≤ y
        · exact .inl ⟨h, by rw [decide_eq_true_eq]; omega⟩
        · exact .inr ⟨by omega, by rw [hqt.out (by omega)]; simp⟩
      clear hqt hT
      obtain ⟨z, hz⟩ : ∃ z, y ^^^ c = z := ⟨_, rfl⟩
      rw [hz] at HYC HV hv
      rcases hu with ⟨rfl, hu⟩ | ⟨rfl, hu⟩
      · clear hv hz
        rcases hend with ⟨hend1, hend⟩ | ⟨hend1, hend⟩
        all_goals
          go_wp2_with (first | (go_at_call 23; ((with_reducible refine (HS.out _).mono ?_); rintro e w' ⟨rfl, rfl⟩)) | (go_at_call 18; ((with_reducible refine (HI.out _).mono ?_); rintro e w' ⟨rfl, rfl⟩)) | (go_at_call 18; ((with_reducible refine (HU.out _).mono ?_); rintro e w' ⟨rfl, rfl⟩)) | (go_at_call 20; ((with_reducible refine (HYC.out _).mono ?_); rintro e w' ⟨rfl, rfl⟩)) | (go_at_call 18; ((with_reducible refine (HV.out _).mono ?_); rintro e w' ⟨rfl, rfl⟩)))
          go_wp2_with (go_at_call 18; ((with_reducible refine (HQ.out _).mono ?_); rintro e w' ⟨rfl, rfl⟩))
          go_loop [12, 13] (fun t i => ∃ k : Nat, k ≤ 8 ∧ i = .int .i64 k ∧ t = .int .i64 ((Bw.tw y k : Nat) : Int)) (fun _ i => 8 - (intOf i).toNat)
          case atStart => exact ⟨0, by omega, rfl, rfl⟩
          case round =>
            obtain ⟨k, hk, rfl, rfl⟩ := hrel
            by_cases hl : k < 8
            · go_wp2_with fail
              go_round
              case rel => exact ⟨k + 1, by omega, by go_num, by rw [← Bw.tw_slot hl]⟩
              case measure => simp [intOf]; omega
            · obtain rfl : k = 8 := by omega
              rw [HT.out]
              go_wp2_with (go_at_call 18; ((with_reducible refine (HYX.out _).mono ?_); rintro e w' ⟨rfl, rfl⟩))
              go_ret
              exact ⟨rfl, HB.out⟩
      · rcases hv with ⟨rfl, hv⟩ | ⟨rfl, hv⟩
        · clear hz
          rcases hend with ⟨hend1, hend⟩ | ⟨hend1, hend⟩
          all_goals
            go_wp2_with (first | (go_at_call 23; ((with_reducible refine (HS.out _).mono ?_); rintro e w' ⟨rfl, rfl⟩)) | (go_at_call 18; ((with_reducible refine (HI.out _).mono ?_); rintro e w' ⟨rfl, rfl⟩)) | (go_at_call 18; ((with_reducible refine (HU.out _).mono ?_); rintro e w' ⟨rfl, rfl⟩)) | (go_at_call 20; ((with_reducible refine (HYC.out _).mono ?_); rintro e w' ⟨rfl, rfl⟩)) | (go_at_call 18; ((with_reducible refine (HV.out _).mono ?_); rintro e w' ⟨rfl, rfl⟩)))
            go_wp2_with (go_at_call 18; ((with_reducible refine (HQ.out _).mono ?_); rintro e w' ⟨rfl, rfl⟩))
            go_loop [12, 13] (fun t i => ∃ k : Nat, k ≤ 8 ∧ i = .int .i64 k ∧ t = .int .i64 ((Bw.tw y k : Nat) : Int)) (fun _ i => 8 - (intOf i).toNat)
            case atStart => exact ⟨0, by omega, rfl, rfl⟩
            case round =>
              obtain ⟨k, hk, rfl, rfl⟩ := hrel
              by_cases hl : k < 8
              · go_wp2_with fail
                go_round
                case rel => exact ⟨k + 1, by omega, by go_num, by rw [← Bw.tw_slot hl]⟩
                case measure => simp [intOf]; omega
              · obtain rfl : k = 8 := by omega
                rw [HT.out]
                go_wp2_with (go_at_call 18; ((with_reducible refine (HYX.out _).mono ?_); rintro e w' ⟨rfl, rfl⟩))
                go_ret
                exact ⟨rfl, HB.out⟩
        · have HA : Hid (∀ w : World, Calls Try.prog 20 #[.int .i64 ((Bw.mul x y : Nat) : Int), .int .i64 ((Bw.mul x c : Nat) : Int)] w fun e w' => e = .returned (.int .i64 ((Bw.mul x z : Nat) : Int)) ∧ w = w') := fun w => by
            have t := impl_PolyAdd_yes (Bw.mul x y) (Bw.mul x c) w hs hu
            rw [← Bw.mul_xor, hz] at t
            exact t
          clear hz
          rcases hend with ⟨hend1, hend⟩ | ⟨hend1, hend⟩
          all_goals
            go_wp2_with (first | (go_at_call 23; ((with_reducible refine (HS.out _).mono ?_); rintro e w' ⟨rfl, rfl⟩)) | (go_at_call 18; ((with_reducible refine (HI.out _).mono ?_); rintro e w' ⟨rfl, rfl⟩)) | (go_at_call 18; ((with_reducible refine (HU.out _).mono ?_); rintro e w' ⟨rfl, rfl⟩)) | (go_at_call 20; ((with_reducible refine (HYC.out _).mono ?_); rintro e w' ⟨rfl, rfl⟩)) | (go_at_call 18; ((with_reducible refine (HV.out _).mono ?_); rintro e w' ⟨rfl, rfl⟩)) | (go_at_call 20; ((with_reducible refine (HA.out _).mono ?_); rintro e w' ⟨rfl, rfl⟩)))
            go_wp2_with (go_at_call 18; ((with_reducible refine (HQ.out _).mono ?_); rintro e w' ⟨rfl, rfl⟩))
            go_loop [12, 13] (fun t i => ∃ k : Nat, k ≤ 8 ∧ i = .int .i64 k ∧ t = .int .i64 ((Bw.tw y k : Nat) : Int)) (fun _ i => 8 - (intOf i).toNat)
            case atStart => exact ⟨0, by omega, rfl, rfl⟩
            case round =>
              obtain ⟨k, hk, rfl, rfl⟩ := hrel
              by_cases hl : k < 8
              · go_wp2_with fail
                go_round
                case rel => exact ⟨k + 1, by omega, by go_num, by rw [← Bw.tw_slot hl]⟩
                case measure => simp [intOf]; omega
              · obtain rfl : k = 8 := by omega
                rw [HT.out]
                go_wp2_with (go_at_call 18; ((with_reducible refine (HYX.out _).mono ?_); rintro e w' ⟨rfl, rfl⟩))
                go_ret
                exact ⟨rfl, HB.out⟩
    · have HS := Lib.hid (fun w : World => spec_PolyTimes_big x y w hx2 hy2 (by have := (Bw.times_small hx2 hy2); omega))
      have HI := Lib.hid (fun w : World => impl_PolyTimes_big x y w hx2 hy2 (by omega))
      go_wp2_with (first | (go_at_call 23; ((with_reducible refine (HS.out _).mono ?_); rintro e w' ⟨rfl, rfl⟩)) | (go_at_call 18; ((with_reducible refine (HI.out _).mono ?_); rintro e w' ⟨rfl, rfl⟩)))
      refine (alive_any _).mono ?_
      rintro e w2 ⟨rfl, hb2⟩
      have HB2 := Lib.hid hb2
      clear hb2
      go_wp2_with fail
      go_ret
      exact ⟨rfl, HB.out.trans (HB2.out.mono HB.out.size)⟩
  · have hv2 : (x < 0 ∨ 65535 < x) ∨ (y < 0 ∨ 65535 < y) := by omega
    clear hv
    go_wp2_with (first | (go_at_call 23; ((with_reducible refine (spec_PolyTimes_no x y _ hv2).mono ?_); rintro e w' ⟨rfl, rfl⟩)) | (go_at_call 18; ((with_reducible refine (impl_PolyTimes_no x y _ hv2).mono ?_); rintro e w' ⟨rfl, rfl⟩)))
    refine (alive_any _).mono ?_
    rintro e w2 ⟨rfl, hb2⟩
    have HB2 := Lib.hid hb2
    clear hb2
    go_wp2_with fail
    go_ret
    exact ⟨rfl, HB.out.trans (HB2.out.mono HB.out.size)⟩

end Go.Proofs.Ytdnjmnlieilpiac
