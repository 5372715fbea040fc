/- The walks of the laws on registers, divisors, primes and fields. -/
import Derived.Test.YtdnjmnlieilpiadDraws
import Derived.Test.YtdnjmnlieilpiadWord2
import Derived.Test.YtdnjmnlieilpiadLawsB

namespace Go.Proofs.Ytdnjmnlieilpiad
open Go.RowKit
set_option linter.unusedVariables false

set_option maxRecDepth 100000 in
set_option maxHeartbeats 1000000 in
theorem law_FnRegisterNext (w : World) (a : Option Addr) (n cap : Nat) (zs : List Int) (h : Bw.IsRow .u8 w a n cap zs) (a2 : Option Addr) (n2 cap2 : Nat) (zs2 : List Int) (h2 : Bw.IsRow .u8 w a2 n2 cap2 zs2) :
    Calls Try.prog 3 #[.slice a n cap, .slice a2 n2 cap2] w fun e w' => e = .returned (.bool true) ∧ Below w.heap.size w w' := by
  have hc := code_of_row h
  have hlen := h.len.2
  have hlen2 := h2.len.2
  have HC := Lib.hid hc
  clear h hc h2
  by_cases hbig : 1048576 < n
  · go_enter Try.func3, Try.ntmps3
    go_wp2_with fail
    go_ret
    exact ⟨rfl, Below.refl _ _⟩
  have hs : n ≤ 1048576 := by omega
  clear hbig
  by_cases hbig : 1048576 < n2
  · go_enter Try.func3, Try.ntmps3
    go_wp2_with fail
    go_ret
    exact ⟨rfl, Below.refl _ _⟩
  have hs2 : n2 ≤ 1048576 := by omega
  clear hbig
  go_enter Try.func3, Try.ntmps3
  go_wp2_with fail
  refine (DrawRegisterNext_any a n cap _ HC.out).mono ?_
  rintro e w1 ⟨s, p, rfl, _, hb⟩
  have HB := Lib.hid hb
  clear hb
  by_cases hv : (p < 2 ∨ 511 < p) ∨ (s < 0 ∨ ((2 ^ p.toNat.log2 : Nat) : Int) ≤ s)
  · have HS := Lib.hid (fun w : World => spec_RegisterNext_no s p w hv)
    have HI := Lib.hid (fun w : World => impl_RegisterNext_no s p w hv)
    clear hv
    go_wp2_with (first | (go_at_call 11; ((with_reducible refine (HS.out _).mono ?_); rintro e w' ⟨rfl, rfl⟩)) | (go_at_call 10; ((with_reducible refine (HI.out _).mono ?_); rintro e w' ⟨rfl, rfl⟩)))
    refine (alive_any _).mono ?_
    rintro e w2 ⟨rfl, hb2⟩
    have HB2 := Lib.hid hb2
    clear hb2
    go_wp2_with fail
    go_ret
    exact ⟨rfl, HB.out.trans (HB2.out.mono HB.out.size)⟩
  · obtain ⟨p, rfl⟩ := Int.eq_ofNat_of_zero_le (show 0 ≤ p by omega)
    obtain ⟨s, rfl⟩ := Int.eq_ofNat_of_zero_le (show 0 ≤ s by omega)
    rw [Int.toNat_natCast] at hv
    have h0 : 2 ≤ p := by omega
    have h1 : p ≤ 511 := by omega
    have hs' : s < 2 ^ p.log2 := by omega
    clear hv
    have p0 : p ≠ 0 := by omega
    have hpw := Bw.modulus_pow h0 h1
    have hlg := Bw.modulus_log h0 h1
    obtain ⟨he, _, _⟩ := Bw.modulus_dg h0 h1
    obtain ⟨b, hbq, hb2⟩ : ∃ b : Nat, (n2 : Int) * 11 % ((2 ^ p.log2 : Nat) : Int) = (b : Int) ∧ b < 2 ^ p.log2 := ⟨n2 * 11 % 2 ^ p.log2, by simp, Nat.mod_lt _ (Nat.two_pow_pos _)⟩
    have hx := Nat.xor_lt_two_pow hs' hb2
    have HS := Lib.hid (fun w : World => spec_RegisterNext_yes s p w h0 h1 hs')
    have HI := Lib.hid (fun w : World => impl_RegisterNext_yes s p w h0 h1 hs')
    have HBN := Lib.hid (fun w : World => impl_RegisterNext_yes b p w h0 h1 hb2)
    have HXN := Lib.hid (fun w : World => impl_RegisterNext_yes (s ^^^ b) p w h0 h1 hx)
    have HA := Lib.hid (fun w : World => impl_PolyAdd_yes s b w (by omega) (by omega))
    have r1 := Bw.pmod_lt256 h0 h1 (2 * s)
    have r2 := Bw.pmod_lt256 h0 h1 (2 * b)
    have HC : Hid (∀ w : World, Calls Try.prog 14 #[.int .i64 ((Bw.pmod (2 * s) p : Nat) : Int), .int .i64 ((Bw.pmod (2 * b) p : Nat) : Int)] w fun e w' => e = .returned (.int .i64 ((Bw.pmod (2 * (s ^^^ b)) p : Nat) : Int)) ∧ w = w') := fun w => by
      have t := impl_PolyAdd_yes (Bw.pmod (2 * s) p) (Bw.pmod (2 * b) p) w (by omega) (by omega)
      rw [← Bw.pmod_xor _ _ p0, ← Bw.xor_two_mul] at t
      exact t
    have hinj : p % 2 = 1 → (((Bw.pmod (2 * s) p : Nat) : Int) == ((Bw.pmod (2 * b) p : Nat) : Int)) = ((s : Int) == (b : Int)) := fun hp => by
      by_cases h : s = b
      · subst h; simp
      · have : Bw.pmod (2 * s) p ≠ Bw.pmod (2 * b) p := fun e => h (Bw.twice_inj hp p0 hs' hb2 e)
        rw [beq_eq_false_iff_ne.2 (by omega), beq_eq_false_iff_ne.2 (by omega)]
    obtain ⟨X, hX⟩ : ∃ X, Bw.pmod (2 * s) p = X := ⟨_, rfl⟩
    obtain ⟨Y, hY⟩ : ∃ Y, Bw.pmod (2 * b) p = Y := ⟨_, rfl⟩
    obtain ⟨Z, hZ⟩ : ∃ Z, s ^^^ b = Z := ⟨_, rfl⟩
    obtain ⟨V, hV⟩ : ∃ V, Bw.pmod (2 * Z) p = V := ⟨_, rfl⟩
    obtain ⟨q, hq⟩ : ∃ q, 2 ^ p.log2 = q := ⟨_, rfl⟩
    rw [hX] at HS HI HC hinj r1
    rw [hY] at HBN HC hinj r2
    rw [hZ] at HXN HA HC
    rw [hV] at HXN HC
    obtain ⟨D, hD⟩ : ∃ D, p.log2 = D := ⟨_, rfl⟩
    rw [hq] at hpw hbq r1 r2
    rw [hD] at he hlg hq
    have HD := Lib.hid (fun (w : World) => he ▸ spec_PolyDegree_yes p w (by omega))
    have hw : wrap64 (2 ^ D) = (q : Int) := by rw [Bw.two_pow_cast, hq, Bw.w64n (by omega)]
    have hdec : decide ((X : Int) < (q : Int)) = true := by rw [decide_eq_true_eq]; exact Int.ofNat_lt.2 r1.1
    clear hX hY hZ hV hD he hq hx hb2 hs' r2
    rcases Nat.mod_two_eq_zero_or_one p with hp | hp
    · have hp2 : ((p : Int) % 2 == 0) = true := by rw [beq_iff_eq]; omega
      clear hinj hp
      go_wp2_with (first | (go_at_call 11; ((with_reducible refine (HS.out _).mono ?_); rintro e w' ⟨rfl, rfl⟩)) | (go_at_call 10; ((with_reducible refine (HI.out _).mono ?_); rintro e w' ⟨rfl, rfl⟩)) | (go_at_call 13; ((with_reducible refine (HD.out _).mono ?_); rintro e w' ⟨rfl, rfl⟩)) | (go_at_call 10; ((with_reducible refine (HBN.out _).mono ?_); rintro e w' ⟨rfl, rfl⟩)) | (go_at_call 14; ((with_reducible refine (HA.out _).mono ?_); rintro e w' ⟨rfl, rfl⟩)) | (go_at_call 10; ((with_reducible refine (HXN.out _).mono ?_); rintro e w' ⟨rfl, rfl⟩)) | (go_at_call 14; ((with_reducible refine (HC.out _).mono ?_); rintro e w' ⟨rfl, rfl⟩)))
      go_ret
      exact ⟨rfl, HB.out⟩
    · have hp2 : ((p : Int) % 2 == 0) = false := by rw [beq_eq_false_iff_ne]; omega
      have hi := hinj hp
      clear hinj hp
      obtain ⟨u, hu⟩ : ∃ u, ((s : Int) == (b : Int)) = u := ⟨_, rfl⟩
      rw [hu] at hi
      go_wp2_with (first | (go_at_call 11; ((with_reducible refine (HS.out _).mono ?_); rintro e w' ⟨rfl, rfl⟩)) | (go_at_call 10; ((with_reducible refine (HI.out _).mono ?_); rintro e w' ⟨rfl, rfl⟩)) | (go_at_call 13; ((with_reducible refine (HD.out _).mono ?_); rintro e w' ⟨rfl, rfl⟩)) | (go_at_call 10; ((with_reducible refine (HBN.out _).mono ?_); rintro e w' ⟨rfl, rfl⟩)) | (go_at_call 14; ((with_reducible refine (HA.out _).mono ?_); rintro e w' ⟨rfl, rfl⟩)) | (go_at_call 10; ((with_reducible refine (HXN.out _).mono ?_); rintro e w' ⟨rfl, rfl⟩)) | (go_at_call 14; ((with_reducible refine (HC.out _).mono ?_); rintro e w' ⟨rfl, rfl⟩)))
      go_ret
      exact ⟨ret_bool (by simp), HB.out⟩

set_option maxRecDepth 100000 in
set_option maxHeartbeats 1000000 in
theorem law_FnPolyCommon (w : World) (a : Option Addr) (n cap : Nat) (zs : List Int) (h : Bw.IsRow .u8 w a n cap zs) :
    Calls Try.prog 8 #[.slice a n cap] w fun e w' => e = .returned (.bool true) ∧ Below w.heap.size w w' := by
  have hc := code_of_row h
  have hlen := h.len.2
  have HC := Lib.hid hc
  clear h hc
  by_cases hbig : 1048576 < n
  · go_enter Try.func8, Try.ntmps8
    go_wp2_with fail
    go_ret
    exact ⟨rfl, Below.refl _ _⟩
  have hs : n ≤ 1048576 := by omega
  clear hbig
  go_enter Try.func8, Try.ntmps8
  go_wp2_with fail
  refine (DrawPolyCommon_any a n cap _ HC.out).mono ?_
  rintro e w1 ⟨x, y, rfl, _, hb⟩
  have HB := Lib.hid hb
  clear hb
  by_cases hv : (0 ≤ x ∧ x ≤ 65535) ∧ (0 ≤ y ∧ y ≤ 65535)
  · obtain ⟨x, rfl⟩ := Int.eq_ofNat_of_zero_le hv.1.1
    obtain ⟨y, rfl⟩ := Int.eq_ofNat_of_zero_le hv.2.1
    have hx : x ≤ 65535 := by omega
    have hy : y ≤ 65535 := by omega
    clear hv
    have HS := Lib.hid (fun w : World => spec_PolyCommon_yes x y w hx hy)
    have HI := Lib.hid (fun w : World => impl_PolyCommon_yes x y w hx hy)
    have HC : Hid (∀ w : World, Calls Try.prog 31 #[.int .i64 y, .int .i64 x] w fun e w' => e = .returned (.int .i64 ((Bw.pgcd x y : Nat) : Int)) ∧ w = w') := fun w => by
      have t := impl_PolyCommon_yes y x w hy hx
      rw [Bw.pgcd_comm] at t
      exact t
    have hgl := Bw.pgcd_left x y
    have hgr := Bw.pgcd_right x y
    have hgg : Hid (∀ c, Bw.Dvd c x → Bw.Dvd c y → Bw.Dvd c (Bw.pgcd x y)) := fun c h k => Bw.pgcd_greatest h k
    obtain ⟨d, hd⟩ : ∃ d, Bw.pgcd x y = d := ⟨_, rfl⟩
    rw [hd] at HS HI HC hgl hgr hgg
    clear hd
    by_cases hd0 : d = 0
    · subst hd0
      have hx0 : x = 0 := by obtain ⟨q, h⟩ := hgl; rw [Bw.zero_mul] at h; exact h
      have hy0 : y = 0 := by obtain ⟨q, h⟩ := hgr; rw [Bw.zero_mul] at h; exact h
      have hx1 : ((x : Int) == 0) = true := by rw [hx0]; rfl
      have hy1 : ((y : Int) == 0) = true := by rw [hy0]; rfl
      clear hgl hgr hgg hx0 hy0
      go_wp2_with (first | (go_at_call 32; ((with_reducible refine (HS.out _).mono ?_); rintro e w' ⟨rfl, rfl⟩)) | (go_at_call 31; ((with_reducible refine (HI.out _).mono ?_); rintro e w' ⟨rfl, rfl⟩)))
      go_ret
      exact ⟨rfl, HB.out⟩
    · have hd1 : d ≤ 65535 := by
        by_cases hx0 : x = 0
        · by_cases hy0 : y = 0
          · subst hx0; subst hy0
            obtain ⟨q, h⟩ := hgl
            rcases Bw.mul_eq_zero h.symm with h | h
            · omega
            · obtain ⟨q2, h2⟩ := hgg.out 0 (Bw.Dvd.zero 0) (Bw.Dvd.zero 0)
              rw [Bw.zero_mul] at h2; omega
          · have := hgr.deg hy0
            have h16 := (Nat.log2_lt (n := y) (k := 16) hy0).2 (by omega)
            have := (Nat.log2_lt (n := d) (k := 16) hd0).1 (by omega)
            omega
        · have := hgl.deg hx0
          have h16 := (Nat.log2_lt (n := x) (k := 16) hx0).2 (by omega)
          have := (Nat.log2_lt (n := d) (k := 16) hd0).1 (by omega)
          omega
      have hdz : ((d : Int) == 0) = false := by rw [beq_eq_false_iff_ne]; omega
      have H1 : Hid (∀ w : World, Calls Try.prog 23 #[.int .i64 x, .int .i64 d] w fun e w' => e = .returned (.tuple #[.int .i64 ((Bw.pdiv x d : Nat) : Int), .int .i64 0, .bool true]) ∧ w = w') := fun w => by
        have t := impl_PolyDivide_yes x d w hx hd1 hd0
        rw [(Bw.dvd_iff hd0).2 hgl] at t
        exact t
      have H2 : Hid (∀ w : World, Calls Try.prog 23 #[.int .i64 y, .int .i64 d] w fun e w' => e = .returned (.tuple #[.int .i64 ((Bw.pdiv y d : Nat) : Int), .int .i64 0, .bool true]) ∧ w = w') := fun w => by
        have t := impl_PolyDivide_yes y d w hy hd1 hd0
        rw [(Bw.dvd_iff hd0).2 hgr] at t
        exact t
      have hdpos : 0 < d := by omega
      clear hgl hgr
      go_wp2_with (first | (go_at_call 32; ((with_reducible refine (HS.out _).mono ?_); rintro e w' ⟨rfl, rfl⟩)) | (go_at_call 31; ((with_reducible refine (HI.out _).mono ?_); rintro e w' ⟨rfl, rfl⟩)) | (go_at_call 23; ((with_reducible refine (H1.out _).mono ?_); rintro e w' ⟨rfl, rfl⟩)) | (go_at_call 23; ((with_reducible refine (H2.out _).mono ?_); rintro e w' ⟨rfl, rfl⟩)))
      go_loop [12] (fun i => ∃ c : Nat, 1 ≤ c ∧ c ≤ 32 ∧ i = .int .i64 c) (fun i => 32 - (intOf i).toNat)
      case atStart => exact ⟨1, by omega, by omega, rfl⟩
      case round =>
        obtain ⟨c, hc1, hc2, rfl⟩ := hrel
        by_cases hl : c < 32
        · have hc0 : c ≠ 0 := by omega
          have K1 := Lib.hid (fun w : World => impl_PolyDivide_yes x c w hx (by omega) hc0)
          have K2 := Lib.hid (fun w : World => impl_PolyDivide_yes y c w hy (by omega) hc0)
          have K3 := Lib.hid (fun w : World => impl_PolyDivide_yes d c w hd1 (by omega) hc0)
          by_cases e1 : Bw.pmod x c = 0
          · by_cases e2 : Bw.pmod y c = 0
            · have e3 : Bw.pmod d c = 0 := (Bw.dvd_iff hc0).2 (hgg.out c ((Bw.dvd_iff hc0).1 e1) ((Bw.dvd_iff hc0).1 e2))
              have t1 : (((Bw.pmod x c : Nat) : Int) == 0) = true := by rw [e1]; rfl
              have t2 : (((Bw.pmod y c : Nat) : Int) == 0) = true := by rw [e2]; rfl
              have t3 : (((Bw.pmod d c : Nat) : Int) != 0) = false := by rw [e3]; rfl
              clear e1 e2 e3
              go_wp2_with (first | (go_at_call 23; ((with_reducible refine (K1.out _).mono ?_); rintro e w' ⟨rfl, rfl⟩)) | (go_at_call 23; ((with_reducible refine (K2.out _).mono ?_); rintro e w' ⟨rfl, rfl⟩)) | (go_at_call 23; ((with_reducible refine (K3.out _).mono ?_); rintro e w' ⟨rfl, rfl⟩)))
              go_round
              case rel => exact ⟨c + 1, by omega, by omega, by go_num⟩
              case measure => simp [intOf]; omega
            · have t1 : (((Bw.pmod x c : Nat) : Int) == 0) = true := by rw [e1]; rfl
              have t2 : (((Bw.pmod y c : Nat) : Int) == 0) = false := by rw [beq_eq_false_iff_ne]; omega
              clear e1 e2
              go_wp2_with (first | (go_at_call 23; ((with_reducible refine (K1.out _).mono ?_); rintro e w' ⟨rfl, rfl⟩)) | (go_at_call 23; ((with_reducible refine (K2.out _).mono ?_); rintro e w' ⟨rfl, rfl⟩)) | (go_at_call 23; ((with_reducible refine (K3.out _).mono ?_); rintro e w' ⟨rfl, rfl⟩)))
              go_round
              case rel => exact ⟨c + 1, by omega, by omega, by go_num⟩
              case measure => simp [intOf]; omega
          · have t1 : (((Bw.pmod x c : Nat) : Int) == 0) = false := by rw [beq_eq_false_iff_ne]; omega
            clear e1
            go_wp2_with (first | (go_at_call 23; ((with_reducible refine (K1.out _).mono ?_); rintro e w' ⟨rfl, rfl⟩)) | (go_at_call 23; ((with_reducible refine (K2.out _).mono ?_); rintro e w' ⟨rfl, rfl⟩)) | (go_at_call 23; ((with_reducible refine (K3.out _).mono ?_); rintro e w' ⟨rfl, rfl⟩)))
            go_round
            case rel => exact ⟨c + 1, by omega, by omega, by go_num⟩
            case measure => simp [intOf]; omega
        · obtain rfl : c = 32 := by omega
          go_wp2_with (go_at_call 31; ((with_reducible refine (HC.out _).mono ?_); rintro e w' ⟨rfl, rfl⟩))
          go_ret
          exact ⟨rfl, HB.out⟩
  · have hv2 : (x < 0 ∨ 65535 < x) ∨ (y < 0 ∨ 65535 < y) := by omega
    clear hv
    go_wp2_with (first | (go_at_call 32; ((with_reducible refine (spec_PolyCommon_no x y _ hv2).mono ?_); rintro e w' ⟨rfl, rfl⟩)) | (go_at_call 31; ((with_reducible refine (impl_PolyCommon_no x y _ hv2).mono ?_); rintro e w' ⟨rfl, rfl⟩)))
    refine (alive_any _).mono ?_
    rintro e w2 ⟨rfl, hb2⟩
    have HB2 := Lib.hid hb2
    clear hb2
    go_wp2_with fail
    go_ret
    exact ⟨rfl, HB.out.trans (HB2.out.mono HB.out.size)⟩

end Go.Proofs.Ytdnjmnlieilpiad
