/- The walks of the laws on primes and fields. -/
import Derived.Test.YtdnjmnlieilpiaeDraws
import Derived.Test.YtdnjmnlieilpiaeWord2
import Derived.Test.YtdnjmnlieilpiaeLawsB

namespace Go.Proofs.Ytdnjmnlieilpiae
open Go.RowKit
set_option linter.unusedVariables false

set_option maxRecDepth 100000 in
set_option maxHeartbeats 1000000 in
theorem law_FnPolyPrime (w : World) (a : Option Addr) (n cap : Nat) (zs : List Int) (h : Bw.IsRow .u8 w a n cap zs) :
    Calls Try.prog 3 #[.slice a n cap] w fun e w' => e = .returned (.bool true) ∧ Below w.heap.size w w' := by
  have hc := code_of_row h
  have hlen := h.len.2
  have HC := Lib.hid hc
  clear h hc
  by_cases hbig : 1048576 < n
  · go_enter Try.func3, Try.ntmps3
    go_wp2_with fail
    go_ret
    exact ⟨rfl, Below.refl _ _⟩
  have hs : n ≤ 1048576 := by omega
  clear hbig
  go_enter Try.func3, Try.ntmps3
  go_wp2_with fail
  refine (DrawPolyPrime_any a n cap _ HC.out).mono ?_
  rintro e w1 ⟨p, rfl, _, hb⟩
  have HB := Lib.hid hb
  clear hb
  by_cases hv : 0 ≤ p ∧ p ≤ 511 ∧ Bw.Prime p.toNat
  · obtain ⟨p, rfl⟩ := Int.eq_ofNat_of_zero_le hv.1
    have hp : Bw.Prime p := by simpa using hv.2.2
    have h0 : 2 ≤ p := hp.1
    have h1 : p ≤ 511 := by omega
    clear hv
    have p0 : p ≠ 0 := by omega
    have hpw := Bw.modulus_pow h0 h1
    have hlg := Bw.modulus_log h0 h1
    obtain ⟨he, _, _⟩ := Bw.modulus_dg h0 h1
    have HP := Lib.hid hp
    have HG := Lib.hid (fun (c : Nat) (w : World) (hc0 : c ≠ 0) (hc : c < 2 ^ p.log2) => (Bw.prime_gcd hp hc0 (Bw.lt_log2 hc0 hc)) ▸ impl_PolyCommon_yes p c w (by omega) (by omega))
    have HT := Lib.hid (fun (k : Nat) (w : World) => (Bw.pw_two p0 2 k) ▸ impl_FieldTimes_yes (Bw.pw p 2 (2 ^ k)) (Bw.pw p 2 (2 ^ k)) p w h1 hp (Bw.pw_lt p0 2 _) (Bw.pw_lt p0 2 _))
    have HF : Hid (Bw.pw p 2 (2 ^ p.log2) = Bw.pmod 2 p) := Bw.prime_frob hp hlg.2 2
    have HS0 : Hid (Bw.pmod 2 p = Bw.pw p 2 (2 ^ 0)) := (Bw.pw_one p0 2).symm
    have HD2 : Hid (∀ w : World, Calls Try.prog 10 #[.int .i64 2, .int .i64 p] w fun e w' => e = .returned (.tuple #[.int .i64 ((Bw.pdiv 2 p : Nat) : Int), .int .i64 ((Bw.pmod 2 p : Nat) : Int), .bool true]) ∧ w = w') := fun w => impl_PolyDivide_yes 2 p w (by omega) (by omega) p0
    have HSM : Hid (p.log2 ≠ 1 → Bw.pmod 2 p = 2) := fun h => Bw.pmod_small p0 (by have := Nat.pow_le_pow_right (n := 2) (by omega) (show 2 ≤ p.log2 by omega); omega)
    obtain ⟨q, hq⟩ : ∃ q, 2 ^ p.log2 = q := ⟨_, rfl⟩
    obtain ⟨D, hD⟩ : ∃ D, p.log2 = D := ⟨_, rfl⟩
    rw [hq] at hpw HG
    rw [hD] at he hlg hq HF HSM
    have HD := Lib.hid (fun (w : World) => he ▸ spec_PolyDegree_yes p w (by omega))
    have hw : wrap64 (2 ^ D) = (q : Int) := by rw [Bw.two_pow_cast, hq, Bw.w64n (by omega)]
    obtain ⟨S, hS⟩ : ∃ S, Bw.pmod 2 p = S := ⟨_, rfl⟩
    rw [hS] at HF HS0 HD2 HSM
    clear he hq hD hp hS
    by_cases hD1 : D = 1
    · have hb1 : ((D : Int) == 1) = true := by rw [hD1]; rfl
      clear hD1 HSM
      go_wp2_with (first | (go_at_call 7; ((with_reducible refine (spec_PolyPrime_yes p _ h1 HP).mono ?_); rintro e w' ⟨rfl, rfl⟩)) | (go_at_call 6; ((with_reducible refine (impl_PolyPrime_yes p _ h1 HP).mono ?_); rintro e w' ⟨rfl, rfl⟩)) | (go_at_call 9; ((with_reducible refine (HD.out _).mono ?_); rintro e w' ⟨rfl, rfl⟩)) | (go_at_call 10; ((with_reducible refine (HD2.out _).mono ?_); rintro e w' ⟨rfl, rfl⟩)))
      go_loop [6, 8] (fun t i => ∃ k : Nat, k ≤ D ∧ i = .int .i64 k ∧ t = .int .i64 ((Bw.pw p 2 (2 ^ k) : Nat) : Int)) (fun _ i => D - (intOf i).toNat)
      case atStart => exact ⟨0, by omega, rfl, by rw [← HS0.out]⟩
      case round =>
        obtain ⟨k, hk, rfl, rfl⟩ := hrel
        by_cases hl : k < D
        · go_wp2_with (go_at_call 11; ((with_reducible refine (HT.out k _).mono ?_); rintro e w' ⟨rfl, rfl⟩))
          go_round
          case rel => exact ⟨k + 1, by omega, by go_num, rfl⟩
          case measure => simp [intOf]; omega
        · obtain rfl : k = D := by omega
          rw [HF.out]
          go_wp2_with fail
          go_loop [9] (fun i => ∃ c : Nat, 1 ≤ c ∧ c ≤ q ∧ i = .int .i64 c) (fun i => q - (intOf i).toNat)
          case atStart => exact ⟨1, by omega, by omega, rfl⟩
          case round =>
            obtain ⟨c, hc1, hc2, rfl⟩ := hrel
            by_cases hlc : c < q
            · have hdec : decide ((c : Int) < (q : Int)) = true := by rw [decide_eq_true_eq]; exact Int.ofNat_lt.2 hlc
              go_wp2_with (go_at_call 12; ((with_reducible refine (HG.out c _ (by omega) hlc).mono ?_); rintro e w' ⟨rfl, rfl⟩))
              go_round
              case rel => exact ⟨c + 1, by omega, by omega, by go_num⟩
              case measure => simp [intOf]; omega
            · obtain rfl : c = q := by omega
              go_wp2_with fail
              go_ret
              exact ⟨ret_bool (by simp), HB.out⟩
    · have hb1 : ((D : Int) == 1) = false := by rw [beq_eq_false_iff_ne]; omega
      obtain rfl : S = 2 := HSM.out hD1
      clear hD1 HSM HD2
      go_wp2_with (first | (go_at_call 7; ((with_reducible refine (spec_PolyPrime_yes p _ h1 HP).mono ?_); rintro e w' ⟨rfl, rfl⟩)) | (go_at_call 6; ((with_reducible refine (impl_PolyPrime_yes p _ h1 HP).mono ?_); rintro e w' ⟨rfl, rfl⟩)) | (go_at_call 9; ((with_reducible refine (HD.out _).mono ?_); rintro e w' ⟨rfl, rfl⟩)))
      go_loop [6, 8] (fun t i => ∃ k : Nat, k ≤ D ∧ i = .int .i64 k ∧ t = .int .i64 ((Bw.pw p 2 (2 ^ k) : Nat) : Int)) (fun _ i => D - (intOf i).toNat)
      case atStart => exact ⟨0, by omega, rfl, by rw [← HS0.out]; rfl⟩
      case round =>
        obtain ⟨k, hk, rfl, rfl⟩ := hrel
        by_cases hl : k < D
        · go_wp2_with (go_at_call 11; ((with_reducible refine (HT.out k _).mono ?_); rintro e w' ⟨rfl, rfl⟩))
          go_round
          case rel => exact ⟨k + 1, by omega, by go_num, rfl⟩
          case measure => simp [intOf]; omega
        · obtain rfl : k = D := by omega
          rw [HF.out]
          go_wp2_with fail
          go_loop [9] (fun i => ∃ c : Nat, 1 ≤ c ∧ c ≤ q ∧ i = .int .i64 c) (fun i => q - (intOf i).toNat)
          case atStart => exact ⟨1, by omega, by omega, rfl⟩
          case round =>
            obtain ⟨c, hc1, hc2, rfl⟩ := hrel
            by_cases hlc : c < q
            · have hdec : decide ((c : Int) < (q : Int)) = true := by rw [decide_eq_true_eq]; exact Int.ofNat_lt.2 hlc
              go_wp2_with (go_at_call 12; ((with_reducible refine (HG.out c _ (by omega) hlc).mono ?_); rintro e w' ⟨rfl, rfl⟩))
              go_round
              case rel => exact ⟨c + 1, by omega, by omega, by go_num⟩
              case measure => simp [intOf]; omega
            · obtain rfl : c = q := by omega
              go_wp2_with fail
              go_ret
              exact ⟨ret_bool (by simp), HB.out⟩
  · have HP := Lib.hid hv
    clear hv
    go_wp2_with (first | (go_at_call 7; ((with_reducible refine (spec_PolyPrime_no p _ HP).mono ?_); rintro e w' ⟨rfl, rfl⟩)) | (go_at_call 6; ((with_reducible refine (impl_PolyPrime_no p _ HP).mono ?_); rintro e w' ⟨rfl, rfl⟩)))
    refine (alive_any _).mono ?_
    rintro e w2 ⟨rfl, hb2⟩
    have HB2 := Lib.hid hb2
    clear hb2
    go_wp2_with fail
    go_ret
    exact ⟨rfl, HB.out.trans (HB2.out.mono HB.out.size)⟩

set_option maxRecDepth 100000 in
set_option maxHeartbeats 1000000 in
theorem law_FnFieldTimes (w : World) (a : Option Addr) (n cap : Nat) (zs : List Int) (h : Bw.IsRow .u8 w a n cap zs) (a2 : Option Addr) (n2 cap2 : Nat) (zs2 : List Int) (h2 : Bw.IsRow .u8 w a2 n2 cap2 zs2) :
    Calls Try.prog 4 #[.slice a n cap, .slice a2 n2 cap2] w fun e w' => e = .returned (.bool true) ∧ Below w.heap.size w w' := by
  have hc := code_of_row h
  have hlen := h.len.2
  have hlen2 := h2.len.2
  have HC := Lib.hid hc
  clear h hc h2
  by_cases hbig : 1048576 < n
  · go_enter Try.func4, Try.ntmps4
    go_wp2_with fail
    go_ret
    exact ⟨rfl, Below.refl _ _⟩
  have hs : n ≤ 1048576 := by omega
  clear hbig
  by_cases hbig : 1048576 < n2
  · go_enter Try.func4, Try.ntmps4
    go_wp2_with fail
    go_ret
    exact ⟨rfl, Below.refl _ _⟩
  have hs2 : n2 ≤ 1048576 := by omega
  clear hbig
  go_enter Try.func4, Try.ntmps4
  go_wp2_with fail
  refine (DrawFieldTimes_any a n cap _ HC.out).mono ?_
  rintro e w1 ⟨x, y, p, rfl, _, hb⟩
  have HB := Lib.hid hb
  clear hb
  by_cases h : FieldOk x y p
  · obtain ⟨x, y, p, rfl, rfl, rfl, h1, hp, hx, hy⟩ := fieldOk_nat h
    have h2 : 2 ≤ p := hp.1
    have p0 : p ≠ 0 := by omega
    have hpw := Bw.modulus_pow h2 h1
    have hlg := Bw.modulus_log h2 h1
    obtain ⟨he, _, _⟩ := Bw.modulus_dg h2 h1
    obtain ⟨c, hcq, hc⟩ : ∃ c : Nat, (n2 : Int) * 11 % ((2 ^ p.log2 : Nat) : Int) = (c : Int) ∧ c < 2 ^ p.log2 := ⟨n2 * 11 % 2 ^ p.log2, by simp, Nat.mod_lt _ (Nat.two_pow_pos _)⟩
    have HS := Lib.hid (fun w : World => spec_FieldTimes_yes x y p w h1 hp hx hy)
    have HI := Lib.hid (fun w : World => impl_FieldTimes_yes x y p w h1 hp hx hy)
    have l1 := Bw.fm_lt p0 x y
    have l2 := Bw.fm_lt p0 y c
    have l3 := Bw.fm_lt p0 x c
    have l4 := Nat.xor_lt_two_pow hy hc
    have K1 := Lib.hid (fun w : World => impl_FieldTimes_yes (Bw.fm p x y) c p w h1 hp l1 hc)
    have K2 := Lib.hid (fun w : World => impl_FieldTimes_yes y c p w h1 hp hy hc)
    have K3 : Hid (∀ w : World, Calls Try.prog 11 #[.int .i64 x, .int .i64 ((Bw.fm p y c : Nat) : Int), .int .i64 p] w fun e w' => e = .returned (.int .i64 ((Bw.fm p (Bw.fm p x y) c : Nat) : Int)) ∧ w = w') := fun w => by
      have t := impl_FieldTimes_yes x (Bw.fm p y c) p w h1 hp hx l2
      rw [← Bw.fm_assoc p0] at t
      exact t
    have A1 := Lib.hid (fun w : World => impl_PolyAdd_yes y c w (by omega) (by omega))
    have K4 := Lib.hid (fun w : World => impl_FieldTimes_yes x (y ^^^ c) p w h1 hp hx l4)
    have K5 := Lib.hid (fun w : World => impl_FieldTimes_yes x c p w h1 hp hx hc)
    have A2 : Hid (∀ w : World, Calls Try.prog 15 #[.int .i64 ((Bw.fm p x y : Nat) : Int), .int .i64 ((Bw.fm p x c : Nat) : Int)] w fun e w' => e = .returned (.int .i64 ((Bw.fm p x (y ^^^ c) : Nat) : Int)) ∧ w = w') := fun w => by
      have t := impl_PolyAdd_yes (Bw.fm p x y) (Bw.fm p x c) w (by omega) (by omega)
      rw [← Bw.fm_xor p0] at t
      exact t
    have hz := Bw.fm_eq_zero hp hx hy
    obtain ⟨X, hX⟩ : ∃ X, Bw.fm p x y = X := ⟨_, rfl⟩
    obtain ⟨U, hU⟩ : ∃ U, Bw.fm p y c = U := ⟨_, rfl⟩
    obtain ⟨V, hV⟩ : ∃ V, y ^^^ c = V := ⟨_, rfl⟩
    rw [hX] at HS HI K1 K3 A2 hz l1
    rw [hU] at K2 K3
    rw [hV] at A1 K4 A2
    have hxz : ((x : Int) == 0) = decide (x = 0) := by by_cases e : x = 0 <;> simp [e]
    have hyz : ((y : Int) == 0) = decide (y = 0) := by by_cases e : y = 0 <;> simp [e]
    obtain ⟨q, hq⟩ : ∃ q, 2 ^ p.log2 = q := ⟨_, rfl⟩
    obtain ⟨D, hD⟩ : ∃ D, p.log2 = D := ⟨_, rfl⟩
    rw [hq] at hpw hcq l1
    rw [hD] at he hlg hq
    have HD := Lib.hid (fun (w : World) => he ▸ spec_PolyDegree_yes p w (by omega))
    have hw : wrap64 (2 ^ D) = (q : Int) := by rw [Bw.two_pow_cast, hq, Bw.w64n (by omega)]
    have hdec : decide (X < q) = true := decide_eq_true l1
    clear h hp hx hy hc l2 l3 l4 hX hU hV he hq hD l1
    by_cases e1 : x = 0
    · have e2 : X = 0 := hz.2 (.inl e1)
      have t1 : ((x : Int) == 0) = true := by rw [e1]; rfl
      have t2 : ((X : Int) == 0) = true := by rw [e2]; rfl
      clear hz hxz hyz e1 e2
      go_wp2_with (first | (go_at_call 14; ((with_reducible refine (HS.out _).mono ?_); rintro e w' ⟨rfl, rfl⟩)) | (go_at_call 11; ((with_reducible refine (HI.out _).mono ?_); rintro e w' ⟨rfl, rfl⟩)) | (go_at_call 9; ((with_reducible refine (HD.out _).mono ?_); rintro e w' ⟨rfl, rfl⟩)) | (go_at_call 11; ((with_reducible refine (K1.out _).mono ?_); rintro e w' ⟨rfl, rfl⟩)) | (go_at_call 11; ((with_reducible refine (K2.out _).mono ?_); rintro e w' ⟨rfl, rfl⟩)) | (go_at_call 11; ((with_reducible refine (K3.out _).mono ?_); rintro e w' ⟨rfl, rfl⟩)) | (go_at_call 15; ((with_reducible refine (A1.out _).mono ?_); rintro e w' ⟨rfl, rfl⟩)) | (go_at_call 11; ((with_reducible refine (K4.out _).mono ?_); rintro e w' ⟨rfl, rfl⟩)) | (go_at_call 11; ((with_reducible refine (K5.out _).mono ?_); rintro e w' ⟨rfl, rfl⟩)) | (go_at_call 15; ((with_reducible refine (A2.out _).mono ?_); rintro e w' ⟨rfl, rfl⟩)))
      go_ret
      exact ⟨ret_bool (by simp), HB.out⟩
    · have t1 : ((x : Int) == 0) = false := by rw [hxz]; simp [e1]
      by_cases e3 : y = 0
      · have e2 : X = 0 := hz.2 (.inr e3)
        have t3 : ((y : Int) == 0) = true := by rw [e3]; rfl
        have t2 : ((X : Int) == 0) = true := by rw [e2]; rfl
        clear hz hxz hyz e1 e2 e3
        go_wp2_with (first | (go_at_call 14; ((with_reducible refine (HS.out _).mono ?_); rintro e w' ⟨rfl, rfl⟩)) | (go_at_call 11; ((with_reducible refine (HI.out _).mono ?_); rintro e w' ⟨rfl, rfl⟩)) | (go_at_call 9; ((with_reducible refine (HD.out _).mono ?_); rintro e w' ⟨rfl, rfl⟩)) | (go_at_call 11; ((with_reducible refine (K1.out _).mono ?_); rintro e w' ⟨rfl, rfl⟩)) | (go_at_call 11; ((with_reducible refine (K2.out _).mono ?_); rintro e w' ⟨rfl, rfl⟩)) | (go_at_call 11; ((with_reducible refine (K3.out _).mono ?_); rintro e w' ⟨rfl, rfl⟩)) | (go_at_call 15; ((with_reducible refine (A1.out _).mono ?_); rintro e w' ⟨rfl, rfl⟩)) | (go_at_call 11; ((with_reducible refine (K4.out _).mono ?_); rintro e w' ⟨rfl, rfl⟩)) | (go_at_call 11; ((with_reducible refine (K5.out _).mono ?_); rintro e w' ⟨rfl, rfl⟩)) | (go_at_call 15; ((with_reducible refine (A2.out _).mono ?_); rintro e w' ⟨rfl, rfl⟩)))
        go_ret
        exact ⟨ret_bool (by simp), HB.out⟩
      · have e2 : X ≠ 0 := fun e => by rcases hz.1 e with h | h; exact e1 h; exact e3 h
        have t3 : ((y : Int) == 0) = false := by rw [hyz]; simp [e3]
        have t2 : ((X : Int) == 0) = false := by rw [beq_eq_false_iff_ne]; omega
        clear hz hxz hyz e1 e2 e3
        go_wp2_with (first | (go_at_call 14; ((with_reducible refine (HS.out _).mono ?_); rintro e w' ⟨rfl, rfl⟩)) | (go_at_call 11; ((with_reducible refine (HI.out _).mono ?_); rintro e w' ⟨rfl, rfl⟩)) | (go_at_call 9; ((with_reducible refine (HD.out _).mono ?_); rintro e w' ⟨rfl, rfl⟩)) | (go_at_call 11; ((with_reducible refine (K1.out _).mono ?_); rintro e w' ⟨rfl, rfl⟩)) | (go_at_call 11; ((with_reducible refine (K2.out _).mono ?_); rintro e w' ⟨rfl, rfl⟩)) | (go_at_call 11; ((with_reducible refine (K3.out _).mono ?_); rintro e w' ⟨rfl, rfl⟩)) | (go_at_call 15; ((with_reducible refine (A1.out _).mono ?_); rintro e w' ⟨rfl, rfl⟩)) | (go_at_call 11; ((with_reducible refine (K4.out _).mono ?_); rintro e w' ⟨rfl, rfl⟩)) | (go_at_call 11; ((with_reducible refine (K5.out _).mono ?_); rintro e w' ⟨rfl, rfl⟩)) | (go_at_call 15; ((with_reducible refine (A2.out _).mono ?_); rintro e w' ⟨rfl, rfl⟩)))
        go_ret
        exact ⟨ret_bool (by simp), HB.out⟩
  · have H := Lib.hid h
    clear h
    go_wp2_with (first | (go_at_call 14; ((with_reducible refine (spec_FieldTimes_no x y p _ H).mono ?_); rintro e w' ⟨rfl, rfl⟩)) | (go_at_call 11; ((with_reducible refine (impl_FieldTimes_no x y p _ H).mono ?_); rintro e w' ⟨rfl, rfl⟩)))
    refine (alive_any _).mono ?_
    rintro e w2 ⟨rfl, hb2⟩
    have HB2 := Lib.hid hb2
    clear hb2
    go_wp2_with fail
    go_ret
    exact ⟨rfl, HB.out.trans (HB2.out.mono HB.out.size)⟩

end Go.Proofs.Ytdnjmnlieilpiae
