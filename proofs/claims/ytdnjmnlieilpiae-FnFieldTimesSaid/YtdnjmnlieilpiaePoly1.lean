/- Contracts: bits, powers, degrees, sums and products of polynomials. -/
import Derived.Test.YtdnjmnlieilpiaeLeaf
import Derived.Test.YtdnjmnlieilpiaePolyPlain
import Derived.Test.YtdnjmnlieilpiaeShelf

namespace Go.Proofs.Ytdnjmnlieilpiae
open Go.RowKit
set_option linter.unusedVariables false

theorem power_any (n : Nat) (w : World) (h : n ≤ 40) :
    Calls Try.prog 42 #[.int .i64 n] w fun e w' => e = .returned (.int .i64 ((2 ^ n : Nat) : Int)) ∧ w = w' := by
  have hp : 2 ^ n ≤ 2 ^ 40 := Nat.pow_le_pow_right (by omega) h
  go_enter Try.func42, Try.ntmps42
  go_wp2
  go_ret
  exact ⟨ret_int (by rw [Bw.two_pow_cast, Bw.w64n (by omega)]), rfl⟩

theorem bit_any (x k : Nat) (w : World) (hx : x < 4294967296) (hk : k ≤ 40) :
    Calls Try.prog 43 #[.int .i64 x, .int .i64 k] w fun e w' => e = .returned (.int .i64 (Bw.bt x k)) ∧ w = w' := by
  go_enter Try.func43, Try.ntmps43
  go_wp2
  go_ret
  exact ⟨ret_int (by rw [Bw.i64_and_one]; unfold Bw.bt; simp), rfl⟩

theorem l1Bit_any (x k : Nat) (w : World) (hx : x < 4294967296) (hk : k ≤ 40) :
    Calls Try.prog 44 #[.int .i64 x, .int .i64 k] w fun e w' => e = .returned (.int .i64 (Bw.bt x k)) ∧ w = w' := by
  go_enter Try.func44, Try.ntmps44
  go_wp2
  go_ret
  exact ⟨ret_int (by rw [Bw.bt_bit]), rfl⟩

theorem degree_any (p : Nat) (w : World) (h : p < 4294967296) :
    Calls Try.prog 21 #[.int .i64 p] w fun e w' => e = .returned (.int .i64 (Bw.dg p)) ∧ w = w' := by
  have hb := Bw.bitLen_eq (x := p) (by omega)
  have hd := Bw.dg_bd h
  have HB := Lib.hid hb
  have h2 : (0 : Int) ≤ (Lib.bitLen p : Nat) ∧ ((Lib.bitLen p : Nat) : Int) ≤ 33 := by omega
  clear hb
  go_enter Try.func21, Try.ntmps21
  go_wp2_with (go_at_call 36; refine (Try.bits_Len _ _ (by omega) (by omega)).mono ?_; rintro e w' ⟨rfl, rfl⟩)
  go_ret
  exact ⟨ret_int (by have := HB.out; omega), rfl⟩

/-! PolyValid -/
theorem impl_PolyValid_yes (p : Int) (w : World) (h0 : 0 ≤ p) (h1 : p ≤ 65535) :
    Calls Try.prog 28 #[.int .i64 p] w fun e w' => e = .returned (.bool true) ∧ w = w' := by
  go_enter Try.func28, Try.ntmps28
  go_wp2_with (go_at_call 35; refine (within_yes _ _ _ _ (by omega) (by omega)).mono ?_; rintro e w' ⟨rfl, rfl⟩)
  go_ret
  exact ⟨rfl, rfl⟩

theorem impl_PolyValid_no (p : Int) (w : World) (h : p < 0 ∨ 65535 < p) :
    Calls Try.prog 28 #[.int .i64 p] w fun e w' => e = .returned (.bool false) ∧ w = w' := by
  go_enter Try.func28, Try.ntmps28
  go_wp2_with (go_at_call 35; refine (within_no _ _ _ _ (by omega)).mono ?_; rintro e w' ⟨rfl, rfl⟩)
  go_ret
  exact ⟨rfl, rfl⟩

theorem spec_PolyValid_yes (p : Int) (w : World) (h0 : 0 ≤ p) (h1 : p ≤ 65535) :
    Calls Try.prog 27 #[.int .i64 p] w fun e w' => e = .returned (.bool true) ∧ w = w' := by
  go_enter Try.func27, Try.ntmps27
  go_wp2_with (go_at_call 23; refine (l1In_yes _ _ _ _ (by omega) (by omega)).mono ?_; rintro e w' ⟨rfl, rfl⟩)
  go_ret
  exact ⟨rfl, rfl⟩

theorem spec_PolyValid_no (p : Int) (w : World) (h : p < 0 ∨ 65535 < p) :
    Calls Try.prog 27 #[.int .i64 p] w fun e w' => e = .returned (.bool false) ∧ w = w' := by
  go_enter Try.func27, Try.ntmps27
  go_wp2_with (go_at_call 23; refine (l1In_no _ _ _ _ (by omega)).mono ?_; rintro e w' ⟨rfl, rfl⟩)
  go_ret
  exact ⟨rfl, rfl⟩

theorem spec_PolyDegree_no (p : Int) (w : World) (h : p < 0 ∨ 65535 < p) :
    Calls Try.prog 9 #[.int .i64 p] w fun e w' => e = .returned (.int .i64 (-2)) ∧ w = w' := by
  go_enter Try.func9, Try.ntmps9
  go_wp2_with (go_at_call 27; refine (spec_PolyValid_no _ _ h).mono ?_; rintro e w' ⟨rfl, rfl⟩)
  go_ret
  exact ⟨rfl, rfl⟩

theorem spec_PolyDegree_yes (p : Nat) (w : World) (h : p ≤ 65535) :
    Calls Try.prog 9 #[.int .i64 p] w fun e w' => e = .returned (.int .i64 (Bw.dg p)) ∧ w = w' := by
  have hd0 := Bw.dg_bd (p := p) (by omega)
  go_enter Try.func9, Try.ntmps9
  go_wp2_with (go_at_call 27; refine (spec_PolyValid_yes _ _ (by omega) (by omega)).mono ?_; rintro e w' ⟨rfl, rfl⟩)
  go_loop [0, 3] (fun t i => ∃ q m : Nat, q ≤ 65535 ∧ Hid (Bw.dg p = Bw.dg q + m) ∧ (m : Int) ≤ Bw.dg p + 1 ∧ t = .int .i64 q ∧ i = .int .i64 ((m : Int) - 1)) (fun t _ => (intOf t).toNat)
  case atStart => exact ⟨p, 0, h, by simp [Hid], by omega, rfl, rfl⟩
  case round =>
    obtain ⟨q, m, hq, hm, hb, rfl, rfl⟩ := hrel
    by_cases h0 : q = 0
    · subst h0
      go_wp2
      go_ret
      exact ⟨ret_int (by have := hm.out; rw [Bw.dg_zero] at this; omega), rfl⟩
    · have hpos : 0 < q := by omega
      have hh := Bw.dg_half h0
      have hge := Bw.dg_ge (q / 2)
      have HH := Lib.hid hh
      clear hh h0
      go_wp2
      go_round
      case rel => exact ⟨q / 2, m + 1, by omega, by have := hm.out; have := HH.out; unfold Hid; omega, by have := hm.out; have := HH.out; omega, by go_num, by go_num⟩
      case measure => simp [intOf]; omega

/-! PolyAdd -/
theorem impl_PolyAdd_yes (a b : Nat) (w : World) (ha : a ≤ 65535) (hb : b ≤ 65535) :
    Calls Try.prog 15 #[.int .i64 a, .int .i64 b] w fun e w' => e = .returned (.int .i64 ((a ^^^ b : Nat) : Int)) ∧ w = w' := by
  go_enter Try.func15, Try.ntmps15
  go_wp2_with (go_at_call 28; refine (impl_PolyValid_yes _ _ (by omega) (by omega)).mono ?_; rintro e w' ⟨rfl, rfl⟩)
  go_ret
  exact ⟨ret_int (Bw.i64_xor a b (by omega) (by omega)), rfl⟩

theorem impl_PolyAdd_no (a b : Int) (w : World) (h : (a < 0 ∨ 65535 < a) ∨ (b < 0 ∨ 65535 < b)) :
    Calls Try.prog 15 #[.int .i64 a, .int .i64 b] w fun e w' => e = .returned (.int .i64 (-1)) ∧ w = w' := by
  by_cases ha : a < 0 ∨ 65535 < a
  · go_enter Try.func15, Try.ntmps15
    go_wp2_with (go_at_call 28; refine (impl_PolyValid_no _ _ ha).mono ?_; rintro e w' ⟨rfl, rfl⟩)
    go_ret
    exact ⟨rfl, rfl⟩
  · have h0 : 0 ≤ a ∧ a ≤ 65535 := by omega
    have hb : b < 0 ∨ 65535 < b := by omega
    clear h ha
    go_enter Try.func15, Try.ntmps15
    go_wp2_with (first
      | (go_at_call 28; refine (impl_PolyValid_no _ _ (by omega)).mono ?_; rintro e w' ⟨rfl, rfl⟩)
      | (go_at_call 28; refine (impl_PolyValid_yes _ _ (by omega) (by omega)).mono ?_; rintro e w' ⟨rfl, rfl⟩))
    go_ret
    exact ⟨rfl, rfl⟩

/-! the product -/
set_option maxHeartbeats 400000 in
theorem times_any (a b : Nat) (w : World) (ha : a < 65536) (hb : b < 65536) :
    Calls Try.prog 31 #[.int .i64 a, .int .i64 b] w fun e w' => e = .returned (.int .i64 ((Bw.mul a b : Nat) : Int)) ∧ w = w' := by
  go_enter Try.func31, Try.ntmps31
  go_wp2
  go_loop [5, 6] (fun t i => ∃ k : Nat, k ≤ 16 ∧ i = .int .i64 k ∧ t = .int .i64 (Bw.mulTo a b k)) (fun _ i => 16 - (intOf i).toNat)
  case atStart => exact ⟨0, by omega, rfl, by rw [Bw.mulTo_zero]⟩
  case round =>
    obtain ⟨k, hk, rfl, rfl⟩ := hrel
    by_cases hlt : b / 2 ^ k = 0
    · have ht : decide ((0 : Int) < (b : Int) / 2 ^ k) = false := by rw [Bw.shr_cast, hlt]; rfl
      have HL := Lib.hid hlt
      clear hlt
      go_wp2
      go_ret
      exact ⟨ret_int (Bw.mulTo_end HL.out), rfl⟩
    · have ht : decide ((0 : Int) < (b : Int) / 2 ^ k) = true := by rw [Bw.shr_cast, decide_eq_true_eq]; exact Int.natCast_pos.2 (Nat.pos_of_ne_zero hlt)
      have hk16 := Bw.lt_of_shr (n := 16) hlt (by omega)
      clear hlt
      go_wp2_with (go_at_call 43; refine (bit_any b k _ (by omega) (by omega)).mono ?_; rintro e w' ⟨rfl, rfl⟩)
      go_round
      case rel => exact ⟨k + 1, by omega, by go_num, by rw [← Bw.mulTo_step a b k ha hk16]⟩
      case measure => simp [intOf]; omega

set_option maxHeartbeats 400000 in
theorem l7Times_any (a b m n : Nat) (w : World) (ha : a < 2 ^ m) (hb : b < 2 ^ n) (hmn : m + n ≤ 30) :
    Calls Try.prog 33 #[.int .i64 a, .int .i64 b] w fun e w' => e = .returned (.int .i64 ((Bw.mul a b : Nat) : Int)) ∧ w = w' := by
  have hb30 : b < 1073741824 := Nat.lt_of_lt_of_le hb (Bw.pow30 (by omega))
  have ha30 : a < 1073741824 := Nat.lt_of_lt_of_le ha (Bw.pow30 (by omega))
  go_enter Try.func33, Try.ntmps33
  go_wp2
  go_loop [5, 6] (fun t i => ∃ k : Nat, k ≤ n ∧ i = .int .i64 k ∧ t = .int .i64 ((Bw.mul a (b % 2 ^ k) : Nat) : Int)) (fun _ i => n - (intOf i).toNat)
  case atStart => exact ⟨0, by omega, rfl, by simp [Nat.mod_one, Bw.mul_zero]⟩
  case round =>
    obtain ⟨k, hk, rfl, rfl⟩ := hrel
    by_cases hlt : b / 2 ^ k = 0
    · have ht : decide ((0 : Int) < (b : Int) / 2 ^ k) = false := by rw [Bw.shr_cast, hlt]; rfl
      have HL := Lib.hid hlt
      clear hlt
      go_wp2
      go_ret
      exact ⟨ret_int (Bw.mulTo_end HL.out), rfl⟩
    · have ht : decide ((0 : Int) < (b : Int) / 2 ^ k) = true := by rw [Bw.shr_cast, decide_eq_true_eq]; exact Int.natCast_pos.2 (Nat.pos_of_ne_zero hlt)
      have hkn := Bw.lt_of_shr (n := n) hlt hb
      have hp := Bw.mul_lt a (b % 2 ^ k) ha (Nat.lt_of_le_of_lt (Nat.mod_le _ _) hb)
      have hp30 : Bw.mul a (b % 2 ^ k) < 1073741824 := Nat.lt_of_lt_of_le hp (Bw.pow30 (by omega))
      have hs := Bw.mulTo_nat a b k
      have HS := Lib.hid hs
      clear hs hp hlt
      have hak : a * 2 ^ k < 1073741824 := by
        have h1 : a * 2 ^ k < 2 ^ m * 2 ^ k := Nat.mul_lt_mul_of_pos_right ha (Nat.two_pow_pos k)
        rw [← Nat.pow_add] at h1
        exact Nat.lt_of_lt_of_le h1 (Bw.pow30 (by omega))
      rcases Bw.bt_cases b k with h1 | h1
      · have h2 : (Bw.bt b k == 1) = false := by rw [h1]; rfl
        have H1 := Lib.hid h1
        clear h1
        go_wp2_with (go_at_call 44; refine (l1Bit_any b k _ (by omega) (by omega)).mono ?_; rintro e w' ⟨rfl, rfl⟩)
        go_round
        case rel => exact ⟨k + 1, by omega, by go_num, by rw [HS.out, (Bw.bt_zero b k).1 H1.out]; simp⟩
        case measure => simp [intOf]; omega
      · have h2 : (Bw.bt b k == 1) = true := by rw [h1]; rfl
        have H1 := Lib.hid h1
        clear h1
        go_wp2_with (first
          | (go_at_call 44; refine (l1Bit_any b k _ (by omega) (by omega)).mono ?_; rintro e w' ⟨rfl, rfl⟩)
          | (go_at_call 37; rw [show wrap64 ((a : Int) * 2 ^ k) = ((a * 2 ^ k : Nat) : Int) from by rw [Bw.two_pow_cast, ← Int.natCast_mul, Bw.w64n (by omega)]]; refine (l1Xor_any (Bw.mul a (b % 2 ^ k)) (a * 2 ^ k) _ hp30 hak).mono ?_; rintro e w' ⟨rfl, rfl⟩))
        go_round
        case rel => exact ⟨k + 1, by omega, by go_num, by rw [HS.out, (Bw.bt_one b k).1 H1.out, Nat.one_mul]⟩
        case measure => simp [intOf]; omega

end Go.Proofs.Ytdnjmnlieilpiae
