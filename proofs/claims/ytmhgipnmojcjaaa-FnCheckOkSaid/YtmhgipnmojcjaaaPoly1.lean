/- Contracts: bits, powers, degrees, sums and products of polynomials. -/
import Derived.Test.YtmhgipnmojcjaaaLeaf
import Derived.Test.YtmhgipnmojcjaaaPolyPlain
import Derived.Test.YtmhgipnmojcjaaaShelf

namespace Go.Proofs.Ytmhgipnmojcjaaa
open Go.RowKit
set_option linter.unusedVariables false

theorem power_any (n : Nat) (w : World) (h : n ≤ 40) :
    Calls Try.prog 46 #[.int .i64 n] w fun e w' => e = .returned (.int .i64 ((2 ^ n : Nat) : Int)) ∧ w = w' := by
  have hp : 2 ^ n ≤ 2 ^ 40 := Nat.pow_le_pow_right (by omega) h
  go_enter Try.func46, Try.ntmps46
  go_wp2
  go_ret
  exact ⟨ret_int (by rw [Bw.two_pow_cast, Bw.w64n (by omega)]), rfl⟩

theorem l1Bit_any (x k : Nat) (w : World) (hx : x < 4294967296) (hk : k ≤ 40) :
    Calls Try.prog 23 #[.int .i64 x, .int .i64 k] w fun e w' => e = .returned (.int .i64 (Bw.bt x k)) ∧ w = w' := by
  go_enter Try.func23, Try.ntmps23
  go_wp2
  go_ret
  exact ⟨ret_int (by rw [Bw.bt_bit]), rfl⟩

theorem degree_any (p : Nat) (w : World) (h : p < 4294967296) :
    Calls Try.prog 21 #[.int .i64 p] w fun e w' => e = .returned (.int .i64 (Bw.dg p)) ∧ w = w' := by
  have hb := Bw.bitLen_eq (x := p) (by omega)
  have hd := Bw.dg_bd h
  have HB := Lib.hid hb
  have h2 : (0 : Int) ≤ (Lib.bitLen p : Nat) ∧ ((Lib.bitLen p : Nat) : Int) ≤ 33 := by omega
  clear hb
  go_enter Try.func21, Try.ntmps21
  go_wp2_with (go_at_call 33; refine (Try.bits_Len _ _ (by omega) (by omega)).mono ?_; rintro e w' ⟨rfl, rfl⟩)
  go_ret
  exact ⟨ret_int (by have := HB.out; omega), rfl⟩

/-! PolyValid -/
theorem impl_PolyValid_yes (p : Int) (w : World) (h0 : 0 ≤ p) (h1 : p ≤ 65535) :
    Calls Try.prog 28 #[.int .i64 p] w fun e w' => e = .returned (.bool true) ∧ w = w' := by
  go_enter Try.func28, Try.ntmps28
  go_wp2_with (go_at_call 32; refine (within_yes _ _ _ _ (by omega) (by omega)).mono ?_; rintro e w' ⟨rfl, rfl⟩)
  go_ret
  exact ⟨rfl, rfl⟩

theorem impl_PolyValid_no (p : Int) (w : World) (h : p < 0 ∨ 65535 < p) :
    Calls Try.prog 28 #[.int .i64 p] w fun e w' => e = .returned (.bool false) ∧ w = w' := by
  go_enter Try.func28, Try.ntmps28
  go_wp2_with (go_at_call 32; refine (within_no _ _ _ _ (by omega)).mono ?_; rintro e w' ⟨rfl, rfl⟩)
  go_ret
  exact ⟨rfl, rfl⟩

theorem spec_PolyValid_yes (p : Int) (w : World) (h0 : 0 ≤ p) (h1 : p ≤ 65535) :
    Calls Try.prog 27 #[.int .i64 p] w fun e w' => e = .returned (.bool true) ∧ w = w' := by
  go_enter Try.func27, Try.ntmps27
  go_wp2_with (go_at_call 22; refine (l1In_yes _ _ _ _ (by omega) (by omega)).mono ?_; rintro e w' ⟨rfl, rfl⟩)
  go_ret
  exact ⟨rfl, rfl⟩

theorem spec_PolyValid_no (p : Int) (w : World) (h : p < 0 ∨ 65535 < p) :
    Calls Try.prog 27 #[.int .i64 p] w fun e w' => e = .returned (.bool false) ∧ w = w' := by
  go_enter Try.func27, Try.ntmps27
  go_wp2_with (go_at_call 22; refine (l1In_no _ _ _ _ (by omega)).mono ?_; rintro e w' ⟨rfl, rfl⟩)
  go_ret
  exact ⟨rfl, rfl⟩

theorem spec_PolyDegree_no (p : Int) (w : World) (h : p < 0 ∨ 65535 < p) :
    Calls Try.prog 9 #[.int .i64 p] w fun e w' => e = .returned (.int .i64 (-2)) ∧ w = w' := by
  go_enter Try.func9, Try.ntmps9
  go_wp2_with (go_at_call 27; refine (spec_PolyValid_no _ _ h).mono ?_; rintro e w' ⟨rfl, rfl⟩)
  go_ret
  exact ⟨rfl, rfl⟩

theorem spec_PolyDegree_yes (p : Nat) (w : World) (h : p ≤ 65535) :
    Calls Try.prog 9 #[.int .i64 p] w fun e w' => e = .returned (.int .i64 (Bw.dg p)) ∧ w = w' := by
  have hd0 := Bw.dg_bd (p := p) (by omega)
  go_enter Try.func9, Try.ntmps9
  go_wp2_with (go_at_call 27; refine (spec_PolyValid_yes _ _ (by omega) (by omega)).mono ?_; rintro e w' ⟨rfl, rfl⟩)
  go_loop [0, 3] (fun t i => ∃ q m : Nat, q ≤ 65535 ∧ Hid (Bw.dg p = Bw.dg q + m) ∧ (m : Int) ≤ Bw.dg p + 1 ∧ t = .int .i64 q ∧ i = .int .i64 ((m : Int) - 1)) (fun t _ => (intOf t).toNat)
  case atStart => exact ⟨p, 0, h, by simp [Hid], by omega, rfl, rfl⟩
  case round =>
    obtain ⟨q, m, hq, hm, hb, rfl, rfl⟩ := hrel
    by_cases h0 : q = 0
    · subst h0
      go_wp2
      go_ret
      exact ⟨ret_int (by have := hm.out; rw [Bw.dg_zero] at this; omega), rfl⟩
    · have hpos : 0 < q := by omega
      have hh := Bw.dg_half h0
      have hge := Bw.dg_ge (q / 2)
      have HH := Lib.hid hh
      clear hh h0
      go_wp2
      go_round
      case rel => exact ⟨q / 2, m + 1, by omega, by have := hm.out; have := HH.out; unfold Hid; omega, by have := hm.out; have := HH.out; omega, by go_num, by go_num⟩
      case measure => simp [intOf]; omega

/-! PolyAdd -/
theorem impl_PolyAdd_yes (a b : Nat) (w : World) (ha : a ≤ 65535) (hb : b ≤ 65535) :
    Calls Try.prog 10 #[.int .i64 a, .int .i64 b] w fun e w' => e = .returned (.int .i64 ((a ^^^ b : Nat) : Int)) ∧ w = w' := by
  go_enter Try.func10, Try.ntmps10
  go_wp2_with (go_at_call 28; refine (impl_PolyValid_yes _ _ (by omega) (by omega)).mono ?_; rintro e w' ⟨rfl, rfl⟩)
  go_ret
  exact ⟨ret_int (Bw.i64_xor a b (by omega) (by omega)), rfl⟩

theorem impl_PolyAdd_no (a b : Int) (w : World) (h : (a < 0 ∨ 65535 < a) ∨ (b < 0 ∨ 65535 < b)) :
    Calls Try.prog 10 #[.int .i64 a, .int .i64 b] w fun e w' => e = .returned (.int .i64 (-1)) ∧ w = w' := by
  by_cases ha : a < 0 ∨ 65535 < a
  · go_enter Try.func10, Try.ntmps10
    go_wp2_with (go_at_call 28; refine (impl_PolyValid_no _ _ ha).mono ?_; rintro e w' ⟨rfl, rfl⟩)
    go_ret
    exact ⟨rfl, rfl⟩
  · have h0 : 0 ≤ a ∧ a ≤ 65535 := by omega
    have hb : b < 0 ∨ 65535 < b := by omega
    clear h ha
    go_enter Try.func10, Try.ntmps10
    go_wp2_with (first
      | (go_at_call 28; refine (impl_PolyValid_no _ _ (by omega)).mono ?_; rintro e w' ⟨rfl, rfl⟩)
      | (go_at_call 28; refine (impl_PolyValid_yes _ _ (by omega) (by omega)).mono ?_; rintro e w' ⟨rfl, rfl⟩))
    go_ret
    exact ⟨rfl, rfl⟩

end Go.Proofs.Ytmhgipnmojcjaaa
