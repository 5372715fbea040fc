/- Contracts: valid words, their bits and remainders, as the reference has them. -/
import Derived.Test.YtbknmokoegembacDoorWord
import Derived.Test.YtbknmokoegembacDoorMPlain

namespace Go.Proofs.YtbknmokoegembacDoor
open Go.RowKit
set_option linter.unusedVariables false

theorem mbit_any (x k : Nat) (w : World) (hx : x < 4294967296) (hk : k ≤ 40) :
    Calls Tryd.prog 49 #[.int .i64 x, .int .i64 k] w fun e w' => e = .returned (.int .i64 (Bw.bt x k)) ∧ w = w' := by
  go_enter Tryd.func49, Tryd.ntmps49
  go_wp2
  go_ret
  exact ⟨ret_int (by rw [Bw.i64_and_one]; unfold Bw.bt; simp), rfl⟩

theorem ml1Bit_any (x k : Nat) (w : World) (hx : x < 4294967296) (hk : k ≤ 40) :
    Calls Tryd.prog 53 #[.int .i64 x, .int .i64 k] w fun e w' => e = .returned (.int .i64 (Bw.bt x k)) ∧ w = w' := by
  go_enter Tryd.func53, Tryd.ntmps53
  go_wp2
  go_ret
  exact ⟨ret_int (by rw [Bw.bt_bit]), rfl⟩

theorem wbd {n : Nat} (h : n ≤ 12) : 1 ≤ 2 ^ n ∧ 2 ^ n ≤ 4096 := by
  have : 2 ^ n ≤ 2 ^ 12 := Nat.pow_le_pow_right (by omega) h
  have := Nat.two_pow_pos n
  omega

theorem wrap_pow {n Q : Nat} (hn : n ≤ 12) (hQ : 2 ^ n = Q) : wrap64 (2 ^ n) = (Q : Int) := by
  have := wbd hn
  rw [Bw.two_pow_cast, hQ, Bw.w64n (by omega)]

theorem spec_WordValid_yes (n x : Int) (w : World) (h : Hid (WordOk n x)) :
    Calls Tryd.prog 52 #[.int .i64 n, .int .i64 x] w fun e w' => e = .returned (.bool true) ∧ w = w' := by
  obtain ⟨⟨n0, n1⟩, x0, x1⟩ := h.out
  clear h
  obtain ⟨n, rfl⟩ := Int.eq_ofNat_of_zero_le (show 0 ≤ n by omega)
  rw [Int.toNat_natCast] at x1
  have hb := wbd (show n ≤ 12 by omega)
  obtain ⟨q, hq⟩ : ∃ q, 2 ^ n = q := ⟨_, rfl⟩
  have hw := wrap_pow (show n ≤ 12 by omega) hq
  rw [hq] at x1 hb
  clear hq
  go_enter Tryd.func52, Tryd.ntmps52
  go_wp2_with (go_at_call 60; ((with_reducible refine (l1In_yes _ _ _ _ (by omega) (by omega)).mono ?_); rintro e w' ⟨rfl, rfl⟩))
  go_ret
  exact ⟨rfl, rfl⟩

theorem spec_WordValid_no (n x : Int) (w : World) (h : Hid (¬ WordOk n x)) :
    Calls Tryd.prog 52 #[.int .i64 n, .int .i64 x] w fun e w' => e = .returned (.bool false) ∧ w = w' := by
  by_cases hn : 1 ≤ n ∧ n ≤ 12
  · obtain ⟨n0, n1⟩ := hn
    obtain ⟨n, rfl⟩ := Int.eq_ofNat_of_zero_le (show 0 ≤ n by omega)
    have hx : x < 0 ∨ ((2 ^ n : Nat) : Int) ≤ x := by
      by_cases hx : 0 ≤ x ∧ x < ((2 ^ n : Nat) : Int)
      · exact absurd ⟨⟨n0, n1⟩, by rw [Int.toNat_natCast]; exact hx⟩ h.out
      · omega
    have hb := wbd (show n ≤ 12 by omega)
    obtain ⟨q, hq⟩ : ∃ q, 2 ^ n = q := ⟨_, rfl⟩
    have hw := wrap_pow (show n ≤ 12 by omega) hq
    rw [hq] at hx hb
    clear hq h
    go_enter Tryd.func52, Tryd.ntmps52
    go_wp2_with (first | (go_at_call 60; ((with_reducible refine (l1In_yes ↑n 1 12 _ (by omega) (by omega)).mono ?_); rintro e w' ⟨rfl, rfl⟩)) | (go_at_call 60; ((with_reducible refine (l1In_no _ _ _ _ (by omega)).mono ?_); rintro e w' ⟨rfl, rfl⟩)))
    go_ret
    exact ⟨rfl, rfl⟩
  · have hn2 : n < 1 ∨ 12 < n := by omega
    clear h hn
    go_enter Tryd.func52, Tryd.ntmps52
    go_wp2_with (go_at_call 60; ((with_reducible refine (l1In_no _ _ _ _ hn2).mono ?_); rintro e w' ⟨rfl, rfl⟩))
    go_ret
    exact ⟨rfl, rfl⟩

theorem l1Both_yes (n a b : Int) (w : World) (ha : Hid (WordOk n a)) (hb : Hid (WordOk n b)) :
    Calls Tryd.prog 34 #[.int .i64 n, .int .i64 a, .int .i64 b] w fun e w' => e = .returned (.bool true) ∧ w = w' := by
  go_enter Tryd.func34, Tryd.ntmps34
  go_wp2_with (first | (go_at_call 52; ((with_reducible refine (spec_WordValid_yes n a _ ha).mono ?_); rintro e w' ⟨rfl, rfl⟩)) | (go_at_call 52; ((with_reducible refine (spec_WordValid_yes n b _ hb).mono ?_); rintro e w' ⟨rfl, rfl⟩)))
  go_ret
  exact ⟨rfl, rfl⟩

theorem l1Both_no (n a b : Int) (w : World) (h : Hid (¬ WordOk n a ∨ (WordOk n a ∧ ¬ WordOk n b))) :
    Calls Tryd.prog 34 #[.int .i64 n, .int .i64 a, .int .i64 b] w fun e w' => e = .returned (.bool false) ∧ w = w' := by
  rcases h.out with ha | ⟨ha, hb⟩
  · have HA := Lib.hid ha
    clear ha h
    go_enter Tryd.func34, Tryd.ntmps34
    go_wp2_with (go_at_call 52; ((with_reducible refine (spec_WordValid_no n a _ HA).mono ?_); rintro e w' ⟨rfl, rfl⟩))
    go_ret
    exact ⟨rfl, rfl⟩
  · have HA := Lib.hid ha
    have HB := Lib.hid hb
    clear ha hb h
    go_enter Tryd.func34, Tryd.ntmps34
    go_wp2_with (first | (go_at_call 52; ((with_reducible refine (spec_WordValid_yes n a _ HA).mono ?_); rintro e w' ⟨rfl, rfl⟩)) | (go_at_call 52; ((with_reducible refine (spec_WordValid_no n b _ HB).mono ?_); rintro e w' ⟨rfl, rfl⟩)))
    go_ret
    exact ⟨rfl, rfl⟩

end Go.Proofs.YtbknmokoegembacDoor
