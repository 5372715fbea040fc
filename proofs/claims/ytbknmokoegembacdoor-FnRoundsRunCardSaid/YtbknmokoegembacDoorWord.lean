/- Contracts: words. -/
import Derived.Test.YtbknmokoegembacDoorSlice

namespace Go.Proofs.YtbknmokoegembacDoor
open Go.RowKit
set_option linter.unusedVariables false

theorem wpower_any (n : Nat) (w : World) (h : n ≤ 40) :
    Calls Tryd.prog 63 #[.int .i64 n] w fun e w' => e = .returned (.int .i64 ((2 ^ n : Nat) : Int)) ∧ w = w' := by
  have hp : 2 ^ n ≤ 2 ^ 40 := Nat.pow_le_pow_right (by omega) h
  go_enter Tryd.func63, Tryd.ntmps63
  go_wp2
  go_ret
  exact ⟨ret_int (by rw [Bw.two_pow_cast, Bw.w64n (by omega)]), rfl⟩

theorem isWidth_yes (n : Int) (w : World) (h0 : 1 ≤ n) (h1 : n ≤ 12) :
    Calls Tryd.prog 42 #[.int .i64 n] w fun e w' => e = .returned (.bool true) ∧ w = w' := by
  go_enter Tryd.func42, Tryd.ntmps42
  go_wp2_with (go_at_call 43; ((with_reducible refine (within_yes _ _ _ _ (by omega) (by omega)).mono ?_); rintro e w' ⟨rfl, rfl⟩))
  go_ret
  exact ⟨rfl, rfl⟩

theorem isWidth_no (n : Int) (w : World) (h : n < 1 ∨ 12 < n) :
    Calls Tryd.prog 42 #[.int .i64 n] w fun e w' => e = .returned (.bool false) ∧ w = w' := by
  go_enter Tryd.func42, Tryd.ntmps42
  go_wp2_with (go_at_call 43; ((with_reducible refine (within_no _ _ _ _ (by omega)).mono ?_); rintro e w' ⟨rfl, rfl⟩))
  go_ret
  exact ⟨rfl, rfl⟩

theorem greatest_any (n : Nat) (w : World) (h : n ≤ 40) :
    Calls Tryd.prog 31 #[.int .i64 n] w fun e w' => e = .returned (.int .i64 ((2 ^ n - 1 : Nat) : Int)) ∧ w = w' := by
  have hp : 2 ^ n ≤ 2 ^ 40 := Nat.pow_le_pow_right (by omega) h
  have hq := Nat.two_pow_pos n
  obtain ⟨q, hqq⟩ : ∃ q, 2 ^ n = q := ⟨_, rfl⟩
  have HP := Lib.hid (fun (w : World) => hqq ▸ wpower_any n w h)
  rw [hqq] at hp hq ⊢
  clear hqq
  go_enter Tryd.func31, Tryd.ntmps31
  go_wp2_with (go_at_call 63; ((with_reducible refine (HP.out _).mono ?_); rintro e w' ⟨rfl, rfl⟩))
  go_ret
  exact ⟨ret_int (by omega), rfl⟩

theorem cut_any (n : Nat) (x : Int) (w : World) (h : n ≤ 40) :
    Calls Tryd.prog 62 #[.int .i64 n, .int .i64 x] w fun e w' => e = .returned (.int .i64 (x % ((2 ^ n : Nat) : Int))) ∧ w = w' := by
  go_enter Tryd.func62, Tryd.ntmps62
  go_wp2_with (go_at_call 31; ((with_reducible refine (greatest_any n _ h).mono ?_); rintro e w' ⟨rfl, rfl⟩))
  go_ret
  exact ⟨ret_int (Bw.i64_mask x n h), rfl⟩

/-- a valid word -/
def WordOk (n x : Int) : Prop := (1 ≤ n ∧ n ≤ 12) ∧ 0 ≤ x ∧ x < ((2 ^ n.toNat : Nat) : Int)

theorem impl_WordValid_yes (n x : Int) (w : World) (h : Hid (WordOk n x)) :
    Calls Tryd.prog 12 #[.int .i64 n, .int .i64 x] w fun e w' => e = .returned (.bool true) ∧ w = w' := by
  obtain ⟨⟨n0, n1⟩, x0, x1⟩ := h.out
  clear h
  obtain ⟨n, rfl⟩ := Int.eq_ofNat_of_zero_le (show 0 ≤ n by omega)
  rw [Int.toNat_natCast] at x1
  obtain ⟨q, hq⟩ : ∃ q, 2 ^ n = q := ⟨_, rfl⟩
  have HG := Lib.hid (fun (w : World) => hq ▸ greatest_any n w (by omega))
  rw [hq] at x1
  clear hq
  go_enter Tryd.func12, Tryd.ntmps12
  go_wp2_with (first | (go_at_call 42; ((with_reducible refine (isWidth_yes _ _ (by omega) (by omega)).mono ?_); rintro e w' ⟨rfl, rfl⟩)) | (go_at_call 31; ((with_reducible refine (HG.out _).mono ?_); rintro e w' ⟨rfl, rfl⟩)) | (go_at_call 43; ((with_reducible refine (within_yes _ _ _ _ (by omega) (by omega)).mono ?_); rintro e w' ⟨rfl, rfl⟩)))
  go_ret
  exact ⟨rfl, rfl⟩

theorem impl_WordValid_no (n x : Int) (w : World) (h : Hid (¬ WordOk n x)) :
    Calls Tryd.prog 12 #[.int .i64 n, .int .i64 x] w fun e w' => e = .returned (.bool false) ∧ w = w' := by
  by_cases hn : 1 ≤ n ∧ n ≤ 12
  · obtain ⟨n0, n1⟩ := hn
    obtain ⟨n, rfl⟩ := Int.eq_ofNat_of_zero_le (show 0 ≤ n by omega)
    have hx : x < 0 ∨ ((2 ^ n : Nat) : Int) ≤ x := by
      by_cases hx : 0 ≤ x ∧ x < ((2 ^ n : Nat) : Int)
      · exact absurd ⟨⟨n0, n1⟩, by rw [Int.toNat_natCast]; exact hx⟩ h.out
      · omega
    have hq0 := Nat.two_pow_pos n
    obtain ⟨q, hq⟩ : ∃ q, 2 ^ n = q := ⟨_, rfl⟩
    have HG := Lib.hid (fun (w : World) => hq ▸ greatest_any n w (by omega))
    rw [hq] at hx hq0
    clear hq h
    go_enter Tryd.func12, Tryd.ntmps12
    go_wp2_with (first | (go_at_call 42; ((with_reducible refine (isWidth_yes _ _ (by omega) (by omega)).mono ?_); rintro e w' ⟨rfl, rfl⟩)) | (go_at_call 31; ((with_reducible refine (HG.out _).mono ?_); rintro e w' ⟨rfl, rfl⟩)) | (go_at_call 43; ((with_reducible refine (within_no _ _ _ _ (by omega)).mono ?_); rintro e w' ⟨rfl, rfl⟩)))
    go_ret
    exact ⟨rfl, rfl⟩
  · have hn2 : n < 1 ∨ 12 < n := by omega
    clear h hn
    go_enter Tryd.func12, Tryd.ntmps12
    go_wp2_with (go_at_call 42; ((with_reducible refine (isWidth_no _ _ hn2).mono ?_); rintro e w' ⟨rfl, rfl⟩))
    go_ret
    exact ⟨rfl, rfl⟩

/-! allValid, at two words that lie in new memory -/

theorem allValid_yes (n a b : Int) (g : Nat) (w : World) (hw : 1 ≤ n ∧ n ≤ 12) (h0 : w.cell? ⟨g, 0, none⟩ = some (.int .i64 a)) (h1 : w.cell? ⟨g, 1, none⟩ = some (.int .i64 b)) (ha : Hid (WordOk n a)) (hb : Hid (WordOk n b)) :
    Calls Tryd.prog 61 #[.int .i64 n, .slice (some ⟨g, 0, none⟩) 2 2] w fun e w' => e = .returned (.bool true) ∧ w = w' := by
  obtain ⟨n0, n1⟩ := hw
  go_enter Tryd.func61, Tryd.ntmps61
  go_wp2_with fail
  refine wp_loop_rounds 3 ?_
  rw [rounds_succ]
  go_wp2_with (go_at_call 12; ((with_reducible refine (impl_WordValid_yes n a _ ha).mono ?_); rintro e w' ⟨rfl, rfl⟩))
  rw [rounds_succ]
  go_wp2_with (go_at_call 12; ((with_reducible refine (impl_WordValid_yes n b _ hb).mono ?_); rintro e w' ⟨rfl, rfl⟩))
  rw [rounds_succ]
  go_wp2_with (go_at_call 42; ((with_reducible refine (isWidth_yes n _ n0 n1).mono ?_); rintro e w' ⟨rfl, rfl⟩))
  go_ret
  exact ⟨rfl, rfl⟩

theorem allValid_no (n a b : Int) (g : Nat) (w : World) (h0 : w.cell? ⟨g, 0, none⟩ = some (.int .i64 a)) (h1 : w.cell? ⟨g, 1, none⟩ = some (.int .i64 b)) (h : Hid (¬ WordOk n a ∨ (WordOk n a ∧ ¬ WordOk n b))) :
    Calls Tryd.prog 61 #[.int .i64 n, .slice (some ⟨g, 0, none⟩) 2 2] w fun e w' => e = .returned (.bool false) ∧ w = w' := by
  rcases h.out with ha | ⟨ha, hb⟩
  · have HA := Lib.hid ha
    clear ha h
    go_enter Tryd.func61, Tryd.ntmps61
    go_wp2_with fail
    refine wp_loop_rounds 3 ?_
    rw [rounds_succ]
    go_wp2_with (go_at_call 12; ((with_reducible refine (impl_WordValid_no n a _ HA).mono ?_); rintro e w' ⟨rfl, rfl⟩))
    go_ret
    exact ⟨rfl, rfl⟩
  · have HA := Lib.hid ha
    have HB := Lib.hid hb
    clear ha hb h
    go_enter Tryd.func61, Tryd.ntmps61
    go_wp2_with fail
    refine wp_loop_rounds 3 ?_
    rw [rounds_succ]
    go_wp2_with (go_at_call 12; ((with_reducible refine (impl_WordValid_yes n a _ HA).mono ?_); rintro e w' ⟨rfl, rfl⟩))
    rw [rounds_succ]
    go_wp2_with (go_at_call 12; ((with_reducible refine (impl_WordValid_no n b _ HB).mono ?_); rintro e w' ⟨rfl, rfl⟩))
    go_ret
    exact ⟨rfl, rfl⟩

end Go.Proofs.YtbknmokoegembacDoor
