/- The walks of the laws on polynomials: validity, degrees, sums. -/
import Derived.Test.YtdnjmnlieilpiacDraws
import Derived.Test.YtdnjmnlieilpiacWord2

namespace Go.Proofs.Ytdnjmnlieilpiac
open Go.RowKit
set_option linter.unusedVariables false

theorem dg_xor (a b : Nat) : Bw.dg (a ^^^ b) ≤ max (Bw.dg a) (Bw.dg b) := by
  have h : ∀ n : Nat, Bw.dg a < (n : Int) → Bw.dg b < (n : Int) → Bw.dg (a ^^^ b) < (n : Int) := fun n ha hb => by
    have lt : ∀ x : Nat, Bw.dg x < (n : Int) → x < 2 ^ n := fun x hx => by
      by_cases h0 : x = 0
      · subst h0; exact Nat.two_pow_pos n
      · rw [Bw.dg_pos h0] at hx; exact (Nat.log2_lt h0).1 (by omega)
    exact Bw.dg_lt (Nat.xor_lt_two_pow (lt a ha) (lt b hb))
  have ka := Bw.dg_ge a
  have kb := Bw.dg_ge b
  have := h ((max (Bw.dg a) (Bw.dg b)) + 1).toNat (by omega) (by omega)
  omega

set_option maxHeartbeats 400000 in
theorem law_FnPolyAdd (w : World) (a : Option Addr) (n cap : Nat) (zs : List Int) (h : Bw.IsRow .u8 w a n cap zs) :
    Calls Try.prog 5 #[.slice a n cap] w fun e w' => e = .returned (.bool true) ∧ Below w.heap.size w w' := by
  have hc := code_of_row h
  have hlen := h.len.2
  have HC := Lib.hid hc
  clear h hc
  by_cases hbig : 1048576 < n
  · go_enter Try.func5, Try.ntmps5
    go_wp2_with fail
    go_ret
    exact ⟨rfl, Below.refl _ _⟩
  have hs : n ≤ 1048576 := by omega
  clear hbig
  go_enter Try.func5, Try.ntmps5
  go_wp2_with fail
  refine (DrawPolyAdd_any a n cap _ HC.out).mono ?_
  rintro e w1 ⟨x, y, rfl, ⟨hx, hy⟩, hb⟩
  have HB := Lib.hid hb
  clear hb
  by_cases hv : (0 ≤ x ∧ x ≤ 65535) ∧ (0 ≤ y ∧ y ≤ 65535)
  · obtain ⟨x, rfl⟩ := Int.eq_ofNat_of_zero_le hv.1.1
    obtain ⟨y, rfl⟩ := Int.eq_ofNat_of_zero_le hv.2.1
    have hx2 : x ≤ 65535 := by omega
    have hy2 : y ≤ 65535 := by omega
    have hz : x ^^^ y ≤ 65535 := by have := Nat.xor_lt_two_pow (n := 16) (show x < 2 ^ 16 by omega) (show y < 2 ^ 16 by omega); omega
    have hle := dg_xor x y
    have H2 : Hid (∀ w : World, Calls Try.prog 20 #[.int .i64 ((x ^^^ y : Nat) : Int), .int .i64 y] w fun e w' => e = .returned (.int .i64 (x : Int)) ∧ w = w') := fun w => by
      have t := impl_PolyAdd_yes (x ^^^ y) y w hz hy2
      rw [Bw.xor_cancel] at t
      exact t
    have H3 : Hid (∀ w : World, Calls Try.prog 20 #[.int .i64 y, .int .i64 x] w fun e w' => e = .returned (.int .i64 ((x ^^^ y : Nat) : Int)) ∧ w = w') := fun w => by
      have t := impl_PolyAdd_yes y x w hy2 hx2
      rw [Nat.xor_comm] at t
      exact t
    have H1 := Lib.hid (fun w : World => impl_PolyAdd_yes x y w hx2 hy2)
    have HS := Lib.hid (fun w : World => spec_PolyAdd_yes x y w hx2 hy2)
    have D1 := Lib.hid (fun w : World => impl_PolyDegree_yes (x ^^^ y) w hz)
    have D2 := Lib.hid (fun w : World => impl_PolyDegree_yes x w hx2)
    have D3 := Lib.hid (fun w : World => impl_PolyDegree_yes y w hy2)
    clear hv hx hy
    obtain ⟨z, hzz⟩ : ∃ z, x ^^^ y = z := ⟨_, rfl⟩
    rw [hzz] at H1 H2 H3 HS D1 hz hle
    have hdec : decide (Bw.dg z ≤ max (Bw.dg x) (Bw.dg y)) = true := by rw [decide_eq_true_eq]; exact hle
    clear hzz hle
    go_wp2_with (first | (go_at_call 21; ((with_reducible refine (HS.out _).mono ?_); rintro e w' ⟨rfl, rfl⟩)) | (go_at_call 20; ((with_reducible refine (H1.out _).mono ?_); rintro e w' ⟨rfl, rfl⟩)) | (go_at_call 20; ((with_reducible refine (H2.out _).mono ?_); rintro e w' ⟨rfl, rfl⟩)) | (go_at_call 20; ((with_reducible refine (H3.out _).mono ?_); rintro e w' ⟨rfl, rfl⟩)) | (go_at_call 14; ((with_reducible refine (D1.out _).mono ?_); rintro e w' ⟨rfl, rfl⟩)) | (go_at_call 14; ((with_reducible refine (D2.out _).mono ?_); rintro e w' ⟨rfl, rfl⟩)) | (go_at_call 14; ((with_reducible refine (D3.out _).mono ?_); rintro e w' ⟨rfl, rfl⟩)))
    go_ret
    exact ⟨rfl, HB.out⟩
  · have hv2 : (x < 0 ∨ 65535 < x) ∨ (y < 0 ∨ 65535 < y) := by omega
    clear hv
    go_wp2_with (first | (go_at_call 21; ((with_reducible refine (spec_PolyAdd_no x y _ hv2).mono ?_); rintro e w' ⟨rfl, rfl⟩)) | (go_at_call 20; ((with_reducible refine (impl_PolyAdd_no x y _ hv2).mono ?_); rintro e w' ⟨rfl, rfl⟩)))
    refine (alive_any _).mono ?_
    rintro e w2 ⟨rfl, hb2⟩
    have HB2 := Lib.hid hb2
    clear hb2
    go_wp2_with fail
    go_ret
    exact ⟨rfl, HB.out.trans (HB2.out.mono HB.out.size)⟩

end Go.Proofs.Ytdnjmnlieilpiac
