/- The walks of the laws on polynomials: validity, degrees, sums. -/
import Derived.Test.YtdnjmnlieilpiaaDraws
import Derived.Test.YtdnjmnlieilpiaaWord2

namespace Go.Proofs.Ytdnjmnlieilpiaa
open Go.RowKit
set_option linter.unusedVariables false

set_option maxHeartbeats 400000 in
theorem law_FnPolyValid (w : World) (a : Option Addr) (n cap : Nat) (zs : List Int) (h : Bw.IsRow .u8 w a n cap zs) :
    Calls Try.prog 8 #[.slice a n cap] w fun e w' => e = .returned (.bool true) ∧ Below w.heap.size w w' := by
  have hc := code_of_row h
  have hlen := h.len.2
  have HC := Lib.hid hc
  clear h hc
  by_cases hbig : 1048576 < n
  · go_enter Try.func8, Try.ntmps8
    go_wp2_with fail
    go_ret
    exact ⟨rfl, Below.refl _ _⟩
  have hs : n ≤ 1048576 := by omega
  clear hbig
  go_enter Try.func8, Try.ntmps8
  go_wp2_with fail
  refine (DrawPolyValid_any a n cap _ HC.out).mono ?_
  rintro e w1 ⟨x, rfl, hx, hb⟩
  have HB := Lib.hid hb
  clear hb
  by_cases hv : 0 ≤ x ∧ x ≤ 65535
  · go_wp2_with (first | (go_at_call 9; ((with_reducible refine (spec_PolyValid_yes _ _ (by omega) (by omega)).mono ?_); rintro e w' ⟨rfl, rfl⟩)) | (go_at_call 10; ((with_reducible refine (impl_PolyValid_yes _ _ (by omega) (by omega)).mono ?_); rintro e w' ⟨rfl, rfl⟩)) | (go_at_call 10; ((with_reducible refine (impl_PolyValid_no _ _ (by omega)).mono ?_); rintro e w' ⟨rfl, rfl⟩)))
    refine (alive_any _).mono ?_
    rintro e w2 ⟨rfl, hb2⟩
    have HB2 := Lib.hid hb2
    clear hb2
    go_wp2_with fail
    go_ret
    exact ⟨rfl, HB.out.trans (HB2.out.mono HB.out.size)⟩
  · have hv2 : x < 0 ∨ 65535 < x := by omega
    clear hv
    go_wp2_with (first | (go_at_call 9; ((with_reducible refine (spec_PolyValid_no _ _ (by omega)).mono ?_); rintro e w' ⟨rfl, rfl⟩)) | (go_at_call 10; ((with_reducible refine (impl_PolyValid_no _ _ (by omega)).mono ?_); rintro e w' ⟨rfl, rfl⟩)))
    refine (alive_any _).mono ?_
    rintro e w2 ⟨rfl, hb2⟩
    have HB2 := Lib.hid hb2
    clear hb2
    go_wp2_with fail
    go_ret
    exact ⟨rfl, HB.out.trans (HB2.out.mono HB.out.size)⟩

theorem dg_xor (a b : Nat) : Bw.dg (a ^^^ b) ≤ max (Bw.dg a) (Bw.dg b) := by
  have h : ∀ n : Nat, Bw.dg a < (n : Int) → Bw.dg b < (n : Int) → Bw.dg (a ^^^ b) < (n : Int) := fun n ha hb => by
    have lt : ∀ x : Nat, Bw.dg x < (n : Int) → x < 2 ^ n := fun x hx => by
      by_cases h0 : x = 0
      · subst h0; exact Nat.two_pow_pos n
      · rw [Bw.dg_pos h0] at hx; exact (Nat.log2_lt h0).1 (by omega)
    exact Bw.dg_lt (Nat.xor_lt_two_pow (lt a ha) (lt b hb))
  have ka := Bw.dg_ge a
  have kb := Bw.dg_ge b
  have := h ((max (Bw.dg a) (Bw.dg b)) + 1).toNat (by omega) (by omega)
  omega

end Go.Proofs.Ytdnjmnlieilpiaa
