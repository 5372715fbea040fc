/- The walk of the law on words of 8 bits turned round by halves. -/
import Derived.Test.YtknchojfhpchiabMDrawA
import Derived.Test.YtknchojfhpchiabMFnC

namespace Go.Proofs.Ytknchojfhpchiab
open Go.RowKit
set_option linter.unusedVariables false

set_option maxRecDepth 100000 in
set_option maxHeartbeats 1000000 in
theorem law_FnReverseByHalves (w : World) (a : Option Addr) (n cap : Nat) (zs : List Int) (h : Bw.IsRow .u8 w a n cap zs) :
    Calls Try.prog 5 #[.slice a n cap] w fun e w' => e = .returned (.bool true) ∧ Below w.heap.size w w' := by
  have hc := code_of_row h
  have hlen := h.len.2
  have HC := Lib.hid hc
  clear h hc
  by_cases hbig : 1048576 < n
  · go_enter Try.func5, Try.ntmps5
    go_wp2_with fail
    go_ret
    exact ⟨rfl, Below.refl _ _⟩
  have hs : n ≤ 1048576 := by omega
  clear hbig
  go_enter Try.func5, Try.ntmps5
  go_wp2_with fail
  refine (DrawReverseByHalves_any a n cap _ HC.out).mono ?_
  rintro e w1 ⟨x, rfl, hx, hb⟩
  have HB := Lib.hid hb
  clear hb
  by_cases h : WordOk 8 x
  · have hx8 : Hid (WordOk 8 x) := h
    obtain ⟨x, rfl⟩ := Int.eq_ofNat_of_zero_le h.2.1
    clear h
    have HR : Hid (∀ w : World, Calls Try.prog 16 #[.int .i64 8, .int .i64 x] w fun e w' => e = .returned (.int .i64 ((Bw.rv x 8 : Nat) : Int)) ∧ Below w.heap.size w w') := fun w => impl_Reverse_yes 8 x w hx8
    go_wp2_with fail
    (with_reducible refine (impl_ReverseByHalves_yes x _ hx8).mono ?_)
    rintro e w2 ⟨rfl, hb⟩
    have HB := Lib.hid (HB.out.trans (hb.mono HB.out.size))
    clear hb
    go_wp2_with fail
    (with_reducible refine (spec_ReverseByHalves_yes x _ hx8).mono ?_)
    rintro e w3 ⟨rfl, m, rfl⟩
    have HB := Lib.hid (Go.below_drewN HB.out m)
    go_wp2_with fail
    (with_reducible refine (HR.out _).mono ?_)
    rintro e w3 ⟨rfl, hb⟩
    have HB := Lib.hid (HB.out.trans (hb.mono HB.out.size))
    clear hb
    go_wp2_with fail
    refine (alive_any _).mono ?_
    rintro e w2 ⟨rfl, hb2⟩
    have HB2 := Lib.hid hb2
    clear hb2
    go_wp2_with fail
    go_ret
    exact ⟨ret_bool (by simp), HB.out.trans (HB2.out.mono HB.out.size)⟩
  · have hx8 : Hid (¬ WordOk 8 x) := h
    clear h
    have HR : Hid (∀ w : World, Calls Try.prog 16 #[.int .i64 8, .int .i64 x] w fun e w' => e = .returned (.int .i64 (-1)) ∧ Below w.heap.size w w') := fun w => impl_Reverse_no 8 x w hx8
    go_wp2_with fail
    (with_reducible refine (impl_ReverseByHalves_no x _ hx8).mono ?_)
    rintro e w2 ⟨rfl, hb⟩
    have HB := Lib.hid (HB.out.trans (hb.mono HB.out.size))
    clear hb
    go_wp2_with (go_at_call 15; ((with_reducible refine (spec_ReverseByHalves_no x _ hx8).mono ?_); rintro e w' ⟨rfl, rfl⟩))
    (with_reducible refine (HR.out _).mono ?_)
    rintro e w3 ⟨rfl, hb⟩
    have HB := Lib.hid (HB.out.trans (hb.mono HB.out.size))
    clear hb
    go_wp2_with fail
    refine (alive_any _).mono ?_
    rintro e w2 ⟨rfl, hb2⟩
    have HB2 := Lib.hid hb2
    clear hb2
    go_wp2_with fail
    go_ret
    exact ⟨ret_bool (by simp), HB.out.trans (HB2.out.mono HB.out.size)⟩

end Go.Proofs.Ytknchojfhpchiab
