/- Contracts: what the laws on words draw. -/
import Derived.Test.YtknchojfhpchiabMDraw

namespace Go.Proofs.Ytknchojfhpchiab
open Go.RowKit
set_option linter.unusedVariables false

set_option maxHeartbeats 1000000 in
theorem DrawReverseByHalves_any (a : Option Addr) (n cap : Nat) (w : World) (hc : CodeIs w a n cap) :
    Calls Try.prog 13 #[.slice a n cap] w fun e w' => ∃ x, e = .returned (.int .i64 x) ∧ (-1 ≤ x ∧ x ≤ 4096) ∧ Below w.heap.size w w' := by
  have HC := Lib.hid hc
  clear hc
  go_enter Try.func13, Try.ntmps13
  go_wp2_with fail
  refine (open_any a n cap _ HC.out.1 HC.out.2.1 HC.out.2.2).mono ?_
  rintro e w0 ⟨g, rfl, hgB, hr0, hb0⟩
  have H0 := Lib.hid hr0
  have B0 := Lib.hid hb0
  have G0 := Lib.hid (World.grownBy.refl w0 (some g))
  clear hr0 hb0
  go_wp2_with fail
  refine ((fun w h hl => l20Word_any g _ 8 9 w h hl (by omega) (by omega)) _ H0.out (by omega)).mono ?_
  rintro e w1 ⟨x, rfl, xP, hr1, hg1⟩
  have H1 := Lib.hid hr1
  have G1 := Lib.hid (Bw.grown_trans G0.out hg1)
  clear hr1 hg1
  go_wp2_with fail
  go_ret
  exact ⟨x, rfl, xP, Bw.below_of_grown B0.out G1.out B0.out.size hgB⟩

set_option maxHeartbeats 1000000 in
theorem DrawBitsSorted_any (a : Option Addr) (n cap : Nat) (w : World) (hc : CodeIs w a n cap) :
    Calls Try.prog 18 #[.slice a n cap] w fun e w' => ∃ x y, e = .returned (.tuple #[.int .i64 x, .int .i64 y]) ∧ ((-1 ≤ x ∧ x ≤ 13) ∧ -1 ≤ y ∧ y ≤ 4096) ∧ Below w.heap.size w w' := by
  have HC := Lib.hid hc
  clear hc
  go_enter Try.func18, Try.ntmps18
  go_wp2_with fail
  refine (open_any a n cap _ HC.out.1 HC.out.2.1 HC.out.2.2).mono ?_
  rintro e w0 ⟨g, rfl, hgB, hr0, hb0⟩
  have H0 := Lib.hid hr0
  have B0 := Lib.hid hb0
  have G0 := Lib.hid (World.grownBy.refl w0 (some g))
  clear hr0 hb0
  go_wp2_with fail
  refine (l20One_any g _ 9 _ H0.out (by omega) (by omega) (by omega)).mono ?_
  rintro e w1 ⟨d, x, rfl, hP, hr1, hg1⟩
  have G1 := Lib.hid hg1
  clear hr1 hg1
  go_wp2_with fail
  go_ret2
  exact ⟨d, x, rfl, hP, Bw.below_of_grown B0.out G1.out B0.out.size hgB⟩

end Go.Proofs.Ytknchojfhpchiab
