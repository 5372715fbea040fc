/- Contracts: what the laws on words draw. -/
import Derived.Test.YtbknmokoegembabDoorMDraw

namespace Go.Proofs.YtbknmokoegembabDoor
open Go.RowKit
set_option linter.unusedVariables false

set_option maxHeartbeats 1000000 in
theorem DrawReverse_any (a : Option Addr) (n cap : Nat) (w : World) (hc : CodeIs w a n cap) :
    Calls Tryd.prog 17 #[.slice a n cap] w fun e w' => ∃ x y, e = .returned (.tuple #[.int .i64 x, .int .i64 y]) ∧ ((-1 ≤ x ∧ x ≤ 13) ∧ -1 ≤ y ∧ y ≤ 4096) ∧ Below w.heap.size w w' := by
  have HC := Lib.hid hc
  clear hc
  go_enter Tryd.func17, Tryd.ntmps17
  go_wp2_with fail
  refine (open_any a n cap _ HC.out.1 HC.out.2.1 HC.out.2.2).mono ?_
  rintro e w0 ⟨g, rfl, hgB, hr0, hb0⟩
  have H0 := Lib.hid hr0
  have B0 := Lib.hid hb0
  have G0 := Lib.hid (World.grownBy.refl w0 (some g))
  clear hr0 hb0
  go_wp2_with fail
  refine (l20One_any g _ 9 _ H0.out (by omega) (by omega) (by omega)).mono ?_
  rintro e w1 ⟨d, x, rfl, hP, hr1, hg1⟩
  have G1 := Lib.hid hg1
  clear hr1 hg1
  go_wp2_with fail
  go_ret2
  exact ⟨d, x, rfl, hP, Bw.below_of_grown B0.out G1.out B0.out.size hgB⟩

set_option maxHeartbeats 1000000 in
theorem DrawUnweave_any (a : Option Addr) (n cap : Nat) (w : World) (hc : CodeIs w a n cap) :
    Calls Tryd.prog 30 #[.slice a n cap] w fun e w' => ∃ x y, e = .returned (.tuple #[.int .i64 x, .int .i64 y]) ∧ ((-1 ≤ x ∧ x ≤ 13) ∧ -1 ≤ y ∧ y ≤ 4096) ∧ Below w.heap.size w w' := by
  have HC := Lib.hid hc
  clear hc
  go_enter Tryd.func30, Tryd.ntmps30
  go_wp2_with fail
  refine (open_any a n cap _ HC.out.1 HC.out.2.1 HC.out.2.2).mono ?_
  rintro e w0 ⟨g, rfl, hgB, hr0, hb0⟩
  have H0 := Lib.hid hr0
  have B0 := Lib.hid hb0
  have G0 := Lib.hid (World.grownBy.refl w0 (some g))
  clear hr0 hb0
  go_wp2_with fail
  refine (l20One_any g _ 9 _ H0.out (by omega) (by omega) (by omega)).mono ?_
  rintro e w1 ⟨d, x, rfl, hP, hr1, hg1⟩
  have G1 := Lib.hid hg1
  clear hr1 hg1
  go_wp2_with fail
  go_ret2
  exact ⟨d, x, rfl, hP, Bw.below_of_grown B0.out G1.out B0.out.size hgB⟩

set_option maxHeartbeats 1000000 in
theorem DrawGather_any (a : Option Addr) (n cap : Nat) (w : World) (hc : CodeIs w a n cap) :
    Calls Tryd.prog 22 #[.slice a n cap] w fun e w' => ∃ x y z, e = .returned (.tuple #[.int .i64 x, .int .i64 y, .int .i64 z]) ∧ ((-1 ≤ x ∧ x ≤ 13) ∧ (-1 ≤ y ∧ y ≤ 4096) ∧ -1 ≤ z ∧ z ≤ 4096) ∧ Below w.heap.size w w' := by
  have HC := Lib.hid hc
  clear hc
  go_enter Tryd.func22, Tryd.ntmps22
  go_wp2_with fail
  refine (open_any a n cap _ HC.out.1 HC.out.2.1 HC.out.2.2).mono ?_
  rintro e w0 ⟨g, rfl, hgB, hr0, hb0⟩
  have H0 := Lib.hid hr0
  have B0 := Lib.hid hb0
  have G0 := Lib.hid (World.grownBy.refl w0 (some g))
  clear hr0 hb0
  go_wp2_with fail
  refine (l20Two_any g _ 9 _ H0.out (by omega) (by omega) (by omega)).mono ?_
  rintro e w1 ⟨d, x, y, rfl, hP, hr1, hg1⟩
  have G1 := Lib.hid hg1
  clear hr1 hg1
  go_wp2_with fail
  go_ret3
  exact ⟨d, x, y, rfl, hP, Bw.below_of_grown B0.out G1.out B0.out.size hgB⟩

set_option maxHeartbeats 1000000 in
theorem DrawScatter_any (a : Option Addr) (n cap : Nat) (w : World) (hc : CodeIs w a n cap) :
    Calls Tryd.prog 28 #[.slice a n cap] w fun e w' => ∃ x y z, e = .returned (.tuple #[.int .i64 x, .int .i64 y, .int .i64 z]) ∧ ((-1 ≤ x ∧ x ≤ 13) ∧ (-1 ≤ y ∧ y ≤ 4096) ∧ -1 ≤ z ∧ z ≤ 4096) ∧ Below w.heap.size w w' := by
  have HC := Lib.hid hc
  clear hc
  go_enter Tryd.func28, Tryd.ntmps28
  go_wp2_with fail
  refine (open_any a n cap _ HC.out.1 HC.out.2.1 HC.out.2.2).mono ?_
  rintro e w0 ⟨g, rfl, hgB, hr0, hb0⟩
  have H0 := Lib.hid hr0
  have B0 := Lib.hid hb0
  have G0 := Lib.hid (World.grownBy.refl w0 (some g))
  clear hr0 hb0
  go_wp2_with fail
  refine (l20Two_any g _ 9 _ H0.out (by omega) (by omega) (by omega)).mono ?_
  rintro e w1 ⟨d, x, y, rfl, hP, hr1, hg1⟩
  have G1 := Lib.hid hg1
  clear hr1 hg1
  go_wp2_with fail
  go_ret3
  exact ⟨d, x, y, rfl, hP, Bw.below_of_grown B0.out G1.out B0.out.size hgB⟩

end Go.Proofs.YtbknmokoegembabDoor
