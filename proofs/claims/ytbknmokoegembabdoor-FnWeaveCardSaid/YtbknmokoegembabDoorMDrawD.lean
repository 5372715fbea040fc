/- Contracts: drawn words that are woven. -/
import Derived.Test.YtbknmokoegembabDoorMDraw

namespace Go.Proofs.YtbknmokoegembabDoor
open Go.RowKit
set_option linter.unusedVariables false

set_option maxHeartbeats 1000000 in
theorem DrawWeave_any (a : Option Addr) (n cap : Nat) (w : World) (hc : CodeIs w a n cap) :
    Calls Tryd.prog 11 #[.slice a n cap] w fun e w' => ∃ x y z, e = .returned (.tuple #[.int .i64 x, .int .i64 y, .int .i64 z]) ∧ ((1 ≤ x ∧ x ≤ 8) ∧ (-1 ≤ y ∧ y ≤ 4096) ∧ -1 ≤ z ∧ z ≤ 4096) ∧ Below w.heap.size w w' := by
  have HC := Lib.hid hc
  clear hc
  go_enter Tryd.func11, Tryd.ntmps11
  go_wp2_with fail
  refine (open_any a n cap _ HC.out.1 HC.out.2.1 HC.out.2.2).mono ?_
  rintro e w0 ⟨g, rfl, hgB, hr0, hb0⟩
  have H0 := Lib.hid hr0
  have B0 := Lib.hid hb0
  have G0 := Lib.hid (World.grownBy.refl w0 (some g))
  clear hr0 hb0
  go_wp2_with fail
  refine (pick_any g _ 6 _ H0.out (by omega)).mono ?_
  rintro e w1 ⟨p, rfl, hp, hr1, hg1⟩
  have p0 := hp.1
  have p1 := hp.2.1 (by omega)
  have H1 := Lib.hid hr1
  have G1 := Lib.hid (Bw.grown_trans G0.out hg1)
  clear hr1 hg1 hp
  go_wp2_with fail
  refine (pick_any g _ 20 _ H1.out (by omega)).mono ?_
  rintro e w2 ⟨q, rfl, hp, hr2, hg2⟩
  have q0 := hp.1
  have q1 := hp.2.1 (by omega)
  have H2 := Lib.hid hr2
  have G2 := Lib.hid (Bw.grown_trans G1.out hg2)
  clear hr2 hg2 hp
  go_wp2_with fail
  obtain ⟨d, hd⟩ : ∃ d, 1 + p + q / 19 * 2 = d := ⟨_, rfl⟩
  have hd0 : 1 ≤ d ∧ d ≤ 8 := by omega
  rw [hd]
  clear hd
  refine (l20Word_any g _ d 14 _ H2.out (by omega) (by omega) (by omega)).mono ?_
  rintro e w3 ⟨x, rfl, xP, hr3, hg3⟩
  have H3 := Lib.hid hr3
  have G3 := Lib.hid (Bw.grown_trans G2.out hg3)
  clear hr3 hg3
  go_wp2_with fail
  refine ((fun w h hl => l20Word_any g _ d 14 w h hl (by omega) (by omega)) _ H3.out (by omega)).mono ?_
  rintro e w4 ⟨y, rfl, yP, hr4, hg4⟩
  have H4 := Lib.hid hr4
  have G4 := Lib.hid (Bw.grown_trans G3.out hg4)
  clear hr4 hg4
  go_wp2_with fail
  go_ret3
  exact ⟨d, x, y, rfl, ⟨hd0, xP, yP⟩, Bw.below_of_grown B0.out G4.out B0.out.size hgB⟩

end Go.Proofs.YtbknmokoegembabDoor
