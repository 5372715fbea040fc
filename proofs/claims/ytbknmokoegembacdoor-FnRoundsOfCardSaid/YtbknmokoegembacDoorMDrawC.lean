/- Contracts: what the laws on orders draw. -/
import Derived.Test.YtbknmokoegembacDoorMDrawB

namespace Go.Proofs.YtbknmokoegembacDoor
open Go.RowKit
set_option linter.unusedVariables false

set_option maxHeartbeats 1000000 in
theorem DrawRoundsOf_any (a : Option Addr) (n cap : Nat) (w : World) (hc : CodeIs w a n cap) :
    Calls Tryd.prog 21 #[.slice a n cap] w fun e w' => ∃ v zs, e = .returned v ∧ Bw.Own 3 w.heap.size w' v zs ∧ zs.length ≤ 14 ∧ Below w.heap.size w w' := by
  have HC := Lib.hid hc
  clear hc
  go_enter Tryd.func21, Tryd.ntmps21
  go_wp2_with fail
  refine (open_any a n cap _ HC.out.1 HC.out.2.1 HC.out.2.2).mono ?_
  rintro e w0 ⟨g, rfl, hgB, hr0, hb0⟩
  have H0 := Lib.hid hr0
  have B0 := Lib.hid hb0
  have G0 := Lib.hid (World.grownBy.refl w0 (some g))
  clear hr0 hb0
  go_wp2_with fail
  refine ((fun w h hl => l20Width_zero g _ w h hl) _ H0.out (by omega)).mono ?_
  rintro e w1 ⟨d, rfl, dP, hr1, hg1⟩
  have H1 := Lib.hid hr1
  have G1 := Lib.hid (Bw.grown_trans G0.out hg1)
  clear hr1 hg1
  go_wp2_with fail
  (with_reducible refine (l20Order_any g _ d 9 _ H1.out (by omega) (by omega) (by omega) (by omega)).mono ?_)
  rintro e w2 ⟨v, zs, rfl, ho, hl14, hr2, hg2⟩
  have hs1 := B0.out.size
  have hs2 := G1.out.size
  have HO := Lib.hid (ho.mono (Nat.le_trans hs1 hs2))
  have G2 := Lib.hid (Bw.grown_trans G1.out hg2)
  clear hr2 hg2 ho
  go_wp2_with fail
  go_ret
  exact ⟨v, zs, rfl, HO.out, hl14, Bw.below_of_grown B0.out G2.out B0.out.size hgB⟩

end Go.Proofs.YtbknmokoegembacDoor
