/- Contracts: what the laws on orders draw. -/
import Derived.Test.YtknchojfhpchiadMDrawB

namespace Go.Proofs.Ytknchojfhpchiad
open Go.RowKit
set_option linter.unusedVariables false

set_option maxHeartbeats 1000000 in
theorem DrawBitsMoved_any (a : Option Addr) (n cap : Nat) (w : World) (hc : CodeIs w a n cap) :
    Calls Try.prog 4 #[.slice a n cap] w fun e w' => ∃ x v zs, e = .returned (.tuple #[.int .i64 x, v]) ∧ Bw.Own 3 w.heap.size w' v zs ∧ zs.length ≤ 14 ∧ (-1 ≤ x ∧ x ≤ 4096) ∧ Below w.heap.size w w' := by
  have HC := Lib.hid hc
  clear hc
  go_enter Try.func4, Try.ntmps4
  go_wp2_with fail
  refine (open_any a n cap _ HC.out.1 HC.out.2.1 HC.out.2.2).mono ?_
  rintro e w0 ⟨g, rfl, hgB, hr0, hb0⟩
  have H0 := Lib.hid hr0
  have B0 := Lib.hid hb0
  have G0 := Lib.hid (World.grownBy.refl w0 (some g))
  clear hr0 hb0
  go_wp2_with fail
  refine ((fun w h hl => l20Width_zero g _ w h hl) _ H0.out (by omega)).mono ?_
  rintro e w1 ⟨d, rfl, dP, hr1, hg1⟩
  have H1 := Lib.hid hr1
  have G1 := Lib.hid (Bw.grown_trans G0.out hg1)
  clear hr1 hg1
  go_wp2_with fail
  refine ((fun w h hl => l20Word_any g _ d 14 w h hl (by omega) (by omega)) _ H1.out (by omega)).mono ?_
  rintro e w2 ⟨x, rfl, xP, hr2, hg2⟩
  have H2 := Lib.hid hr2
  have G2 := Lib.hid (Bw.grown_trans G1.out hg2)
  clear hr2 hg2
  go_wp2_with fail
  (with_reducible refine (l20Order_any g _ d 14 _ H2.out (by omega) (by omega) (by omega) (by omega)).mono ?_)
  rintro e w3 ⟨v, zs, rfl, ho, hl14, hr3, hg3⟩
  have hs1 := B0.out.size
  have hs2 := G2.out.size
  have HO := Lib.hid (ho.mono (Nat.le_trans hs1 hs2))
  have G3 := Lib.hid (Bw.grown_trans G2.out hg3)
  clear hr3 hg3 ho
  go_wp2_with fail
  go_ret2
  exact ⟨x, v, zs, rfl, HO.out, hl14, xP, Bw.below_of_grown B0.out G3.out B0.out.size hgB⟩

end Go.Proofs.Ytknchojfhpchiad
