/- The walk of the law that both agree on rounds that are run. -/
import Derived.Test.YtbknmokoegembacDoorRndB
import Derived.Test.YtbknmokoegembacDoorSlice

namespace Go.Proofs.YtbknmokoegembacDoor
open Go.RowKit
set_option linter.unusedVariables false

set_option maxHeartbeats 400000 in
theorem law_FnExactRoundsRun (W : World) (n : Int) (_ : (Lit.int .i64 n).wf = true) (x : Int) (_ : (Lit.int .i64 x).wf = true) (a0 : Option Addr) (len0 cap0 : Nat) (z0 : List Int) (w0 : Bw.IsRow .i64 W a0 len0 cap0 z0) (hT : TabLies W) :
    Calls Tryd.prog 5 #[.int .i64 n, .int .i64 x, .slice a0 len0 cap0] W fun e w' => e = .returned (.bool true) ∧ Below W.heap.size W w' := by
  have hv := w0.reads
  obtain ⟨hl, hm⟩ := w0.len
  clear w0
  generalize hz : z0.take len0 = zs at *
  clear hz
  by_cases hbig : 1048576 < len0
  · go_enter Tryd.func5, Tryd.ntmps5
    go_wp2_with fail
    go_ret
    exact ⟨rfl, Below.refl _ _⟩
  · have hs : len0 ≤ 1048576 := by omega
    have hs2 : zs.length ≤ 1048576 := by omega
    obtain ⟨r, hr⟩ := runsIs_some n x zs
    have HR := Lib.hid hr
    have V := Lib.hid hv
    have HT := Lib.hid hT
    have B := Lib.hid (Below.refl W.heap.size W)
    clear hr hv hl hbig hT
    go_enter Tryd.func5, Tryd.ntmps5
    go_wp2_with fail
    (with_reducible refine (toIntS_any _ zs _ V.out hs2).mono ?_)
    rintro e w2 ⟨r1, rfl, ho, hb⟩
    have V := Lib.hid (V.out.below hb)
    have HT := Lib.hid (HT.out.below hb)
    have B := Lib.hid (B.out.trans (hb.mono B.out.size))
    have R1 := Lib.hid (Bw.Reads.of_owns ho).1
    clear ho hb
    go_wp2_with fail
    (with_reducible refine (spec_RoundsRun_any n x _ zs _ R1 r HR).mono ?_)
    rintro e w2 ⟨rfl, hb⟩
    have V := Lib.hid (V.out.below hb)
    have HT := Lib.hid (HT.out.below hb)
    have B := Lib.hid (B.out.trans (hb.mono B.out.size))
    clear hb
    go_wp2_with fail
    (with_reducible refine (toIntS_any _ zs _ V.out hs2).mono ?_)
    rintro e w2 ⟨r2, rfl, ho, hb⟩
    have V := Lib.hid (V.out.below hb)
    have HT := Lib.hid (HT.out.below hb)
    have B := Lib.hid (B.out.trans (hb.mono B.out.size))
    have R2 := Lib.hid (Bw.Reads.of_owns ho).1
    clear ho hb
    go_wp2_with fail
    (with_reducible refine (impl_RoundsRun_any n x _ zs _ R2 r HR HT).mono ?_)
    rintro e w2 ⟨rfl, hb⟩
    have V := Lib.hid (V.out.below hb)
    have R2 := Lib.hid (R2.out.below hb)
    have B := Lib.hid (B.out.trans (hb.mono B.out.size))
    clear hb
    go_wp2_with fail
    (with_reducible refine (toIntS_any _ zs _ V.out hs2).mono ?_)
    rintro e w2 ⟨r3, rfl, ho, hb⟩
    have V := Lib.hid (V.out.below hb)
    have R2 := Lib.hid (R2.out.below hb)
    have B := Lib.hid (B.out.trans (hb.mono B.out.size))
    have R3 := Lib.hid (Bw.Reads.of_owns ho).1
    clear ho hb
    go_wp2_with fail
    (with_reducible refine (eqIntS_any _ _ zs zs _ R2.out R3.out hs2).mono ?_)
    rintro e w2 ⟨rfl, hb⟩
    have V := Lib.hid (V.out.below hb)
    have B := Lib.hid (B.out.trans (hb.mono B.out.size))
    clear hb
    go_wp2_with fail
    go_ret
    exact ⟨rfl, B.out⟩

end Go.Proofs.YtbknmokoegembacDoor
