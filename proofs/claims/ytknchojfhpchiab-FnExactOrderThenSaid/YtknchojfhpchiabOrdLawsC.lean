/- The walk of the law that both agree on orders one after the other. -/
import Derived.Test.YtknchojfhpchiabFnOrdC

namespace Go.Proofs.Ytknchojfhpchiab
open Go.RowKit
set_option linter.unusedVariables false

set_option maxRecDepth 100000 in
set_option maxHeartbeats 1000000 in
theorem law_FnExactOrderThen (W : World) (a0 : Option Addr) (len0 cap0 : Nat) (z0 : List Int) (w0 : Bw.IsRow .i64 W a0 len0 cap0 z0) (a1 : Option Addr) (len1 cap1 : Nat) (z1 : List Int) (w1 : Bw.IsRow .i64 W a1 len1 cap1 z1) :
    Calls Try.prog 8 #[.slice a0 len0 cap0, .slice a1 len1 cap1] W fun e w' => e = .returned (.bool true) ∧ Below W.heap.size W w' := by
  have hv := w0.reads
  have hv2 := w1.reads
  obtain ⟨hl, hm⟩ := w0.len
  obtain ⟨hl2, hm2⟩ := w1.len
  clear w0 w1
  generalize hz : z0.take len0 = xs at *
  generalize hz2 : z1.take len1 = ys at *
  clear hz hz2
  by_cases hbig : 1048576 < len0
  · go_enter Try.func8, Try.ntmps8
    go_wp2_with fail
    go_ret
    exact ⟨rfl, Below.refl _ _⟩
  have hs : len0 ≤ 1048576 := by omega
  clear hbig
  by_cases hbig : 1048576 < len1
  · go_enter Try.func8, Try.ntmps8
    go_wp2_with fail
    go_ret
    exact ⟨rfl, Below.refl _ _⟩
  have hs1 : len1 ≤ 1048576 := by omega
  have hx : xs.length ≤ 1048576 := by omega
  have hy : ys.length ≤ 1048576 := by omega
  obtain ⟨out, ho⟩ := Bw.thenIs_some xs ys
  have ho12 := ho.len
  have HR := Lib.hid ho
  have V := Lib.hid hv
  have V2 := Lib.hid hv2
  have hv0 := V
  have hv20 := V2
  have B := Lib.hid (Below.refl W.heap.size W)
  clear ho hv hv2 hl hl2 hbig
  go_enter Try.func8, Try.ntmps8
  go_wp2_with fail
  (with_reducible refine (toIntS_own _ xs _ V.out hx).mono ?_)
  rintro e w2 ⟨r1, rfl, ho, hb⟩
  have T1 := Lib.hid (Bw.Own.mono ho B.out.size)
  have V := Lib.hid (V.out.below hb)
  have V2 := Lib.hid (V2.out.below hb)
  have B := Lib.hid (B.out.trans (hb.mono B.out.size))
  clear ho hb
  go_wp2_with fail
  (with_reducible refine (toIntS_own _ ys _ V2.out hy).mono ?_)
  rintro e w2 ⟨r2, rfl, ho, hb⟩
  have T2 := Lib.hid (Bw.Own.mono ho B.out.size)
  have V := Lib.hid (V.out.below hb)
  have V2 := Lib.hid (V2.out.below hb)
  have T1 := Lib.hid (T1.out.below hb)
  have B := Lib.hid (B.out.trans (hb.mono B.out.size))
  clear ho hb
  go_wp2_with fail
  (with_reducible refine (spec_OrderThen_any _ _ xs ys out _ T1.out.reads T2.out.reads hx hy HR).mono ?_)
  rintro e w2 ⟨r3, rfl, ho, hb⟩
  have OW := Lib.hid (Bw.Own.mono ho B.out.size)
  have V := Lib.hid (V.out.below hb)
  have V2 := Lib.hid (V2.out.below hb)
  have B := Lib.hid (B.out.trans (hb.mono B.out.size))
  clear ho hb
  go_wp2_with fail
  (with_reducible refine (toIntS_own _ xs _ V.out hx).mono ?_)
  rintro e w2 ⟨r4, rfl, ho, hb⟩
  have AWX := Lib.hid (Bw.Own.apart OW.out ho (Nat.le_refl _))
  have OX := Lib.hid (Bw.Own.mono ho B.out.size)
  have V := Lib.hid (V.out.below hb)
  have V2 := Lib.hid (V2.out.below hb)
  have OW := Lib.hid (OW.out.below hb)
  have B := Lib.hid (B.out.trans (hb.mono B.out.size))
  clear ho hb
  go_wp2_with fail
  (with_reducible refine (toIntS_own _ ys _ V2.out hy).mono ?_)
  rintro e w2 ⟨r5, rfl, ho, hb⟩
  have AWY := Lib.hid (Bw.Own.apart OW.out ho (Nat.le_refl _))
  have AXY := Lib.hid (Bw.Own.apart' OX.out ho (Nat.le_refl _))
  have OY := Lib.hid (Bw.Own.mono ho B.out.size)
  have V := Lib.hid (V.out.below hb)
  have V2 := Lib.hid (V2.out.below hb)
  have OW := Lib.hid (OW.out.below hb)
  have OX := Lib.hid (OX.out.below hb)
  have B := Lib.hid (B.out.trans (hb.mono B.out.size))
  clear ho hb
  go_wp2_with fail
  (with_reducible refine (impl_OrderThen_any _ _ xs ys out _ OX.out.reads OY.out.reads hx hy HR).mono ?_)
  rintro e w2 ⟨r6, rfl, ho, hb⟩
  have AWG := Lib.hid (Bw.Own.apart OW.out ho (Nat.le_refl _))
  have AXG := Lib.hid (Bw.Own.apart' OX.out ho (Nat.le_refl _))
  have AYG := Lib.hid (Bw.Own.apart' OY.out ho (Nat.le_refl _))
  have OG := Lib.hid (Bw.Own.mono ho B.out.size)
  have V := Lib.hid (V.out.below hb)
  have V2 := Lib.hid (V2.out.below hb)
  have OW := Lib.hid (OW.out.below hb)
  have OX := Lib.hid (OX.out.below hb)
  have OY := Lib.hid (OY.out.below hb)
  have B := Lib.hid (B.out.trans (hb.mono B.out.size))
  clear ho hb
  go_wp2_with fail
  (with_reducible refine (eqIntS_any _ _ out out _ OG.out.reads OW.out.reads (by omega)).mono ?_)
  rintro e w2 ⟨rfl, hb⟩
  have V := Lib.hid (V.out.below hb)
  have V2 := Lib.hid (V2.out.below hb)
  have OW := Lib.hid (OW.out.below hb)
  have OX := Lib.hid (OX.out.below hb)
  have OY := Lib.hid (OY.out.below hb)
  have OG := Lib.hid (OG.out.below hb)
  have B := Lib.hid (B.out.trans (hb.mono B.out.size))
  clear hb
  go_wp2_with fail
  (with_reducible refine (toIntS_own _ xs _ V.out hx).mono ?_)
  rintro e w2 ⟨r7, rfl, ho, hb⟩
  have T3 := Lib.hid (Bw.Own.mono ho B.out.size)
  have V := Lib.hid (V.out.below hb)
  have V2 := Lib.hid (V2.out.below hb)
  have OW := Lib.hid (OW.out.below hb)
  have OX := Lib.hid (OX.out.below hb)
  have OY := Lib.hid (OY.out.below hb)
  have OG := Lib.hid (OG.out.below hb)
  have B := Lib.hid (B.out.trans (hb.mono B.out.size))
  clear ho hb
  go_wp2_with fail
  (with_reducible refine (eqIntS_any _ _ xs xs _ OX.out.reads T3.out.reads hx).mono ?_)
  rintro e w2 ⟨rfl, hb⟩
  have V := Lib.hid (V.out.below hb)
  have V2 := Lib.hid (V2.out.below hb)
  have OW := Lib.hid (OW.out.below hb)
  have OX := Lib.hid (OX.out.below hb)
  have OY := Lib.hid (OY.out.below hb)
  have OG := Lib.hid (OG.out.below hb)
  have B := Lib.hid (B.out.trans (hb.mono B.out.size))
  clear hb
  go_wp2_with fail
  (with_reducible refine (toIntS_own _ ys _ V2.out hy).mono ?_)
  rintro e w2 ⟨r8, rfl, ho, hb⟩
  have T4 := Lib.hid (Bw.Own.mono ho B.out.size)
  have V := Lib.hid (V.out.below hb)
  have V2 := Lib.hid (V2.out.below hb)
  have OW := Lib.hid (OW.out.below hb)
  have OX := Lib.hid (OX.out.below hb)
  have OY := Lib.hid (OY.out.below hb)
  have OG := Lib.hid (OG.out.below hb)
  have B := Lib.hid (B.out.trans (hb.mono B.out.size))
  clear ho hb
  go_wp2_with fail
  (with_reducible refine (eqIntS_any _ _ ys ys _ OY.out.reads T4.out.reads hy).mono ?_)
  rintro e w2 ⟨rfl, hb⟩
  have V := Lib.hid (V.out.below hb)
  have V2 := Lib.hid (V2.out.below hb)
  have OW := Lib.hid (OW.out.below hb)
  have OX := Lib.hid (OX.out.below hb)
  have OY := Lib.hid (OY.out.below hb)
  have OG := Lib.hid (OG.out.below hb)
  have B := Lib.hid (B.out.trans (hb.mono B.out.size))
  clear hb
  have HM1 : Hid (∀ w, Bw.Own 3 W.heap.size w r4 xs → Calls Try.prog 27 #[r4, .int .i64 1] w fun e w' => e = .returned (.int .i64 ((xs.length + 1 : Nat) : Int)) ∧ Bw.Own 3 W.heap.size w' r4 (Bw.marks xs.length 1) ∧ w.grownBy w' r4.ownBlock) := fun w h => markIntS_any r4 xs 1 _ w h hx (by omega)
  have HM3 : Hid (∀ w, Bw.Own 3 W.heap.size w r6 out → Calls Try.prog 27 #[r6, .int .i64 1] w fun e w' => e = .returned (.int .i64 ((out.length + 1 : Nat) : Int)) ∧ Bw.Own 3 W.heap.size w' r6 (Bw.marks out.length 1) ∧ w.grownBy w' r6.ownBlock) := fun w h => markIntS_any r6 out 1 _ w h (by omega) (by omega)
  have HH : Hid (∀ w, Bw.Reads w r6 (Bw.marks out.length 1) → Calls Try.prog 28 #[r6, .int .i64 1] w fun e w' => e = .returned (.int .i64 ((out.length + 1 : Nat) : Int)) ∧ Below w.heap.size w w') := fun w h => heldIntS_any r6 out.length 1 w h (by omega) (by omega)
  obtain ⟨n1, hn1⟩ : ∃ n, xs.length + 1 = n := ⟨_, rfl⟩
  obtain ⟨n2, hn2⟩ : ∃ n, ys.length + n1 = n := ⟨_, rfl⟩
  obtain ⟨n3, hn3⟩ : ∃ n, out.length + 1 = n := ⟨_, rfl⟩
  have HM2 := Lib.hid (fun w h => hn2 ▸ markIntS_any r5 ys n1 W.heap.size w h hy (by omega))
  have hb1 : n1 ≤ 2000000 := by omega
  have hb2 : n2 ≤ 4000000 := by omega
  have hb3 : n3 ≤ 13 := by omega
  rw [hn1] at HM1
  rw [hn3] at HM3 HH
  clear hn1 hn2 hn3
  go_wp2_with fail
  (with_reducible refine (HM1.out _ OX.out).mono ?_)
  rintro e w2 ⟨rfl, ho, hg⟩
  have OX2 := Lib.hid ho
  have OW := Lib.hid (OW.out.grown hg AWX.out)
  have OY := Lib.hid (OY.out.grown hg AXY.out)
  have OG := Lib.hid (OG.out.grown hg AXG.out)
  have B := Lib.hid (B.out.grown hg B.out.size (fun k e => (OX.out.ge k e).1))
  clear ho hg
  go_wp2_with fail
  (with_reducible refine (HM2.out _ OY.out).mono ?_)
  rintro e w2 ⟨rfl, ho, hg⟩
  have OY2 := Lib.hid ho
  have OW := Lib.hid (OW.out.grown hg AWY.out)
  have OG := Lib.hid (OG.out.grown hg AYG.out)
  have B := Lib.hid (B.out.grown hg B.out.size (fun k e => (OY.out.ge k e).1))
  clear ho hg
  have V := Lib.hid (hv0.out.below B.out)
  have V2 := Lib.hid (hv20.out.below B.out)
  go_wp2_with fail
  (with_reducible refine (eqIntS_any _ _ out out _ OG.out.reads OW.out.reads (by omega)).mono ?_)
  rintro e w2 ⟨rfl, hb⟩
  have V := Lib.hid (V.out.below hb)
  have V2 := Lib.hid (V2.out.below hb)
  have OW := Lib.hid (OW.out.below hb)
  have OG := Lib.hid (OG.out.below hb)
  have B := Lib.hid (B.out.trans (hb.mono B.out.size))
  clear hb
  go_wp2_with fail
  (with_reducible refine (HM3.out _ OG.out).mono ?_)
  rintro e w2 ⟨rfl, ho, hg⟩
  have OG2 := Lib.hid ho
  have OW := Lib.hid (OW.out.grown hg AWG.out)
  have B := Lib.hid (B.out.grown hg B.out.size (fun k e => (OG.out.ge k e).1))
  clear ho hg
  have V := Lib.hid (hv0.out.below B.out)
  have V2 := Lib.hid (hv20.out.below B.out)
  go_wp2_with fail
  (with_reducible refine (HH.out _ OG2.out.reads).mono ?_)
  rintro e w2 ⟨rfl, hb⟩
  have V := Lib.hid (V.out.below hb)
  have V2 := Lib.hid (V2.out.below hb)
  have OW := Lib.hid (OW.out.below hb)
  have OG2 := Lib.hid (OG2.out.below hb)
  have B := Lib.hid (B.out.trans (hb.mono B.out.size))
  clear hb
  go_wp2_with fail
  (with_reducible refine (toIntS_own _ xs _ V.out hx).mono ?_)
  rintro e w2 ⟨r9, rfl, ho, hb⟩
  have T5 := Lib.hid (Bw.Own.mono ho B.out.size)
  have V := Lib.hid (V.out.below hb)
  have V2 := Lib.hid (V2.out.below hb)
  have OW := Lib.hid (OW.out.below hb)
  have OG2 := Lib.hid (OG2.out.below hb)
  have B := Lib.hid (B.out.trans (hb.mono B.out.size))
  clear ho hb
  go_wp2_with fail
  (with_reducible refine (toIntS_own _ ys _ V2.out hy).mono ?_)
  rintro e w2 ⟨r10, rfl, ho, hb⟩
  have T6 := Lib.hid (Bw.Own.mono ho B.out.size)
  have V := Lib.hid (V.out.below hb)
  have V2 := Lib.hid (V2.out.below hb)
  have OW := Lib.hid (OW.out.below hb)
  have OG2 := Lib.hid (OG2.out.below hb)
  have T5 := Lib.hid (T5.out.below hb)
  have B := Lib.hid (B.out.trans (hb.mono B.out.size))
  clear ho hb
  go_wp2_with fail
  (with_reducible refine (impl_OrderThen_any _ _ xs ys out _ T5.out.reads T6.out.reads hx hy HR).mono ?_)
  rintro e w2 ⟨r11, rfl, ho, hb⟩
  have OH := Lib.hid (Bw.Own.mono ho B.out.size)
  have V := Lib.hid (V.out.below hb)
  have V2 := Lib.hid (V2.out.below hb)
  have OW := Lib.hid (OW.out.below hb)
  have OG2 := Lib.hid (OG2.out.below hb)
  have B := Lib.hid (B.out.trans (hb.mono B.out.size))
  clear ho hb
  go_wp2_with fail
  (with_reducible refine (eqIntS_any _ _ out out _ OH.out.reads OW.out.reads (by omega)).mono ?_)
  rintro e w2 ⟨rfl, hb⟩
  have OG2 := Lib.hid (OG2.out.below hb)
  have B := Lib.hid (B.out.trans (hb.mono B.out.size))
  clear hb
  go_wp2_with fail
  (with_reducible refine (HH.out _ OG2.out.reads).mono ?_)
  rintro e w2 ⟨rfl, hb⟩
  have OG2 := Lib.hid (OG2.out.below hb)
  have B := Lib.hid (B.out.trans (hb.mono B.out.size))
  clear hb
  go_wp2_with fail
  go_ret
  exact ⟨rfl, B.out⟩

end Go.Proofs.Ytknchojfhpchiab
