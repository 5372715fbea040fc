/- The walk of the law that both agree on rounds of orders. -/
import Derived.Test.YtknchojfhpchiacFnOrdE

namespace Go.Proofs.Ytknchojfhpchiac
open Go.RowKit
set_option linter.unusedVariables false

set_option maxRecDepth 100000 in
set_option maxHeartbeats 1000000 in
theorem law_FnExactRoundsOf (W : World) (a0 : Option Addr) (len0 cap0 : Nat) (z0 : List Int) (w0 : Bw.IsRow .i64 W a0 len0 cap0 z0) :
    Calls Try.prog 5 #[.slice a0 len0 cap0] W fun e w' => e = .returned (.bool true) ∧ Below W.heap.size W w' := by
  have hv := w0.reads
  obtain ⟨hl, hm⟩ := w0.len
  clear w0
  generalize hz : z0.take len0 = xs at *
  clear hz
  by_cases hbig : 1048576 < len0
  · go_enter Try.func5, Try.ntmps5
    go_wp2_with fail
    go_ret
    exact ⟨rfl, Below.refl _ _⟩
  have hs : len0 ≤ 1048576 := by omega
  have hx : xs.length ≤ 1048576 := by omega
  obtain ⟨out, ho⟩ := Bw.roundsIs_some xs
  have ho12 := ho.len
  have HR := Lib.hid ho
  have V := Lib.hid hv
  have hv0 := V
  have B := Lib.hid (Below.refl W.heap.size W)
  clear ho hv hl hbig
  go_enter Try.func5, Try.ntmps5
  go_wp2_with fail
  (with_reducible refine (toIntS_own _ xs _ V.out hx).mono ?_)
  rintro e w2 ⟨r1, rfl, ho, hb⟩
  have T1 := Lib.hid (Bw.Own.mono ho B.out.size)
  have V := Lib.hid (V.out.below hb)
  have B := Lib.hid (B.out.trans (hb.mono B.out.size))
  clear ho hb
  go_wp2_with fail
  (with_reducible refine (spec_RoundsOf_any _ xs out _ T1.out.reads hx HR).mono ?_)
  rintro e w2 ⟨r3, rfl, ho, hb⟩
  have OW := Lib.hid (Bw.Own.mono ho B.out.size)
  have V := Lib.hid (V.out.below hb)
  have B := Lib.hid (B.out.trans (hb.mono B.out.size))
  clear ho hb
  go_wp2_with fail
  (with_reducible refine (toIntS_own _ xs _ V.out hx).mono ?_)
  rintro e w2 ⟨r4, rfl, ho, hb⟩
  have AWX := Lib.hid (Bw.Own.apart OW.out ho (Nat.le_refl _))
  have OX := Lib.hid (Bw.Own.mono ho B.out.size)
  have V := Lib.hid (V.out.below hb)
  have OW := Lib.hid (OW.out.below hb)
  have B := Lib.hid (B.out.trans (hb.mono B.out.size))
  clear ho hb
  go_wp2_with fail
  (with_reducible refine (impl_RoundsOf_any _ xs out _ OX.out.reads hx HR).mono ?_)
  rintro e w2 ⟨r6, rfl, ho, hb⟩
  have AWG := Lib.hid (Bw.Own.apart OW.out ho (Nat.le_refl _))
  have AXG := Lib.hid (Bw.Own.apart' OX.out ho (Nat.le_refl _))
  have OG := Lib.hid (Bw.Own.mono ho B.out.size)
  have V := Lib.hid (V.out.below hb)
  have OW := Lib.hid (OW.out.below hb)
  have OX := Lib.hid (OX.out.below hb)
  have B := Lib.hid (B.out.trans (hb.mono B.out.size))
  clear ho hb
  go_wp2_with fail
  (with_reducible refine (eqIntS_any _ _ out out _ OG.out.reads OW.out.reads (by omega)).mono ?_)
  rintro e w2 ⟨rfl, hb⟩
  have V := Lib.hid (V.out.below hb)
  have OW := Lib.hid (OW.out.below hb)
  have OX := Lib.hid (OX.out.below hb)
  have OG := Lib.hid (OG.out.below hb)
  have B := Lib.hid (B.out.trans (hb.mono B.out.size))
  clear hb
  go_wp2_with fail
  (with_reducible refine (toIntS_own _ xs _ V.out hx).mono ?_)
  rintro e w2 ⟨r7, rfl, ho, hb⟩
  have T3 := Lib.hid (Bw.Own.mono ho B.out.size)
  have V := Lib.hid (V.out.below hb)
  have OW := Lib.hid (OW.out.below hb)
  have OX := Lib.hid (OX.out.below hb)
  have OG := Lib.hid (OG.out.below hb)
  have B := Lib.hid (B.out.trans (hb.mono B.out.size))
  clear ho hb
  go_wp2_with fail
  (with_reducible refine (eqIntS_any _ _ xs xs _ OX.out.reads T3.out.reads hx).mono ?_)
  rintro e w2 ⟨rfl, hb⟩
  have V := Lib.hid (V.out.below hb)
  have OW := Lib.hid (OW.out.below hb)
  have OX := Lib.hid (OX.out.below hb)
  have OG := Lib.hid (OG.out.below hb)
  have B := Lib.hid (B.out.trans (hb.mono B.out.size))
  clear hb
  have HM1 : Hid (∀ w, Bw.Own 3 W.heap.size w r4 xs → Calls Try.prog 15 #[r4, .int .i64 1] w fun e w' => e = .returned (.int .i64 ((xs.length + 1 : Nat) : Int)) ∧ Bw.Own 3 W.heap.size w' r4 (Bw.marks xs.length 1) ∧ w.grownBy w' r4.ownBlock) := fun w h => markIntS_any r4 xs 1 _ w h hx (by omega)
  have HM3 : Hid (∀ w, Bw.Own 3 W.heap.size w r6 out → Calls Try.prog 15 #[r6, .int .i64 1] w fun e w' => e = .returned (.int .i64 ((out.length + 1 : Nat) : Int)) ∧ Bw.Own 3 W.heap.size w' r6 (Bw.marks out.length 1) ∧ w.grownBy w' r6.ownBlock) := fun w h => markIntS_any r6 out 1 _ w h (by omega) (by omega)
  have HH : Hid (∀ w, Bw.Reads w r6 (Bw.marks out.length 1) → Calls Try.prog 16 #[r6, .int .i64 1] w fun e w' => e = .returned (.int .i64 ((out.length + 1 : Nat) : Int)) ∧ Below w.heap.size w w') := fun w h => heldIntS_any r6 out.length 1 w h (by omega) (by omega)
  obtain ⟨n1, hn1⟩ : ∃ n, xs.length + 1 = n := ⟨_, rfl⟩
  obtain ⟨n3, hn3⟩ : ∃ n, out.length + 1 = n := ⟨_, rfl⟩
  have hb1 : n1 ≤ 2000000 := by omega
  have hb3 : n3 ≤ 13 := by omega
  rw [hn1] at HM1
  rw [hn3] at HM3 HH
  clear hn1 hn3
  go_wp2_with fail
  (with_reducible refine (HM1.out _ OX.out).mono ?_)
  rintro e w2 ⟨rfl, ho, hg⟩
  have OX2 := Lib.hid ho
  have OW := Lib.hid (OW.out.grown hg AWX.out)
  have OG := Lib.hid (OG.out.grown hg AXG.out)
  have B := Lib.hid (B.out.grown hg B.out.size (fun k e => (OX.out.ge k e).1))
  clear ho hg
  have V := Lib.hid (hv0.out.below B.out)
  go_wp2_with fail
  (with_reducible refine (eqIntS_any _ _ out out _ OG.out.reads OW.out.reads (by omega)).mono ?_)
  rintro e w2 ⟨rfl, hb⟩
  have V := Lib.hid (V.out.below hb)
  have OW := Lib.hid (OW.out.below hb)
  have OG := Lib.hid (OG.out.below hb)
  have B := Lib.hid (B.out.trans (hb.mono B.out.size))
  clear hb
  go_wp2_with fail
  (with_reducible refine (HM3.out _ OG.out).mono ?_)
  rintro e w2 ⟨rfl, ho, hg⟩
  have OG2 := Lib.hid ho
  have OW := Lib.hid (OW.out.grown hg AWG.out)
  have B := Lib.hid (B.out.grown hg B.out.size (fun k e => (OG.out.ge k e).1))
  clear ho hg
  have V := Lib.hid (hv0.out.below B.out)
  go_wp2_with fail
  (with_reducible refine (HH.out _ OG2.out.reads).mono ?_)
  rintro e w2 ⟨rfl, hb⟩
  have V := Lib.hid (V.out.below hb)
  have OW := Lib.hid (OW.out.below hb)
  have OG2 := Lib.hid (OG2.out.below hb)
  have B := Lib.hid (B.out.trans (hb.mono B.out.size))
  clear hb
  go_wp2_with fail
  (with_reducible refine (toIntS_own _ xs _ V.out hx).mono ?_)
  rintro e w2 ⟨r9, rfl, ho, hb⟩
  have T5 := Lib.hid (Bw.Own.mono ho B.out.size)
  have V := Lib.hid (V.out.below hb)
  have OW := Lib.hid (OW.out.below hb)
  have OG2 := Lib.hid (OG2.out.below hb)
  have B := Lib.hid (B.out.trans (hb.mono B.out.size))
  clear ho hb
  go_wp2_with fail
  (with_reducible refine (impl_RoundsOf_any _ xs out _ T5.out.reads hx HR).mono ?_)
  rintro e w2 ⟨r11, rfl, ho, hb⟩
  have OH := Lib.hid (Bw.Own.mono ho B.out.size)
  have V := Lib.hid (V.out.below hb)
  have OW := Lib.hid (OW.out.below hb)
  have OG2 := Lib.hid (OG2.out.below hb)
  have B := Lib.hid (B.out.trans (hb.mono B.out.size))
  clear ho hb
  go_wp2_with fail
  (with_reducible refine (eqIntS_any _ _ out out _ OH.out.reads OW.out.reads (by omega)).mono ?_)
  rintro e w2 ⟨rfl, hb⟩
  have OG2 := Lib.hid (OG2.out.below hb)
  have B := Lib.hid (B.out.trans (hb.mono B.out.size))
  clear hb
  go_wp2_with fail
  (with_reducible refine (HH.out _ OG2.out.reads).mono ?_)
  rintro e w2 ⟨rfl, hb⟩
  have OG2 := Lib.hid (OG2.out.below hb)
  have B := Lib.hid (B.out.trans (hb.mono B.out.size))
  clear hb
  go_wp2_with fail
  go_ret
  exact ⟨rfl, B.out⟩

end Go.Proofs.Ytknchojfhpchiac
