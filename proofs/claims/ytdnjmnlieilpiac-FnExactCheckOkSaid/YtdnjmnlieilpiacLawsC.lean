/- The walks of the exact laws on rests of messages. -/
import Derived.Test.YtdnjmnlieilpiacCheck

namespace Go.Proofs.Ytdnjmnlieilpiac
open Go.RowKit
set_option linter.unusedVariables false

theorem law_FnExactCheckOk (W : World) (a0 : Option Addr) (len0 cap0 : Nat) (z0 : List Int) (w0 : Bw.IsRow .i64 W a0 len0 cap0 z0) (p : Int) (_ : (Lit.int .i64 p).wf = true) (s : Int) (_ : (Lit.int .i64 s).wf = true) :
    Calls Try.prog 3 #[.slice a0 len0 cap0, .int .i64 p, .int .i64 s] W fun e w' => e = .returned (.bool true) ∧ Below W.heap.size W w' := by
  have hv := w0.reads
  obtain ⟨hl, hm⟩ := w0.len
  clear w0
  generalize hz : z0.take len0 = zs at *
  clear hz
  by_cases hbig : 1048576 < len0
  · go_enter Try.func3, Try.ntmps3
    go_wp2_with fail
    go_ret
    exact ⟨rfl, Below.refl _ _⟩
  · have hs : len0 ≤ 1048576 := by omega
    have hs2 : zs.length ≤ 1048576 := by omega
    obtain ⟨r, hr⟩ := Bw.checkIs_some zs p
    have HR := Lib.hid hr
    have HV := Lib.hid hv
    obtain ⟨t, ht⟩ : ∃ t, t = decide (0 ≤ r ∧ r = s) := ⟨_, rfl⟩
    have HT := Lib.hid ht
    clear hr hv hl hbig ht
    go_enter Try.func3, Try.ntmps3
    go_wp2_with fail
    refine (toIntS_any _ zs _ HV.out hs2).mono ?_
    rintro e w1 ⟨r1, rfl, ho1, hb1⟩
    have HO1 := Lib.hid (Bw.Reads.of_owns ho1).1
    have HV1 := Lib.hid (HV.out.below hb1)
    have HB1 := Lib.hid hb1
    clear ho1 hb1
    go_wp2_with fail
    refine (spec_CheckOk_any _ zs p s _ HO1.out r HR t HT).mono ?_
    rintro e w' ⟨rfl, rfl⟩
    go_wp2_with fail
    refine (toIntS_any _ zs _ HV1.out hs2).mono ?_
    rintro e w2 ⟨r2, rfl, ho2, hb2⟩
    have HO2 := Lib.hid (Bw.Reads.of_owns ho2).1
    have HV2 := Lib.hid (HV1.out.below hb2)
    have HB2 := Lib.hid (HB1.out.trans (hb2.mono HB1.out.size))
    clear ho2 hb2 HB1 HV1 HO1
    go_wp2_with fail
    refine (impl_CheckOk_any _ zs p s _ HO2.out r HR t HT).mono ?_
    rintro e w' ⟨rfl, rfl⟩
    go_wp2_with fail
    refine (toIntS_any _ zs _ HV2.out hs2).mono ?_
    rintro e w3 ⟨r3, rfl, ho3, hb3⟩
    have HO3 := Lib.hid (Bw.Reads.of_owns ho3).1
    have HO4 := Lib.hid (HO2.out.below hb3)
    have HB3 := Lib.hid (HB2.out.trans (hb3.mono HB2.out.size))
    clear ho3 hb3 HB2 HV2 HO2
    go_wp2_with fail
    refine (eqIntS_any _ _ zs zs _ HO4.out HO3.out hs2).mono ?_
    rintro e w4 ⟨rfl, hb4⟩
    have HB4 := Lib.hid (HB3.out.trans (hb4.mono HB3.out.size))
    clear hb4 HB3
    simp only [decide_true]
    go_wp2_with fail
    go_ret
    exact ⟨rfl, HB4.out⟩

end Go.Proofs.Ytdnjmnlieilpiac
