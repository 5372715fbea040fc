/- The walks of the laws on gathered and scattered bits. -/
import Derived.Test.YtbknmokoegembabDoorGatC
import Derived.Test.YtbknmokoegembabDoorGatL
import Derived.Test.YtbknmokoegembabDoorMDrawA
import Derived.Test.YtbknmokoegembabDoorMFnG
import Derived.Test.YtbknmokoegembabDoorMFnH

namespace Go.Proofs.YtbknmokoegembabDoor
open Go.RowKit
set_option linter.unusedVariables false

set_option maxRecDepth 100000 in
set_option maxHeartbeats 1000000 in
theorem law_FnGather (w : World) (a : Option Addr) (n cap : Nat) (zs : List Int) (h : Bw.IsRow .u8 w a n cap zs) (hT : TabLies w) :
    Calls Tryd.prog 6 #[.slice a n cap] w fun e w' => e = .returned (.bool true) ∧ Below w.heap.size w w' := by
  have hc := code_of_row h
  have hlen := h.len.2
  have HC := Lib.hid hc
  have HT := Lib.hid hT
  clear h hc hT
  by_cases hbig : 1048576 < n
  · go_enter Tryd.func6, Tryd.ntmps6
    go_wp2_with fail
    go_ret
    exact ⟨rfl, Below.refl _ _⟩
  have hs : n ≤ 1048576 := by omega
  clear hbig
  go_enter Tryd.func6, Tryd.ntmps6
  go_wp2_with fail
  refine (DrawGather_any a n cap _ HC.out).mono ?_
  rintro e w1 ⟨n, x, m, rfl, hP, hb⟩
  have B := Lib.hid hb
  have HT := Lib.hid (HT.out.below hb)
  clear hb hP
  by_cases h : WordOk n x ∧ WordOk n m
  · obtain ⟨n, x, m, rfl, rfl, rfl⟩ := words_nat h.1 h.2
    have hx := Lib.hid h.1
    have hm := Lib.hid h.2
    have hw := h.1.1
    clear h
    have hxl := gword_lt hx.out
    have hml := gword_lt hm.out
    have hn : n ≤ 12 := by omega
    have hyl := Bw.gth_lt2 x m n
    have hyc := Bw.gth_lt x m n
    have hcn := Bw.pc_le m n
    have hy := Lib.hid (gword_ok (show 1 ≤ n by omega) hn hyl)
    have C1 := Lib.hid (fun w h => impl_Gather_yes n x m w hx hm h)
    have C2 := Lib.hid (fun w => spec_Gather_yes n x m w hx hm)
    have C3 := Lib.hid (fun w h => Bw.sct_gth x m n hxl ▸ impl_Scatter_yes n (Bw.gth x m n) m w hy hm h)
    have C4 := Lib.hid (fun w => WordAnd_yes n x m w hx hm)
    have C5 := Lib.hid (fun w => impl_OnesOf_yes n m w hm)
    obtain ⟨y, hyy⟩ : ∃ y, Bw.gth x m n = y := ⟨_, rfl⟩
    obtain ⟨z, hzz⟩ : ∃ z, x &&& m = z := ⟨_, rfl⟩
    obtain ⟨c, hcc⟩ : ∃ c, Bw.pc m n = c := ⟨_, rfl⟩
    rw [hyy] at C1 C2 C3 hyc
    rw [hzz] at C3 C4
    rw [hcc] at C5 hyc hcn
    have hc12 : c ≤ 12 := by omega
    obtain ⟨q, hq⟩ : ∃ q, 2 ^ c = q := ⟨_, rfl⟩
    have hwq := wrap_pow hc12 hq
    rw [hq] at hyc
    clear hyy hzz hcc hxl hml hyl hy hq hcn hw hn
    go_wp2_with fail
    (with_reducible refine (C1.out _ HT).mono ?_)
    rintro e w2 ⟨rfl, hb⟩
    have HT := Lib.hid (HT.out.below hb)
    have B := Lib.hid (B.out.trans (hb.mono B.out.size))
    clear hb
    go_wp2_with fail
    (with_reducible refine (C2.out _).mono ?_)
    rintro e w2 ⟨rfl, hb⟩
    have HT := Lib.hid (HT.out.below hb)
    have B := Lib.hid (B.out.trans (hb.mono B.out.size))
    clear hb
    go_wp2_with fail
    (with_reducible refine (C3.out _ HT).mono ?_)
    rintro e w2 ⟨rfl, hb⟩
    have HT := Lib.hid (HT.out.below hb)
    have B := Lib.hid (B.out.trans (hb.mono B.out.size))
    clear hb
    go_wp2_with fail
    (with_reducible refine (C4.out _).mono ?_)
    rintro e w2 ⟨rfl, hb⟩
    have HT := Lib.hid (HT.out.below hb)
    have B := Lib.hid (B.out.trans (hb.mono B.out.size))
    clear hb
    go_wp2_with (go_at_call 27; ((with_reducible refine (C5.out _).mono ?_); rintro e w' ⟨rfl, rfl⟩))
    go_ret
    exact ⟨ret_bool (by simp), B.out⟩
  · have hno := not_two h
    clear h
    go_wp2_with fail
    (with_reducible refine (impl_Gather_no n x m _ hno).mono ?_)
    rintro e w2 ⟨rfl, hb⟩
    have HT := Lib.hid (HT.out.below hb)
    have B := Lib.hid (B.out.trans (hb.mono B.out.size))
    clear hb
    go_wp2_with fail
    (with_reducible refine (spec_Gather_no n x m _ hno).mono ?_)
    rintro e w2 ⟨rfl, hb⟩
    have HT := Lib.hid (HT.out.below hb)
    have B := Lib.hid (B.out.trans (hb.mono B.out.size))
    clear hb
    go_wp2_with fail
    refine (alive_any _).mono ?_
    rintro e w2 ⟨rfl, hb2⟩
    have HB2 := Lib.hid hb2
    clear hb2
    go_wp2_with fail
    go_ret
    exact ⟨rfl, B.out.trans (HB2.out.mono B.out.size)⟩

set_option maxRecDepth 100000 in
set_option maxHeartbeats 1000000 in
theorem law_FnScatter (w : World) (a : Option Addr) (n cap : Nat) (zs : List Int) (h : Bw.IsRow .u8 w a n cap zs) (hT : TabLies w) :
    Calls Tryd.prog 7 #[.slice a n cap] w fun e w' => e = .returned (.bool true) ∧ Below w.heap.size w w' := by
  have hc := code_of_row h
  have hlen := h.len.2
  have HC := Lib.hid hc
  have HT := Lib.hid hT
  clear h hc hT
  by_cases hbig : 1048576 < n
  · go_enter Tryd.func7, Tryd.ntmps7
    go_wp2_with fail
    go_ret
    exact ⟨rfl, Below.refl _ _⟩
  have hs : n ≤ 1048576 := by omega
  clear hbig
  go_enter Tryd.func7, Tryd.ntmps7
  go_wp2_with fail
  refine (DrawScatter_any a n cap _ HC.out).mono ?_
  rintro e w1 ⟨n, x, m, rfl, hP, hb⟩
  have B := Lib.hid hb
  have HT := Lib.hid (HT.out.below hb)
  clear hb hP
  by_cases h : WordOk n x ∧ WordOk n m
  · obtain ⟨n, x, m, rfl, rfl, rfl⟩ := words_nat h.1 h.2
    have hx := Lib.hid h.1
    have hm := Lib.hid h.2
    have hw := h.1.1
    clear h
    have hxl := gword_lt hx.out
    have hml := gword_lt hm.out
    have hn : n ≤ 12 := by omega
    have hyl := Bw.sct_lt x m n
    have hcn := Bw.pc_le m n
    have hy := Lib.hid (gword_ok (show 1 ≤ n by omega) hn hyl)
    have C1 := Lib.hid (fun w h => impl_Scatter_yes n x m w hx hm h)
    have C2 := Lib.hid (fun w => spec_Scatter_yes n x m w hx hm)
    have C3 := Lib.hid (fun w h => Bw.gth_sct x m n ▸ impl_Gather_yes n (Bw.sct x m n) m w hy hm h)
    have C4 := Lib.hid (fun w => Bw.sct_and x m n ▸ WordAnd_yes n (Bw.sct x m n) m w hy hm)
    have C5 := Lib.hid (fun w => impl_OnesOf_yes n m w hm)
    obtain ⟨c, hcc⟩ : ∃ c, Bw.pc m n = c := ⟨_, rfl⟩
    rw [hcc] at C3 C5 hcn
    have hc12 : c ≤ 12 := by omega
    obtain ⟨q, hq⟩ : ∃ q, 2 ^ c = q := ⟨_, rfl⟩
    have hwq := wrap_pow hc12 hq
    have hqb := wbd hc12
    rw [hq] at C3 hqb
    obtain ⟨y, hyy⟩ : ∃ y, Bw.sct x m n = y := ⟨_, rfl⟩
    rw [hyy] at C1 C2 C3 C4
    obtain ⟨r, hrr⟩ : ∃ r, x % q = r := ⟨_, rfl⟩
    rw [hrr] at C3
    have hmod : (x : Int) % (q : Int) = (r : Int) := by rw [← hrr]; simp
    clear hyy hcc hxl hml hyl hy hq hcn hw hn hrr
    go_wp2_with fail
    (with_reducible refine (C1.out _ HT).mono ?_)
    rintro e w2 ⟨rfl, hb⟩
    have HT := Lib.hid (HT.out.below hb)
    have B := Lib.hid (B.out.trans (hb.mono B.out.size))
    clear hb
    go_wp2_with fail
    (with_reducible refine (C2.out _).mono ?_)
    rintro e w2 ⟨rfl, hb⟩
    have HT := Lib.hid (HT.out.below hb)
    have B := Lib.hid (B.out.trans (hb.mono B.out.size))
    clear hb
    go_wp2_with fail
    (with_reducible refine (C3.out _ HT).mono ?_)
    rintro e w2 ⟨rfl, hb⟩
    have HT := Lib.hid (HT.out.below hb)
    have B := Lib.hid (B.out.trans (hb.mono B.out.size))
    clear hb
    go_wp2_with (go_at_call 27; ((with_reducible refine (C5.out _).mono ?_); rintro e w' ⟨rfl, rfl⟩))
    go_wp2_with fail
    (with_reducible refine (C4.out _).mono ?_)
    rintro e w2 ⟨rfl, hb⟩
    have HT := Lib.hid (HT.out.below hb)
    have B := Lib.hid (B.out.trans (hb.mono B.out.size))
    clear hb
    go_wp2_with fail
    go_ret
    exact ⟨ret_bool (by simp), B.out⟩
  · have hno := not_two h
    clear h
    go_wp2_with fail
    (with_reducible refine (impl_Scatter_no n x m _ hno).mono ?_)
    rintro e w2 ⟨rfl, hb⟩
    have HT := Lib.hid (HT.out.below hb)
    have B := Lib.hid (B.out.trans (hb.mono B.out.size))
    clear hb
    go_wp2_with fail
    (with_reducible refine (spec_Scatter_no n x m _ hno).mono ?_)
    rintro e w2 ⟨rfl, hb⟩
    have HT := Lib.hid (HT.out.below hb)
    have B := Lib.hid (B.out.trans (hb.mono B.out.size))
    clear hb
    go_wp2_with fail
    refine (alive_any _).mono ?_
    rintro e w2 ⟨rfl, hb2⟩
    have HB2 := Lib.hid hb2
    clear hb2
    go_wp2_with fail
    go_ret
    exact ⟨rfl, B.out.trans (HB2.out.mono B.out.size)⟩

end Go.Proofs.YtbknmokoegembabDoor
