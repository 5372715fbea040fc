/- The walk of the law on what comes together. -/
import Derived.Test.YtbknmokoegembacDoorTogA
import Derived.Test.YtbknmokoegembacDoorMDrawA

namespace Go.Proofs.YtbknmokoegembacDoor
open Go.RowKit
set_option linter.unusedVariables false

set_option maxRecDepth 100000 in
set_option maxHeartbeats 1000000 in
theorem law_FnTogether (w : World) (a : Option Addr) (n cap : Nat) (zs : List Int) (h : Bw.IsRow .u8 w a n cap zs) (hT : TabLies w) :
    Calls Tryd.prog 3 #[.slice a n cap] w fun e w' => e = .returned (.bool true) ∧ Below w.heap.size w w' := by
  have hc := code_of_row h
  have hlen := h.len.2
  have HC := Lib.hid hc
  have HT := Lib.hid hT
  clear h hc hT
  by_cases hbig : 1048576 < n
  · go_enter Tryd.func3, Tryd.ntmps3
    go_wp2_with fail
    go_ret
    exact ⟨rfl, Below.refl _ _⟩
  have hs : n ≤ 1048576 := by omega
  clear hbig
  go_enter Tryd.func3, Tryd.ntmps3
  go_wp2_with fail
  refine (DrawTogether_any a n cap _ HC.out).mono ?_
  rintro e w1 ⟨n, x, m, rfl, hP, hb⟩
  have B := Lib.hid hb
  have HT := Lib.hid (HT.out.below hb)
  clear hb hP
  by_cases h : WordOk n x ∧ WordOk n m
  · obtain ⟨n, x, m, rfl, rfl, rfl⟩ := words_nat h.1 h.2
    have hx := Lib.hid h.1
    have hm := Lib.hid h.2
    have hw := h.1.1
    clear h
    have hxl := gword_lt hx.out
    have hml := gword_lt hm.out
    have hyl := Bw.tog_lt hml x
    have hy := Lib.hid (gword_ok (show 1 ≤ n by omega) (show n ≤ 12 by omega) hyl)
    have C1 := Lib.hid (fun w h => impl_Together_yes n x m w hx hm h)
    have C2 := Lib.hid (fun w => spec_Together_yes n x m w hx hm)
    have C3 := Lib.hid (fun w h => Bw.sep_tog hxl hml ▸ impl_Separate_yes n (Bw.tog x m n) m w hy hm h)
    have C4 := Lib.hid (fun w => impl_WordValid_yes n ((Bw.tog x m n : Nat) : Int) w hy)
    obtain ⟨y, hyy⟩ : ∃ y, Bw.tog x m n = y := ⟨_, rfl⟩
    rw [hyy] at C1 C2 C3 C4
    clear hyy hxl hml hyl hy
    go_wp2_with fail
    (with_reducible refine (C1.out _ HT).mono ?_)
    rintro e w2 ⟨rfl, hb⟩
    have HT := Lib.hid (HT.out.below hb)
    have B := Lib.hid (B.out.trans (hb.mono B.out.size))
    clear hb
    go_wp2_with fail
    (with_reducible refine (C2.out _).mono ?_)
    rintro e w2 ⟨rfl, hb⟩
    have HT := Lib.hid (HT.out.below hb)
    have B := Lib.hid (B.out.trans (hb.mono B.out.size))
    clear hb
    go_wp2_with fail
    (with_reducible refine (C3.out _ HT).mono ?_)
    rintro e w2 ⟨rfl, hb⟩
    have HT := Lib.hid (HT.out.below hb)
    have B := Lib.hid (B.out.trans (hb.mono B.out.size))
    clear hb
    go_wp2_with (go_at_call 12; ((with_reducible refine (C4.out _).mono ?_); rintro e w' ⟨rfl, rfl⟩))
    go_ret
    exact ⟨ret_bool (by simp), B.out⟩
  · have hno := not_two h
    clear h
    go_wp2_with fail
    (with_reducible refine (impl_Together_no n x m _ hno).mono ?_)
    rintro e w2 ⟨rfl, hb⟩
    have HT := Lib.hid (HT.out.below hb)
    have B := Lib.hid (B.out.trans (hb.mono B.out.size))
    clear hb
    go_wp2_with fail
    (with_reducible refine (spec_Together_no n x m _ hno).mono ?_)
    rintro e w2 ⟨rfl, hb⟩
    have HT := Lib.hid (HT.out.below hb)
    have B := Lib.hid (B.out.trans (hb.mono B.out.size))
    clear hb
    go_wp2_with fail
    refine (alive_any _).mono ?_
    rintro e w2 ⟨rfl, hb2⟩
    have HB2 := Lib.hid hb2
    clear hb2
    go_wp2_with fail
    go_ret
    exact ⟨rfl, B.out.trans (HB2.out.mono B.out.size)⟩

end Go.Proofs.YtbknmokoegembacDoor
