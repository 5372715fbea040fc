/- The walks of the laws on separated bits and on what comes together. -/
import Derived.Test.YtbknmokoegembaaDoorSepA
import Derived.Test.YtbknmokoegembaaDoorMDrawA
import Derived.Test.YtbknmokoegembaaDoorMFnF
import Derived.Test.YtbknmokoegembaaDoorMFnG

namespace Go.Proofs.YtbknmokoegembaaDoor
open Go.RowKit
set_option linter.unusedVariables false

set_option maxRecDepth 100000 in
set_option maxHeartbeats 1000000 in
theorem law_FnSeparate (w : World) (a : Option Addr) (n cap : Nat) (zs : List Int) (h : Bw.IsRow .u8 w a n cap zs) (hT : TabLies w) :
    Calls Tryd.prog 3 #[.slice a n cap] w fun e w' => e = .returned (.bool true) ∧ Below w.heap.size w w' := by
  have hc := code_of_row h
  have hlen := h.len.2
  have HC := Lib.hid hc
  have HT := Lib.hid hT
  clear h hc hT
  by_cases hbig : 1048576 < n
  · go_enter Tryd.func3, Tryd.ntmps3
    go_wp2_with fail
    go_ret
    exact ⟨rfl, Below.refl _ _⟩
  have hs : n ≤ 1048576 := by omega
  clear hbig
  go_enter Tryd.func3, Tryd.ntmps3
  go_wp2_with fail
  refine (DrawSeparate_any a n cap _ HC.out).mono ?_
  rintro e w1 ⟨n, x, m, rfl, hP, hb⟩
  have B := Lib.hid hb
  have HT := Lib.hid (HT.out.below hb)
  clear hb hP
  by_cases h : WordOk n x ∧ WordOk n m
  · obtain ⟨n, x, m, rfl, rfl, rfl⟩ := words_nat h.1 h.2
    have hx := Lib.hid h.1
    have hm := Lib.hid h.2
    have hw := h.1.1
    clear h
    have hxl := gword_lt hx.out
    have hml := gword_lt hm.out
    have hsl := Bw.sep_lt (x := x) hml
    have hs := Lib.hid (gword_ok (show 1 ≤ n by omega) (show n ≤ 12 by omega) hsl)
    have C1 := Lib.hid (fun w h => impl_Separate_yes n x m w hx hm h)
    have C2 := Lib.hid (fun w => spec_Separate_yes n x m w hx hm)
    have C3 := Lib.hid (fun w h => Bw.tog_sep hxl hml ▸ impl_Together_yes n (Bw.sep x m n) m w hs hm h)
    have C4 := Lib.hid (fun w h => Bw.sep_self hml ▸ impl_Separate_yes n m m w hm hm h)
    have C5 := Lib.hid (fun w => impl_BitsSorted_yes n m w hm)
    have C6 := Lib.hid (fun w => Bw.sep_pc hml x ▸ impl_OnesOf_yes n (Bw.sep x m n) w hs)
    have C7 := Lib.hid (fun w => impl_OnesOf_yes n x w hx)
    obtain ⟨s, hss⟩ : ∃ s, Bw.sep x m n = s := ⟨_, rfl⟩
    obtain ⟨g, hgg⟩ : ∃ g, Bw.greatestOf n (Bw.pc m n) = g := ⟨_, rfl⟩
    obtain ⟨o, hoo⟩ : ∃ o, Bw.pc x n = o := ⟨_, rfl⟩
    rw [hss] at C1 C2 C3 C6
    rw [hgg] at C4 C5
    rw [hoo] at C6 C7
    clear hss hgg hoo hxl hml hsl hs
    go_wp2_with fail
    (with_reducible refine (C1.out _ HT).mono ?_)
    rintro e w2 ⟨rfl, hb⟩
    have HT := Lib.hid (HT.out.below hb)
    have B := Lib.hid (B.out.trans (hb.mono B.out.size))
    clear hb
    go_wp2_with fail
    (with_reducible refine (C2.out _).mono ?_)
    rintro e w2 ⟨rfl, hb⟩
    have HT := Lib.hid (HT.out.below hb)
    have B := Lib.hid (B.out.trans (hb.mono B.out.size))
    clear hb
    go_wp2_with fail
    (with_reducible refine (C3.out _ HT).mono ?_)
    rintro e w2 ⟨rfl, hb⟩
    have HT := Lib.hid (HT.out.below hb)
    have B := Lib.hid (B.out.trans (hb.mono B.out.size))
    clear hb
    go_wp2_with fail
    (with_reducible refine (C4.out _ HT).mono ?_)
    rintro e w2 ⟨rfl, hb⟩
    have HT := Lib.hid (HT.out.below hb)
    have B := Lib.hid (B.out.trans (hb.mono B.out.size))
    clear hb
    go_wp2_with fail
    (with_reducible refine (C5.out _).mono ?_)
    rintro e w2 ⟨rfl, hb⟩
    have HT := Lib.hid (HT.out.below hb)
    have B := Lib.hid (B.out.trans (hb.mono B.out.size))
    clear hb
    go_wp2_with (first | (go_at_call 15; ((with_reducible refine (C6.out _).mono ?_); rintro e w' ⟨rfl, rfl⟩)) | (go_at_call 15; ((with_reducible refine (C7.out _).mono ?_); rintro e w' ⟨rfl, rfl⟩)))
    go_ret
    exact ⟨ret_bool (by simp), B.out⟩
  · have hno := not_two h
    clear h
    go_wp2_with fail
    (with_reducible refine (impl_Separate_no n x m _ hno).mono ?_)
    rintro e w2 ⟨rfl, hb⟩
    have HT := Lib.hid (HT.out.below hb)
    have B := Lib.hid (B.out.trans (hb.mono B.out.size))
    clear hb
    go_wp2_with fail
    (with_reducible refine (spec_Separate_no n x m _ hno).mono ?_)
    rintro e w2 ⟨rfl, hb⟩
    have HT := Lib.hid (HT.out.below hb)
    have B := Lib.hid (B.out.trans (hb.mono B.out.size))
    clear hb
    go_wp2_with fail
    refine (alive_any _).mono ?_
    rintro e w2 ⟨rfl, hb2⟩
    have HB2 := Lib.hid hb2
    clear hb2
    go_wp2_with fail
    go_ret
    exact ⟨rfl, B.out.trans (HB2.out.mono B.out.size)⟩

end Go.Proofs.YtbknmokoegembaaDoor
