/- The walks of the laws on woven words. -/
import Derived.Test.YtbknmokoegembabDoorWeaA
import Derived.Test.YtbknmokoegembabDoorGatL
import Derived.Test.YtbknmokoegembabDoorMDrawA
import Derived.Test.YtbknmokoegembabDoorMDrawD
import Derived.Test.YtbknmokoegembabDoorMFnG

namespace Go.Proofs.YtbknmokoegembabDoor
open Go.RowKit
set_option linter.unusedVariables false

theorem weave_no {n a b : Int} (h : ¬ ((WordOk n a ∧ WordOk n b) ∧ n ≤ 6)) : Hid ((¬ WordOk n a ∨ (WordOk n a ∧ ¬ WordOk n b)) ∨ ((WordOk n a ∧ WordOk n b) ∧ 6 < n)) := by
  by_cases ha : WordOk n a
  · by_cases hb : WordOk n b
    · exact .inr ⟨⟨ha, hb⟩, by have : ¬ n ≤ 6 := fun e => h ⟨⟨ha, hb⟩, e⟩
                               omega⟩
    · exact .inl (.inr ⟨ha, hb⟩)
  · exact .inl (.inl ha)

theorem unweave_no {n x : Int} (h : ¬ (WordOk n x ∧ n % 2 = 0)) : Hid (¬ WordOk n x ∨ (WordOk n x ∧ n % 2 = 1)) := by
  by_cases hx : WordOk n x
  · exact .inr ⟨hx, by have : ¬ n % 2 = 0 := fun e => h ⟨hx, e⟩
                       omega⟩
  · exact .inl hx

set_option maxRecDepth 100000 in
set_option maxHeartbeats 1000000 in
theorem law_FnUnweave (w : World) (a : Option Addr) (n cap : Nat) (zs : List Int) (h : Bw.IsRow .u8 w a n cap zs) (hT : TabLies w) :
    Calls Tryd.prog 8 #[.slice a n cap] w fun e w' => e = .returned (.bool true) ∧ Below w.heap.size w w' := by
  have hc := code_of_row h
  have hlen := h.len.2
  have HC := Lib.hid hc
  have HT := Lib.hid hT
  clear h hc hT
  by_cases hbig : 1048576 < n
  · go_enter Tryd.func8, Tryd.ntmps8
    go_wp2_with fail
    go_ret
    exact ⟨rfl, Below.refl _ _⟩
  have hs : n ≤ 1048576 := by omega
  clear hbig
  go_enter Tryd.func8, Tryd.ntmps8
  go_wp2_with fail
  refine (DrawUnweave_any a n cap _ HC.out).mono ?_
  rintro e w1 ⟨n, x, rfl, hP, hb⟩
  have B := Lib.hid hb
  have HT := Lib.hid (HT.out.below hb)
  clear hb hP
  by_cases h : WordOk n x ∧ n % 2 = 0
  · obtain ⟨hx, hn⟩ := h
    obtain ⟨n, x, rfl, rfl⟩ := word_nat hx
    obtain ⟨h, hh⟩ : ∃ h : Nat, n = 2 * h := ⟨n / 2, by omega⟩
    have HX := Lib.hid hx
    have hw := hx.1
    have hh1 : 1 ≤ h := by omega
    have hh6 : h ≤ 6 := by omega
    have hlt : x < 2 ^ (2 * h) := by rw [← hh]; exact gword_lt hx
    have hev := Lib.hid (gword_ok hh1 (by omega) (Bw.ev_lt x h))
    have hod := Lib.hid (gword_ok hh1 (by omega) (Bw.od_lt x h))
    have hpc : Bw.pc (Bw.ev x h) h + Bw.pc (Bw.od x h) h = Bw.pc x n := by rw [hh]; exact Bw.wea_pc x h h (Nat.le_refl _)
    have C1 := Lib.hid (fun w t => impl_Unweave_yes n h x w HX hh t)
    have C2 := Lib.hid (fun w => spec_Unweave_yes n h x w HX hh)
    have C3 := Lib.hid (fun w t => Bw.wv_ev hlt ▸ impl_Weave_yes h (Bw.ev x h) (Bw.od x h) w hev hod hh6 t)
    have C4 := Lib.hid (fun w => impl_OnesOf_yes h (Bw.ev x h) w hev)
    have C5 := Lib.hid (fun w => impl_OnesOf_yes h (Bw.od x h) w hod)
    have C6 := Lib.hid (fun w => impl_OnesOf_yes n x w HX)
    have p1 := Bw.pc_le (Bw.ev x h) h
    have p2 := Bw.pc_le (Bw.od x h) h
    obtain ⟨a, haa⟩ : ∃ a, Bw.ev x h = a := ⟨_, rfl⟩
    obtain ⟨b, hbb⟩ : ∃ b, Bw.od x h = b := ⟨_, rfl⟩
    rw [haa] at C1 C2 C3 C4 hpc p1
    rw [hbb] at C1 C2 C3 C5 hpc p2
    obtain ⟨o1, ho1⟩ : ∃ o, Bw.pc a h = o := ⟨_, rfl⟩
    obtain ⟨o2, ho2⟩ : ∃ o, Bw.pc b h = o := ⟨_, rfl⟩
    obtain ⟨o3, ho3⟩ : ∃ o, Bw.pc x n = o := ⟨_, rfl⟩
    rw [ho1] at C4 hpc p1
    rw [ho2] at C5 hpc p2
    rw [ho3] at C6 hpc
    have e3 : (n : Int) / 2 = h := by omega
    have e4 : (n : Int).tdiv 2 = h := by rw [Int.tdiv_eq_ediv_of_nonneg (by omega), e3]
    have hsum : ((o1 : Int) + (o2 : Int) == (o3 : Int)) = true := by rw [beq_iff_eq]; omega
    have HSUM := Lib.hid hsum
    clear haa hbb ho1 ho2 ho3 hlt hx hn hh hev hod hpc hsum
    go_wp2_with fail
    (with_reducible refine (C1.out _ HT).mono ?_)
    rintro e w2 ⟨rfl, hb⟩
    have HT := Lib.hid (HT.out.below hb)
    have B := Lib.hid (B.out.trans (hb.mono B.out.size))
    clear hb
    go_wp2_with fail
    (with_reducible refine (C2.out _).mono ?_)
    rintro e w2 ⟨rfl, hb⟩
    have HT := Lib.hid (HT.out.below hb)
    have B := Lib.hid (B.out.trans (hb.mono B.out.size))
    clear hb
    go_wp2_with fail
    (with_reducible refine (C3.out _ HT).mono ?_)
    rintro e w2 ⟨rfl, hb⟩
    have HT := Lib.hid (HT.out.below hb)
    have B := Lib.hid (B.out.trans (hb.mono B.out.size))
    clear hb
    have hsum := HSUM.out
    go_wp2_with (first | (go_at_call 27; ((with_reducible refine (C4.out _).mono ?_); rintro e w' ⟨rfl, rfl⟩)) | (go_at_call 27; ((with_reducible refine (C5.out _).mono ?_); rintro e w' ⟨rfl, rfl⟩)) | (go_at_call 27; ((with_reducible refine (C6.out _).mono ?_); rintro e w' ⟨rfl, rfl⟩)))
    go_ret
    exact ⟨ret_bool (by simp), B.out⟩
  · have hno := unweave_no h
    clear h
    go_wp2_with fail
    (with_reducible refine (impl_Unweave_no n x _ hno).mono ?_)
    rintro e w2 ⟨rfl, hb⟩
    have HT := Lib.hid (HT.out.below hb)
    have B := Lib.hid (B.out.trans (hb.mono B.out.size))
    clear hb
    go_wp2_with fail
    (with_reducible refine (spec_Unweave_no n x _ hno).mono ?_)
    rintro e w2 ⟨rfl, hb⟩
    have HT := Lib.hid (HT.out.below hb)
    have B := Lib.hid (B.out.trans (hb.mono B.out.size))
    clear hb
    go_wp2_with fail
    refine (alive_any _).mono ?_
    rintro e w2 ⟨rfl, hb2⟩
    have HB2 := Lib.hid hb2
    clear hb2
    go_wp2_with fail
    go_ret
    exact ⟨rfl, B.out.trans (HB2.out.mono B.out.size)⟩

set_option maxRecDepth 100000 in
set_option maxHeartbeats 1000000 in
theorem law_FnWeave (w : World) (a : Option Addr) (n cap : Nat) (zs : List Int) (h : Bw.IsRow .u8 w a n cap zs) (hT : TabLies w) :
    Calls Tryd.prog 4 #[.slice a n cap] w fun e w' => e = .returned (.bool true) ∧ Below w.heap.size w w' := by
  have hc := code_of_row h
  have hlen := h.len.2
  have HC := Lib.hid hc
  have HT := Lib.hid hT
  clear h hc hT
  by_cases hbig : 1048576 < n
  · go_enter Tryd.func4, Tryd.ntmps4
    go_wp2_with fail
    go_ret
    exact ⟨rfl, Below.refl _ _⟩
  have hs : n ≤ 1048576 := by omega
  clear hbig
  go_enter Tryd.func4, Tryd.ntmps4
  go_wp2_with fail
  refine (DrawWeave_any a n cap _ HC.out).mono ?_
  rintro e w1 ⟨n, a, b, rfl, hP, hb⟩
  have B := Lib.hid hb
  have HT := Lib.hid (HT.out.below hb)
  clear hb hP
  by_cases h : (WordOk n a ∧ WordOk n b) ∧ n ≤ 6
  · obtain ⟨⟨ha, hb⟩, hn⟩ := h
    obtain ⟨n, a, rfl, rfl⟩ := word_nat ha
    obtain ⟨b, rfl⟩ := Int.eq_ofNat_of_zero_le hb.2.1
    have HA := Lib.hid ha
    have HB := Lib.hid hb
    have hw := ha.1
    have hn6 : n ≤ 6 := by omega
    have hal := gword_lt ha
    have hbl := gword_lt hb
    have hxl := Bw.wv_lt a b n
    have hx := Lib.hid (gword_ok (n := 2 * n) (by omega) (by omega) hxl)
    have ec : ((2 * n : Nat) : Int) = 2 * (n : Int) := by omega
    have C1 := Lib.hid (fun w t => impl_Weave_yes n a b w HA HB hn6 t)
    have C2 := Lib.hid (fun w => spec_Weave_yes n a b w HA HB hn6)
    have C3 := Lib.hid (fun w t => ec ▸ Bw.ev_wv b hal ▸ Bw.od_wv a hbl ▸ impl_Unweave_yes (2 * n) n (Bw.wv a b n) w hx rfl t)
    have C6 := Lib.hid (fun w => ec ▸ impl_WordValid_yes ((2 * n : Nat) : Int) ((Bw.wv a b n : Nat) : Int) w hx)
    obtain ⟨q, hq⟩ : ∃ q, 2 ^ n = q := ⟨_, rfl⟩
    have C5 : Hid (a + 1 < q → b + 1 < q → Bw.wv a b n < Bw.wv (a + 1) (b + 1) n ∧ ∀ w, Hid (TabLies w) → Calls Tryd.prog 12 #[.int .i64 n, .int .i64 ((a : Int) + 1), .int .i64 ((b : Int) + 1)] w fun e w' => e = .returned (.int .i64 ((Bw.wv (a + 1) (b + 1) n : Nat) : Int)) ∧ Below w.heap.size w w') := fun h1 h2 => by
      rw [← hq] at h1 h2
      exact ⟨Bw.wv_more_of hn6 h1 h2, fun w t => impl_Weave_yes n (a + 1) (b + 1) w (Lib.hid (gword_ok (by omega) (by omega) h1)) (Lib.hid (gword_ok (by omega) (by omega) h2)) hn6 t⟩
    have hqb := wbd (show n ≤ 12 by omega)
    have hwq := wrap_pow (show n ≤ 12 by omega) hq
    rw [hq] at hqb
    rw [hq] at hal hbl
    obtain ⟨x, hxx⟩ : ∃ x, Bw.wv a b n = x := ⟨_, rfl⟩
    obtain ⟨x2, hxx2⟩ : ∃ x, Bw.wv (a + 1) (b + 1) n = x := ⟨_, rfl⟩
    rw [hxx] at C1 C2 C3 C5 C6
    rw [hxx2] at C5
    clear hxx hxx2 hxl hx ha hb hn ec hq hw
    go_wp2_with fail
    (with_reducible refine (C1.out _ HT).mono ?_)
    rintro e w2 ⟨rfl, hb⟩
    have HT := Lib.hid (HT.out.below hb)
    have B := Lib.hid (B.out.trans (hb.mono B.out.size))
    clear hb
    go_wp2_with fail
    (with_reducible refine (C2.out _).mono ?_)
    rintro e w2 ⟨rfl, hb⟩
    have HT := Lib.hid (HT.out.below hb)
    have B := Lib.hid (B.out.trans (hb.mono B.out.size))
    clear hb
    go_wp2_with fail
    (with_reducible refine (C3.out _ HT).mono ?_)
    rintro e w2 ⟨rfl, hb⟩
    have HT := Lib.hid (HT.out.below hb)
    have B := Lib.hid (B.out.trans (hb.mono B.out.size))
    clear hb
    by_cases h1 : a + 1 < q
    · by_cases h2 : b + 1 < q
      · obtain ⟨hlt, hc5⟩ := C5.out h1 h2
        have C5 := Lib.hid hc5
        clear hc5
        go_wp2_with fail
        (with_reducible refine (C5.out _ HT).mono ?_)
        rintro e w2 ⟨rfl, hb⟩
        have HT := Lib.hid (HT.out.below hb)
        have B := Lib.hid (B.out.trans (hb.mono B.out.size))
        clear hb
        go_wp2_with (go_at_call 16; ((with_reducible refine (C6.out _).mono ?_); rintro e w' ⟨rfl, rfl⟩))
        go_ret
        exact ⟨ret_bool (by simp), B.out⟩
      · clear C5
        go_wp2_with (go_at_call 16; ((with_reducible refine (C6.out _).mono ?_); rintro e w' ⟨rfl, rfl⟩))
        go_ret
        exact ⟨ret_bool (by simp), B.out⟩
    · clear C5
      go_wp2_with (go_at_call 16; ((with_reducible refine (C6.out _).mono ?_); rintro e w' ⟨rfl, rfl⟩))
      go_ret
      exact ⟨ret_bool (by simp), B.out⟩
  · have hno := weave_no h
    clear h
    go_wp2_with fail
    (with_reducible refine (impl_Weave_no n a b _ hno).mono ?_)
    rintro e w2 ⟨rfl, hb⟩
    have HT := Lib.hid (HT.out.below hb)
    have B := Lib.hid (B.out.trans (hb.mono B.out.size))
    clear hb
    go_wp2_with fail
    (with_reducible refine (spec_Weave_no n a b _ hno).mono ?_)
    rintro e w2 ⟨rfl, hb⟩
    have HT := Lib.hid (HT.out.below hb)
    have B := Lib.hid (B.out.trans (hb.mono B.out.size))
    clear hb
    go_wp2_with fail
    refine (alive_any _).mono ?_
    rintro e w2 ⟨rfl, hb2⟩
    have HB2 := Lib.hid hb2
    clear hb2
    go_wp2_with fail
    go_ret
    exact ⟨rfl, B.out.trans (HB2.out.mono B.out.size)⟩

end Go.Proofs.YtbknmokoegembabDoor
