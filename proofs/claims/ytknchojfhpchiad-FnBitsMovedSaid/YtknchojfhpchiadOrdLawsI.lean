/- The walk of the law on moved bits. -/
import Derived.Test.YtknchojfhpchiadMDrawC
import Derived.Test.YtknchojfhpchiadFnOrdB
import Derived.Test.YtknchojfhpchiadMFnG
import Derived.Test.YtknchojfhpchiadMFnH
import Derived.Deep.RegionWith

namespace Go.Proofs.Ytknchojfhpchiad
open Go.RowKit
set_option linter.unusedVariables false

set_option maxRecDepth 100000 in
set_option maxHeartbeats 1000000 in
theorem law_FnBitsMoved (w : World) (a : Option Addr) (n cap : Nat) (zs : List Int) (h : Bw.IsRow .u8 w a n cap zs) (a2 : Option Addr) (n2 cap2 : Nat) (zs2 : List Int) (h2 : Bw.IsRow .u8 w a2 n2 cap2 zs2) :
    Calls Try.prog 3 #[.slice a n cap, .slice a2 n2 cap2] w fun e w' => e = .returned (.bool true) ∧ Below w.heap.size w w' := by
  have hc := code_of_row h
  have hlen := h.len.2
  have hlen2 := h2.len.2
  have HC := Lib.hid hc
  clear h hc h2
  by_cases hbig : 1048576 < n
  · go_enter Try.func3, Try.ntmps3
    go_wp2_with fail
    go_ret
    exact ⟨rfl, Below.refl _ _⟩
  have hs : n ≤ 1048576 := by omega
  clear hbig
  by_cases hbig : 1048576 < n2
  · go_enter Try.func3, Try.ntmps3
    go_wp2_with fail
    go_ret
    exact ⟨rfl, Below.refl _ _⟩
  have hs2 : n2 ≤ 1048576 := by omega
  clear hbig
  go_enter Try.func3, Try.ntmps3
  go_wp2_with fail
  refine (DrawBitsMoved_any a n cap _ HC.out).mono ?_
  rintro e w1 ⟨x, v, xs, rfl, ho, hl14, hP, hb⟩
  have B := Lib.hid hb
  have O := Lib.hid ho
  clear hb ho hP
  obtain ⟨r, hr⟩ := movedIs_some x xs
  have HR := Lib.hid hr
  go_wp2_with fail
  (with_reducible refine (impl_BitsMoved_any x _ xs _ O.out.reads (by omega) r HR).mono ?_)
  rintro e w2 ⟨rfl, hb⟩
  have O := Lib.hid (O.out.below hb)
  have B := Lib.hid (B.out.trans (hb.mono B.out.size))
  clear hb
  go_wp2_with fail
  (with_reducible refine (spec_BitsMoved_any x _ xs _ O.out.reads (by omega) r HR).mono ?_)
  rintro e w2 ⟨rfl, hb⟩
  have O := Lib.hid (O.out.below hb)
  have B := Lib.hid (B.out.trans (hb.mono B.out.size))
  clear hb
  by_cases hok : Bw.OrderOk xs ∧ WordOk (xs.length : Int) x
  · obtain ⟨ha, hx⟩ := hok
    obtain rfl := hr.1 ⟨ha, hx⟩
    obtain ⟨x, rfl⟩ := Int.eq_ofNat_of_zero_le hx.2.1
    rw [Int.toNat_natCast]
    have HA := Lib.hid ha
    have HX := Lib.hid hx
    have hn := ha.1
    have hml := Bw.mv_lt ha x (Nat.le_refl _)
    have hmp := Bw.mv_pc ha x _ (Nat.le_refl _)
    have hqb := wbd hn.2
    obtain ⟨z, hz⟩ : ∃ z, n2 * 73 % 2 ^ xs.length = z := ⟨_, rfl⟩
    have hzl : z < 2 ^ xs.length := by rw [← hz]; exact Nat.mod_lt _ (Nat.two_pow_pos _)
    have hmz := Bw.mv_lt ha z (Nat.le_refl _)
    have hmx := Bw.mv_xor ha x z
    have hxz := Nat.xor_lt_two_pow (word_lt hx) hzl
    obtain ⟨y, hy⟩ : ∃ y, Bw.mv x xs xs.length = y := ⟨_, rfl⟩
    obtain ⟨u, hu⟩ : ∃ u, Bw.mv z xs xs.length = u := ⟨_, rfl⟩
    have C1 := Lib.hid (fun w h => impl_BitsMoved_some (x ^^^ z) v xs w h (word_ok hn.1 hn.2 hxz) HA)
    have C2 := Lib.hid (fun w h => impl_BitsMoved_some z v xs w h (word_ok hn.1 hn.2 hzl) HA)
    have C3 := Lib.hid (fun w => WordXor_yes xs.length x z w HX (word_ok hn.1 hn.2 hzl))
    have C4 := Lib.hid (fun w => WordXor_yes xs.length y u w (word_ok hn.1 hn.2 (hy ▸ hml)) (word_ok hn.1 hn.2 (hu ▸ hmz)))
    have C5 := Lib.hid (fun w => impl_OnesOf_yes xs.length y w (word_ok hn.1 hn.2 (hy ▸ hml)))
    have C6 := Lib.hid (fun w => impl_OnesOf_yes xs.length x w HX)
    rw [hmx, hy, hu] at C1
    rw [hu] at C2
    rw [hy] at hmp ⊢
    rw [hmp] at C5
    obtain ⟨X, hXX⟩ : ∃ X, x ^^^ z = X := ⟨_, rfl⟩
    obtain ⟨Y, hYY⟩ : ∃ Y, y ^^^ u = Y := ⟨_, rfl⟩
    obtain ⟨o, hoo⟩ : ∃ o, Bw.pc x xs.length = o := ⟨_, rfl⟩
    rw [hXX] at C1 C3
    rw [hYY] at C1 C4
    rw [hoo] at C5 C6
    obtain ⟨q, hq⟩ : ∃ q, 2 ^ xs.length = q := ⟨_, rfl⟩
    have hwq := wrap_pow hn.2 hq
    rw [hq] at hz hqb hzl
    have hzz : (n2 : Int) * 73 % (q : Int) = (z : Int) := by rw [← hz]; simp
    have hY0 : ((y : Int) < 0) = False := by simp
    obtain ⟨n, hxn⟩ : ∃ n, xs.length = n := ⟨_, rfl⟩
    obtain ⟨b, cap, rfl, _, _⟩ := O.out.some (by intro e; subst e; exact absurd hn.1 (by simp))
    rw [hxn] at hn C1 C2 C3 C4 C5 C6 hwq hl14 ⊢
    have HXN := Lib.hid hxn
    have HNN := Lib.hid hn
    have hn12 := hn.2
    clear hn hl14
    clear ha hx hr HR hml hmp hz hmz hmx hxz hy hu hXX hYY hoo hq hxn
    go_wp2_with fail
    have HZZ := Lib.hid hzz
    rw [hzz]
    clear hzz
    (with_reducible refine (C5.out _).mono ?_)
    rintro e w' ⟨rfl, rfl⟩
    go_wp2_with fail
    (with_reducible refine (C6.out _).mono ?_)
    rintro e w' ⟨rfl, rfl⟩
    have hoo2 : ((o : Int) == (o : Int)) = true := by simp
    go_wp2_with fail
    (with_reducible refine (C3.out _).mono ?_)
    rintro e w3 ⟨rfl, hb⟩
    have B := Lib.hid (B.out.trans (hb.mono B.out.size))
    have O1 := Lib.hid (O.out.reads.below hb)
    clear hb
    rw [HXN.out] at O1
    go_wp2_with fail
    (with_reducible refine (C1.out _ O1).mono ?_)
    rintro e w4 ⟨rfl, hb⟩
    have B := Lib.hid (B.out.trans (hb.mono B.out.size))
    have O1 := Lib.hid (O1.out.below hb)
    clear hb
    go_wp2_with fail
    (with_reducible refine (C2.out _ O1).mono ?_)
    rintro e w5 ⟨rfl, hb⟩
    have B := Lib.hid (B.out.trans (hb.mono B.out.size))
    clear hb
    go_wp2_with fail
    (with_reducible refine (C4.out _).mono ?_)
    rintro e w6 ⟨rfl, hb⟩
    have B := Lib.hid (B.out.trans (hb.mono B.out.size))
    clear hb
    go_wp2_with fail
    go_ret
    exact ⟨ret_bool (by simp), B.out⟩
  · obtain rfl := hr.2 hok
    clear hok hr HR
    go_wp2_with fail
    refine (alive_any _).mono ?_
    rintro e w2 ⟨rfl, hb2⟩
    have HB2 := Lib.hid hb2
    clear hb2
    go_wp2_with fail
    go_ret
    exact ⟨rfl, B.out.trans (HB2.out.mono B.out.size)⟩

end Go.Proofs.Ytknchojfhpchiad
