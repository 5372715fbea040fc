/- The walk of the law on orders back. -/
import Derived.Test.YtknchojfhpchiacMDrawC
import Derived.Test.YtknchojfhpchiacFnOrdC
import Derived.Test.YtknchojfhpchiacFnOrdD
import Derived.Test.YtknchojfhpchiacWord2
import Derived.Test.YtknchojfhpchiacSame

namespace Bw
open Go Go.RowKit

/-- an order, and then back -/
theorem thn_bk {zs : List Int} (h : OrderOk zs) {j : Nat} (hj : j < zs.length) : nth (thn zs (bk zs zs.length)) j = (j : Int) := by
  rw [thn_nth hj]; exact bk_nth h _ (Nat.le_refl _) j hj

end Bw

namespace Go.Proofs.Ytknchojfhpchiac
open Go.RowKit
set_option linter.unusedVariables false

set_option maxRecDepth 100000 in
set_option maxHeartbeats 1000000 in
theorem law_FnOrderBack (w : World) (a : Option Addr) (n cap : Nat) (zs : List Int) (h : Bw.IsRow .u8 w a n cap zs) :
    Calls Try.prog 7 #[.slice a n cap] w fun e w' => e = .returned (.bool true) ∧ Below w.heap.size w w' := by
  have hc := code_of_row h
  have hlen := h.len.2
  have HC := Lib.hid hc
  clear h hc
  by_cases hbig : 1048576 < n
  · go_enter Try.func7, Try.ntmps7
    go_wp2_with fail
    go_ret
    exact ⟨rfl, Below.refl _ _⟩
  have hs : n ≤ 1048576 := by omega
  clear hbig
  go_enter Try.func7, Try.ntmps7
  go_wp2_with fail
  refine (DrawOrderBack_any a n cap _ HC.out).mono ?_
  rintro e w1 ⟨v, xs, rfl, ho, hl14, hb⟩
  have B := Lib.hid hb
  have O := Lib.hid ho
  clear hb ho
  obtain ⟨out, hout⟩ := Bw.backIs_some xs
  have hl12 := hout.len
  have HR := Lib.hid hout
  go_wp2_with fail
  (with_reducible refine (impl_OrderBack_any _ xs out _ O.out.reads (by omega) HR).mono ?_)
  rintro e w2 ⟨r1, rfl, ho, hb⟩
  have OI := Lib.hid (Bw.Own.mono ho B.out.size)
  have O := Lib.hid (O.out.below hb)
  have B := Lib.hid (B.out.trans (hb.mono B.out.size))
  clear ho hb
  go_wp2_with fail
  (with_reducible refine (spec_OrderBack_any _ xs out _ O.out.reads (by omega) HR).mono ?_)
  rintro e w2 ⟨r2, rfl, ho, hb⟩
  have OS := Lib.hid (Bw.Own.mono ho B.out.size)
  have O := Lib.hid (O.out.below hb)
  have OI := Lib.hid (OI.out.below hb)
  have B := Lib.hid (B.out.trans (hb.mono B.out.size))
  clear ho hb
  go_wp2_with fail
  (with_reducible refine (sameInts_any _ _ out out _ OI.out.reads OS.out.reads (by omega)).mono ?_)
  rintro e w2 ⟨rfl, hb⟩
  have O := Lib.hid (O.out.below hb)
  have OI := Lib.hid (OI.out.below hb)
  have B := Lib.hid (B.out.trans (hb.mono B.out.size))
  clear hb
  by_cases hok : Bw.OrderOk xs
  · have ha : Hid (Bw.OrderOk xs) := hok
    have hn := hok.1
    obtain rfl := hout.1 hok
    have hb := Lib.hid (Bw.bk_ok hok)
    have hbl := Bw.bk_length xs xs.length
    have HBL := Lib.hid hbl
    have HTH : Hid (Bw.ThenIs xs (Bw.bk xs xs.length) (Bw.thn xs (Bw.bk xs xs.length))) := Lib.hid ⟨fun _ => rfl, fun h => absurd ⟨hok, hb.out, HBL.out.symm⟩ h⟩
    have HBB : Hid (Bw.BackIs (Bw.bk xs xs.length) xs) := Lib.hid ⟨fun _ => by rw [HBL.out, Bw.bk_bk hok], fun h => absurd hb.out h⟩
    have HT := Lib.hid (fun j (hj : j < xs.length) => Bw.thn_bk hok hj)
    have htl := Bw.thn_length xs (Bw.bk xs xs.length)
    obtain ⟨ys, hys⟩ : ∃ ys, Bw.bk xs xs.length = ys := ⟨_, rfl⟩
    rw [hys] at OI HTH HBB hbl HT htl hl12
    obtain ⟨ts, hts⟩ : ∃ ts, Bw.thn xs ys = ts := ⟨_, rfl⟩
    rw [hts] at HTH HT htl
    have HYL : Hid (ys.length ≤ 1048576) := by unfold Hid; omega
    have HTL := Lib.hid htl
    clear hok hout hys hts hbl htl HR hl12
    go_wp2_with fail
    (with_reducible refine (spec_OrderValid_yes _ xs _ O.out.reads ha).mono ?_)
    rintro e w2 ⟨rfl, hb⟩
    have O := Lib.hid (O.out.below hb)
    have OI := Lib.hid (OI.out.below hb)
    have B := Lib.hid (B.out.trans (hb.mono B.out.size))
    clear hb
    go_wp2_with fail
    (with_reducible refine (impl_OrderThen_any _ _ xs ys ts _ O.out.reads OI.out.reads (by omega) HYL.out HTH).mono ?_)
    rintro e w2 ⟨r3, rfl, ho, hb⟩
    have OT := Lib.hid (Bw.Own.mono ho B.out.size)
    have O := Lib.hid (O.out.below hb)
    have OI := Lib.hid (OI.out.below hb)
    have B := Lib.hid (B.out.trans (hb.mono B.out.size))
    clear ho hb
    obtain ⟨tb, tcap, rfl, htb0, htb1⟩ := OT.out.some (by intro e; have h := HTL.out; rw [e] at h; simp at h; omega)
    have HCT : Hid (∀ k, k < xs.length → w2.cell? ⟨tb, k, none⟩ = some (.int .i64 (k : Int))) := fun k hk => by
      have h := (Bw.Own.row OT.out).cellAt k (by rw [HTL.out]; omega)
      rw [h, List.getElem?_map, Bw.nth_lt (by rw [HTL.out]; exact hk), HT.out k hk]; rfl
    have htl2 := HTL.out
    rw [htl2]
    clear htl2
    obtain ⟨b, cap, rfl, _, _⟩ := O.out.some (by intro e; subst e; exact absurd hn.1 (by simp))
    obtain ⟨n, hxn⟩ : ∃ n, xs.length = n := ⟨_, rfl⟩
    rw [hxn] at hn hl14 HCT ⊢
    have HXN := Lib.hid hxn
    clear hxn
    go_wp2_with fail
    go_loop [6] (fun i => ∃ k : Nat, k ≤ n ∧ i = .int .i64 k) (fun i => n - (intOf i).toNat)
    case atStart => exact ⟨0, by omega, rfl⟩
    case round =>
      obtain ⟨k, hk, rfl⟩ := hrel
      by_cases hlt : k < n
      · have hcell := HCT.out k hlt
        have hne : ((k : Int) != (k : Int)) = false := by simp
        go_wp2_with fail
        go_round
        case rel => exact ⟨k + 1, by omega, by go_num⟩
        case measure => simp [intOf]; omega
      · obtain rfl : k = n := by omega
        have O1 : Hid (Bw.Own 3 w.heap.size w2 (.slice (some ⟨b, 0, none⟩) k cap) xs) := by rw [HXN.out] at O; exact O
        go_wp2_with fail
        (with_reducible refine (impl_OrderBack_any _ ys xs _ OI.out.reads HYL.out HBB).mono ?_)
        rintro e w3 ⟨r4, rfl, ho, hb⟩
        have OB := Lib.hid (Bw.Own.mono ho B.out.size)
        have O2 := Lib.hid (O1.out.below hb)
        have B2 := Lib.hid (B.out.trans (hb.mono B.out.size))
        clear ho hb
        go_wp2_with fail
        (with_reducible refine (sameInts_any _ _ xs xs _ OB.out.reads O2.out.reads (by rw [HXN.out]; omega)).mono ?_)
        rintro e w4 ⟨rfl, hb⟩
        have B3 := Lib.hid (B2.out.trans (hb.mono B2.out.size))
        clear hb
        go_wp2_with fail
        go_ret
        exact ⟨ret_bool (by simp), B3.out⟩
  · have ha : Hid (¬ Bw.OrderOk xs) := hok
    obtain rfl := hout.2 hok
    clear hok hout HR
    obtain ⟨a2, cap2, rfl⟩ := OI.out.nil_or rfl
    go_wp2_with fail
    (with_reducible refine (spec_OrderValid_no _ xs _ O.out.reads (by omega) ha).mono ?_)
    rintro e w2 ⟨rfl, hb⟩
    have O := Lib.hid (O.out.below hb)
    have B := Lib.hid (B.out.trans (hb.mono B.out.size))
    clear hb
    go_wp2_with fail
    refine (alive_any _).mono ?_
    rintro e w2 ⟨rfl, hb2⟩
    have HB2 := Lib.hid hb2
    clear hb2
    go_wp2_with fail
    go_ret
    exact ⟨rfl, B.out.trans (HB2.out.mono B.out.size)⟩

end Go.Proofs.Ytknchojfhpchiac
