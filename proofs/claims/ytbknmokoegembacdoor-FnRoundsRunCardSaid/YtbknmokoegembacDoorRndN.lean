/- The walk of the law that rounds without neighbours turn back. -/
import Derived.Test.YtbknmokoegembacDoorRndB
import Derived.Test.YtbknmokoegembacDoorMDrawE
import Derived.Test.YtbknmokoegembacDoorMFnG
import Derived.Test.YtbknmokoegembacDoorMFnH
import Derived.Test.YtbknmokoegembacDoorWord2
import Derived.Deep.RegionHeld3

namespace Go.Proofs.YtbknmokoegembacDoor
open Go.RowKit
set_option linter.unusedVariables false

theorem below_twice {w : World} (o o2 : Obj) : Below w.heap.size w ((w.alloc o).alloc o2) :=
  ((Below.refl _ w).alloc (Nat.le_refl _) o).alloc (by simp) o2

set_option maxHeartbeats 400000 in
theorem WordLeft_one (n x : Nat) (w : World) (hx : Hid (WordOk n x)) :
    Calls Tryd.prog 17 #[.int .i64 n, .int .i64 x, .int .i64 1] w fun e w' => e = .returned (.int .i64 ((2 * x % 2 ^ n : Nat) : Int)) ∧ Below w.heap.size w w' := by
  have hw := hx.out.1
  have x1 := word_bd hx.out
  have hn : n ≤ 12 := by omega
  have HK : Hid (∀ w : World, Calls Tryd.prog 62 #[.int .i64 n, .int .i64 ((x : Int) * 2)] w fun e w' => e = .returned (.int .i64 ((2 * x % 2 ^ n : Nat) : Int)) ∧ w = w') := fun w => by
    have := cut_any n ((x : Int) * 2) w (by omega)
    rw [show ((x : Int) * 2) % ((2 ^ n : Nat) : Int) = ((2 * x % 2 ^ n : Nat) : Int) by rw [Int.natCast_emod, Int.natCast_mul]; congr 1; omega] at this
    exact this
  obtain ⟨r, hr⟩ : ∃ r, 2 * x % 2 ^ n = r := ⟨_, rfl⟩
  rw [hr] at HK ⊢
  clear hr
  have hb0 := below_twice (w := w) (.cells #[.int .i64 (x : Int)] 3) (.cells #[.int .i64 (1 : Int)] 3)
  go_enter Tryd.func17, Tryd.ntmps17
  go_wp2_with (first | (go_at_call 12; ((with_reducible refine (impl_WordValid_yes n x _ hx).mono ?_); rintro e w' ⟨rfl, rfl⟩)) | (go_at_call 43; ((with_reducible refine (within_yes _ _ _ _ (by omega) (by omega)).mono ?_); rintro e w' ⟨rfl, rfl⟩)) | (go_at_call 62; ((with_reducible refine (HK.out _).mono ?_); rintro e w' ⟨rfl, rfl⟩)) | go_in)
  go_ret
  exact ⟨rfl, hb0⟩

theorem all_mem {P : Int → Prop} {zs : List Int} (h : ∀ j, j < zs.length → P (Bw.nth zs j)) : ∀ z ∈ zs, P z := fun z hz => by
  obtain ⟨j, hj, rfl⟩ := List.mem_iff_getElem.1 hz
  have := h j hj
  rwa [Bw.nth_eq hj] at this

theorem mem_all {P : Int → Prop} {zs : List Int} (h : ∀ z ∈ zs, P z) : ∀ j, j < zs.length → P (Bw.nth zs j) := fun j hj => by
  rw [Bw.nth_eq hj]; exact h _ (List.getElem_mem hj)

/-- rounds without neighbours, run back -/
theorem run_back {n x : Nat} {zs : List Int} (h0 : 1 ≤ n) (h1 : n ≤ 12) (hx : x < 2 ^ n) (hl : zs.length ≤ 12) (ho : ∀ j, j < zs.length → RndOk n (Bw.nth zs j)) (ha : ∀ j, j < zs.length → Bw.Apart (Bw.pl zs j)) (v : Value) (w : World)
    (hv : Hid (Bw.Reads w v zs.reverse)) (hT : Hid (TabLies w)) :
    Calls Tryd.prog 14 #[.int .i64 n, .int .i64 ((Bw.runs n x zs zs.length : Nat) : Int), v] w fun e w' => e = .returned (.int .i64 x) ∧ Below w.heap.size w w' := by
  have hr : ∀ j, j < zs.length → Bw.Rnd n (Bw.pl zs j) := fun j hj => (ho j hj).rnd
  have hyl := Bw.runs_lt (n := n) (x := x) (rs := zs) hx zs.length hr
  have ho2 : ∀ j, j < zs.reverse.length → RndOk n (Bw.nth zs.reverse j) := mem_all fun z hz => all_mem ho z (List.mem_reverse.1 hz)
  have h := impl_RoundsRun_upto n (Bw.runs n x zs zs.length) v zs.reverse w hv (gword_ok h0 h1 hyl) (by rw [List.length_reverse]; exact hl) zs.reverse.length ((Bw.runs n (Bw.runs n x zs zs.length) zs.reverse zs.reverse.length : Nat) : Int) (Nat.le_refl _) ho2 (Lib.hid ⟨fun _ => rfl, fun h => absurd h (by omega)⟩) hT
  rw [Bw.runs_back (fun j hj => ⟨hr j hj, ha j hj⟩)] at h
  exact h

theorem drop_back {zs : List Int} {c : Nat} (hc : c < zs.length) : (zs.drop c).reverse = (zs.drop (c + 1)).reverse ++ [Bw.nth zs c] := by
  rw [List.drop_eq_getElem_cons hc, List.reverse_cons, Bw.nth_eq hc]

theorem apart_test {n z : Nat} (hz : Bw.Rnd n z) : z &&& 2 * z % 2 ^ n = 0 → Bw.Apart z := fun h => Bw.apart_of hz h

set_option maxRecDepth 100000 in
set_option maxHeartbeats 2000000 in
theorem law_FnRoundsRun (w : World) (a : Option Addr) (n cap : Nat) (zs : List Int) (h : Bw.IsRow .u8 w a n cap zs) (hT : TabLies w) :
    Calls Tryd.prog 4 #[.slice a n cap] w fun e w' => e = .returned (.bool true) ∧ Below w.heap.size w w' := by
  have hc := code_of_row h
  have hlen := h.len.2
  have HC := Lib.hid hc
  have HT := Lib.hid hT
  clear h hc hT
  by_cases hbig : 1048576 < n
  · go_enter Tryd.func4, Tryd.ntmps4
    go_wp2_with fail
    go_ret
    exact ⟨rfl, Below.refl _ _⟩
  have hs : n ≤ 1048576 := by omega
  clear hbig
  go_enter Tryd.func4, Tryd.ntmps4
  go_wp2_with fail
  refine (DrawRoundsRun_any a n cap _ HC.out).mono ?_
  obtain ⟨i0, hi, hz0, hz1, hz2⟩ := info_parts infoInt
  rintro e w1 ⟨n, x, v, zs, rfl, ho, hl20, hP, hb⟩
  have B := Lib.hid hb
  have HT := Lib.hid (HT.out.below hb)
  have O := Lib.hid ho
  clear hb ho hP
  obtain ⟨r, hr⟩ := runsIs_some n x zs
  have HR := Lib.hid hr
  go_wp2_with fail
  (with_reducible refine (impl_RoundsRun_any n x _ zs _ (Lib.hid O.out.reads) r HR HT).mono ?_)
  rintro e w2 ⟨rfl, hb⟩
  have O := Lib.hid (O.out.below hb)
  have HT := Lib.hid (HT.out.below hb)
  have B := Lib.hid (B.out.trans (hb.mono B.out.size))
  clear hb
  go_wp2_with fail
  (with_reducible refine (spec_RoundsRun_any n x _ zs _ (Lib.hid O.out.reads) r HR).mono ?_)
  rintro e w2 ⟨rfl, hb⟩
  have O := Lib.hid (O.out.below hb)
  have HT := Lib.hid (HT.out.below hb)
  have B := Lib.hid (B.out.trans (hb.mono B.out.size))
  clear hb
  have hrr : (r != r) = false := by simp
  by_cases hok : (WordOk n x ∧ zs.length ≤ 12) ∧ (∀ j, j < zs.length → RndOk n (Bw.nth zs j))
  · obtain rfl := hr.1 hok
    obtain ⟨⟨hx, hl⟩, hall⟩ := hok
    obtain ⟨n, x, rfl, rfl⟩ := word_nat hx
    rw [Int.toNat_natCast, Int.toNat_natCast] at hr HR hrr ⊢
    have hw := hx.1
    have hn : n ≤ 12 := by omega
    have hxl := gword_lt hx
    have hrnd := fun j hj => (hall j hj).rnd
    have hyl := Bw.runs_lt (n := n) (x := x) (rs := zs) hxl zs.length hrnd
    have hpc := Bw.runs_pc (n := n) (x := x) (rs := zs) zs.length hrnd
    have CB := Lib.hid (fun ha v w h t => run_back (show 1 ≤ n by omega) hn hxl hl hall ha v w h t)
    have C1 := Lib.hid (fun w => impl_OnesOf_yes n (Bw.runs n x zs zs.length) w (gword_ok (by omega) hn hyl))
    have C2 := Lib.hid (fun w => impl_OnesOf_yes n x w hx)
    rw [hpc] at C1
    obtain ⟨y, hy⟩ : ∃ y, Bw.runs n x zs zs.length = y := ⟨_, rfl⟩
    obtain ⟨o, hoo⟩ : ∃ o, Bw.pc x n = o := ⟨_, rfl⟩
    rw [hy] at C1 CB hrr ⊢
    rw [hoo] at C1 C2
    have HALL := Lib.hid hall
    clear hr HR hy hoo hpc hyl hrnd hall hx hxl
    rcases O.out.reads with ⟨h00, a3, cap3, rfl⟩ | ⟨h00, b, off, cap3, rfl, hc3, hlt3, hcell3⟩
    · subst h00
      have HT0 := Lib.hid (HT.out.below ((Below.refl w2.heap.size w2).alloc (Nat.le_refl _) (.cells #[] 3)))
      have B2 := Lib.hid (B.out.alloc B.out.size (.cells #[] 3))
      have CB1 := Lib.hid (fun u c w t => CB.out (fun j hj => absurd hj (by simp)) (.slice u 0 c) w (Lib.hid (Bw.Reads.nil w u c)) t)
      have hxx : ((x : Int) == (x : Int)) = true := by simp
      have hoo : ((o : Int) == (o : Int)) = true := by simp
      go_wp2_with fail
      refine wp_loop_rounds 1 ?_
      rw [rounds_succ]
      go_wp2_with (first | (go_at_call 18; ((with_reducible refine (C1.out _).mono ?_); rintro e w' ⟨rfl, rfl⟩)) | (go_at_call 18; ((with_reducible refine (C2.out _).mono ?_); rintro e w' ⟨rfl, rfl⟩)))
      (with_reducible refine (CB1.out _ _ _ HT0).mono ?_)
      rintro e w4 ⟨rfl, hb⟩
      have B3 := Lib.hid (B2.out.trans (hb.mono B2.out.size))
      clear hb
      go_wp2_with fail
      go_ret
      exact ⟨ret_bool (by simp), B3.out⟩
    · have HC := Lib.hid hcell3
      obtain ⟨m, hm⟩ : ∃ m, zs.length = m := ⟨_, rfl⟩
      have HM := Lib.hid hm
      rw [hm] at hl hc3 HC HALL CB hl20 ⊢
      clear hcell3 hm
      obtain ⟨wl, hwl⟩ : ∃ wl : World, wl = w2 := ⟨_, rfl⟩
      have hsl := B.out.size
      have hE := Bw.own_madeB 3 w2
      have hBE : Below w2.heap.size w2 (w2.alloc (.cells #[] 3)) := (Below.refl _ _).alloc (Nat.le_refl _) _
      rw [← hwl] at hE hBE HC hlt3 HT B hsl O ⊢
      have HE := Lib.hid hE
      have HBE := Lib.hid hBE
      clear hwl hE hBE
      go_wp2_with fail
      go_loopw [7, 8, 9] (fun u p i wr => ∃ (c : Nat) (ap : Bool) (bs : List Int), c ≤ m ∧ i = .int .i64 ((c : Int) - 1) ∧ p = .bool ap ∧ Hid (bs = (zs.drop c).reverse) ∧ Hid (ap = true → ∀ j, c ≤ j → j < m → Bw.Apart (Bw.pl zs j)) ∧ Hid (Bw.Own 3 wl.heap.size wr u bs) ∧ Hid (Below wl.heap.size wl wr)) (fun _ _ i _ => (intOf i + 1).toNat)
      case atStart => exact ⟨m, true, [], Nat.le_refl _, rfl, rfl, by unfold Hid; rw [← HM.out]; simp, fun _ j h1 h2 => absurd h1 (by omega), HE, HBE⟩
      case round =>
        obtain ⟨c, ap, bs, hcm, rfl, rfl, HBS, HAP, OW, BE⟩ := hrel
        rcases c with _ | c
        · have e0 : ((0 : Nat) : Int) - 1 = -1 := by omega
          rw [e0]
          have HT0 := Lib.hid (HT.out.below BE.out)
          have hoo : ((o : Int) == (o : Int)) = true := by simp
          have B2 := Lib.hid (B.out.trans (BE.out.mono hsl))
          cases ap
          · go_wp2_with (first | (go_at_call 18; ((with_reducible refine (C1.out _).mono ?_); rintro e w' ⟨rfl, rfl⟩)) | (go_at_call 18; ((with_reducible refine (C2.out _).mono ?_); rintro e w' ⟨rfl, rfl⟩)))
            go_ret
            exact ⟨ret_bool (by simp), B2.out⟩
          · have hrev : Hid (bs = zs.reverse) := by have h := HBS.out; rwa [List.drop_zero] at h
            have HRD : Hid (Bw.Reads wr u7 zs.reverse) := by have h := OW.out.reads; rwa [hrev.out] at h
            have CB1 := Lib.hid (fun w t => CB.out (fun j hj => HAP.out rfl j (by omega) hj) u7 w t)
            have hxx : ((x : Int) == (x : Int)) = true := by simp
            go_wp2_with (first | (go_at_call 18; ((with_reducible refine (C1.out _).mono ?_); rintro e w' ⟨rfl, rfl⟩)) | (go_at_call 18; ((with_reducible refine (C2.out _).mono ?_); rintro e w' ⟨rfl, rfl⟩)))
            (with_reducible refine (CB1.out _ HRD HT0).mono ?_)
            rintro e w4 ⟨rfl, hb⟩
            have B3 := Lib.hid (B2.out.trans (hb.mono B2.out.size))
            clear hb
            go_wp2_with fail
            go_ret
            exact ⟨ret_bool (by simp), B3.out⟩
        · have ec : ((c + 1 : Nat) : Int) - 1 = (c : Int) := by omega
          rw [ec]
          have hcell : wr.cell? ⟨b, off + c, none⟩ = some (.int .i64 (Bw.nth zs c)) := (BE.out.cell (p := ⟨b, off + c, none⟩) hlt3).trans (HC.out c (by omega))
          have hok := HALL.out c (by omega)
          have hrnd := hok.rnd
          obtain ⟨z, hz⟩ := Int.eq_ofNat_of_zero_le hok.1.2.1
          have hpl : Bw.pl zs c = z := by unfold Bw.pl; rw [hz]; simp
          have HDR : Hid ((zs.drop c).reverse = bs ++ [(z : Int)]) := by
            unfold Hid
            rw [drop_back (by rw [HM.out]; omega), ← HBS.out, hz]
          rw [hz] at hok hrnd hcell
          rw [Int.toNat_natCast] at hrnd
          have HZ := Lib.hid hok.1
          have hbl : bs.length ≤ 12 := by rw [HBS.out, List.length_reverse, List.length_drop, HM.out]; omega
          have hsz := BE.out.size
          have hrow := (Bw.Own.row OW.out).alloc (.cells #[.int .i64 (z : Int)] 3)
          have HRND := Lib.hid hrnd
          have HPL := Lib.hid hpl
          clear hz hok hrnd hpl
          go_wp2_with (at_builtin; refine wpList_append_own _ rfl _ _ 29 rfl wl.heap.size 3 i0 (.int .i64 0) 1 8 Tryd.underlying29 hi hz0 hz1 hz2 rfl (by decide) _ bs.length _ rfl hrow ⟨wr.heap.size, 0, none⟩ 1 1 [.int .i64 (z : Int)] rfl rfl (cell_one_new _ _ _) (ints_oneCell .i64 [(z : Int)]) (by unfold maxLen; omega) (by omega) (by simp; omega) ?_)
          intro u' w3 hown3 hgrow hnil
          have HO3 : Hid (Bw.Own 3 wl.heap.size w3 u' (bs ++ [(z : Int)])) := Bw.own_snoc hown3
          have HB3 : Hid (Below wl.heap.size wl w3) := (BE.out.alloc hsz _).grown hgrow (by simp; omega) (fun k e => (hrow.lt k e).1)
          have hcell3 : w3.cell? ⟨b, off + c, none⟩ = some (.int .i64 (z : Int)) := by
            rw [(HB3.out.cell (p := ⟨b, off + c, none⟩) hlt3), HC.out c (by omega)]
            have h := (BE.out.cell (p := ⟨b, off + c, none⟩) hlt3).symm.trans hcell
            rw [HC.out c (by omega)] at h
            exact h
          clear hown3 hgrow hnil hrow hcell
          have HLEN : Hid ((zs.drop c).reverse = bs ++ [(z : Int)]) := HDR.out
          cases ap
          · go_wp2_with fail
            go_quiet (fail)
            go_wp2_with fail
            go_roundw
            case rel => exact ⟨c, false, bs ++ [(z : Int)], by omega, by first | rfl | go_num, rfl, HDR.out.symm, (fun h => by cases h), by exact HO3.out.below (Go.below_drewN (Below.refl _ _) _), Go.below_drewN HB3.out _⟩
            case measure => simp [intOf]
          · have CL := Lib.hid (fun w => WordLeft_one n z w HZ)
            have hr2 : 2 * z % 2 ^ n < 2 ^ n := Nat.mod_lt _ (Nat.two_pow_pos _)
            have CA := Lib.hid (fun w => WordAnd_yes n z (2 * z % 2 ^ n) w HZ (gword_ok (by have := HZ.out.1; omega) hn hr2))
            have HAT := Lib.hid (apart_test HRND.out)
            obtain ⟨t, ht⟩ : ∃ t, 2 * z % 2 ^ n = t := ⟨_, rfl⟩
            rw [ht] at CL CA HAT
            obtain ⟨q, hq⟩ : ∃ q, z &&& t = q := ⟨_, rfl⟩
            rw [hq] at CA HAT
            have M1 : Hid (∀ w', Below w3.heap.size w3 w' → Calls Tryd.prog 17 #[.int .i64 n, .int .i64 z, .int .i64 1] w' fun e w'' => e = .returned (.int .i64 (t : Int)) ∧ Below w3.heap.size w3 w'') := fun w' hb =>
              (CL.out w').mono fun e w'' ⟨he, hb2⟩ => ⟨he, hb.trans (hb2.mono hb.size)⟩
            have M2 : Hid (∀ w', Below w3.heap.size w3 w' → Calls Tryd.prog 16 #[.int .i64 n, .int .i64 z, .int .i64 t] w' fun e w'' => e = .returned (.int .i64 (q : Int)) ∧ Below w3.heap.size w3 w'') := fun w' hb =>
              (CA.out w').mono fun e w'' ⟨he, hb2⟩ => ⟨he, hb.trans (hb2.mono hb.size)⟩
            have hbd : Below w3.heap.size w3 w3.drew := (Below.refl _ _).drew
            have hlt4 : b < w3.heap.size := Nat.lt_of_lt_of_le hlt3 HB3.out.size
            clear ht hq hr2 CL CA
            go_wp2_with fail
            have hci0 : (0 : Int) ≤ (c : Int) := Int.natCast_nonneg _
            have hci1 : (c : Int) < (m : Int) := by omega
            have hci2 : c < m := by omega
            have hcd : w3.drew.cell? ⟨b, off + c, none⟩ = some (.int .i64 (z : Int)) := (hbd.cell (p := ⟨b, off + c, none⟩) hlt4).trans hcell3
            go_region_held3 (fun w' => Below w3.heap.size w3 w' ∧ w'.cell? ⟨b, off + c, none⟩ = some (.int .i64 (z : Int))) (first | exact ⟨hbd, hcd⟩ | exact ⟨hb, (hb.cell (p := ⟨b, off + c, none⟩) hlt4).trans hcell3⟩ | exact ⟨hb2, (hb2.cell (p := ⟨b, off + c, none⟩) hlt4).trans hcell3⟩) (first
              | (go_at_call 17; (with_reducible refine (M1.out _ ?_).mono ?_); assumption; rintro e w4 ⟨rfl, hb⟩)
              | (go_at_call 16; (with_reducible refine (M2.out _ ?_).mono ?_); assumption; rintro e w5 ⟨rfl, hb2⟩))
            all_goals
              have hqa : ((q : Int) == 0) = true → Bw.Apart z := fun h => HAT.out (by rw [beq_iff_eq] at h; omega)
              obtain ⟨ap2, hap2⟩ : ∃ ap2, ((q : Int) == 0) = ap2 := ⟨_, rfl⟩
              rw [hap2] at hqa ⊢
              have HAP2 : Hid (ap2 = true → ∀ j, c ≤ j → j < m → Bw.Apart (Bw.pl zs j)) := fun h j h1 h2 => by
                by_cases e : j = c
                · rw [e, HPL.out]; exact hqa h
                · exact HAP.out (by first | trivial | rfl) j (by omega) h2
              have HB5 := Lib.hid (HB3.out.trans (hb2.mono HB3.out.size))
              have HO5 := Lib.hid (HO3.out.below hb2)
              clear hqa hap2
              go_wp2_with fail
              go_roundw
              case rel => exact ⟨c, ap2, bs ++ [(z : Int)], by omega, by first | rfl | go_num, rfl, HDR.out.symm, HAP2, HO5, HB5⟩
              case measure => simp [intOf]
  · obtain rfl := hr.2 hok
    clear hok hr HR
    go_wp2_with fail
    refine (alive_any _).mono ?_
    rintro e w2 ⟨rfl, hb2⟩
    have HB2 := Lib.hid hb2
    clear hb2
    go_wp2_with fail
    go_ret
    exact ⟨rfl, B.out.trans (HB2.out.mono B.out.size)⟩

end Go.Proofs.YtbknmokoegembacDoor
