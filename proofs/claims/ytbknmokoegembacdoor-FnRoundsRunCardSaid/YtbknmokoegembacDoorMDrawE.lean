/- Contracts: drawn rounds. -/
import Derived.Test.YtbknmokoegembacDoorMDrawB
import Derived.Test.YtbknmokoegembacDoorFnOrdE

namespace Go.Proofs.YtbknmokoegembacDoor
open Go.RowKit
set_option linter.unusedVariables false

set_option maxRecDepth 100000 in
set_option maxHeartbeats 2000000 in
theorem DrawRoundsRun_any (a : Option Addr) (n cap : Nat) (w : World) (hc : CodeIs w a n cap) :
    Calls Tryd.prog 13 #[.slice a n cap] w fun e w' => ∃ d x v zs, e = .returned (.tuple #[.int .i64 d, .int .i64 x, v]) ∧ Bw.Own 3 w.heap.size w' v zs ∧ zs.length ≤ 20 ∧ ((-1 ≤ d ∧ d ≤ 13) ∧ -1 ≤ x ∧ x ≤ 4096) ∧ Below w.heap.size w w' := by
  obtain ⟨i0, hi, hz0, hz1, hz2⟩ := info_parts infoInt
  have HC := Lib.hid hc
  clear hc
  go_enter Tryd.func13, Tryd.ntmps13
  go_wp2_with fail
  refine (open_any a n cap _ HC.out.1 HC.out.2.1 HC.out.2.2).mono ?_
  rintro e w0 ⟨g, rfl, hgB, hr0, hb0⟩
  have H0 := Lib.hid hr0
  have B0 := Lib.hid hb0
  have G0 := Lib.hid (World.grownBy.refl w0 (some g))
  clear hr0 hb0
  have hlt0 := H0.out.lt
  go_wp2_with fail
  refine (l20One_any g _ 12 _ H0.out (by omega) (by omega) (by omega)).mono ?_
  rintro e w1 ⟨d, x, rfl, hP, hr1, hg1⟩
  have H1 := Lib.hid hr1
  have G1 := Lib.hid hg1
  have hs1 := hg1.size
  have HP := Lib.hid hP
  have hd13 := hP.1.2
  have hdm := hP.1.1
  clear hr1 hg1 hP
  by_cases hd : 1 ≤ d ∧ d ≤ 12
  · obtain ⟨k, rfl⟩ : ∃ k : Nat, d = (k : Int) + 1 := ⟨(d - 1).toNat, by omega⟩
    have hk11 : k ≤ 11 := by omega
    clear hd hd13 hdm
    go_wp2_with fail
    (with_reducible refine (l20Order_any g _ _ 0 _ H1.out (by omega) (by omega) (by omega) (by omega)).mono ?_)
    rintro e w2 ⟨ov, os, rfl, ho, hl14, hr2, hg2⟩
    have OO := Lib.hid (ho.mono hs1)
    have H2 := Lib.hid hr2
    have G2 := Lib.hid (Bw.grown_trans G1.out hg2)
    have hs2 := G2.out.size
    clear ho hr2 hg2
    obtain ⟨out, hout⟩ := Bw.roundsIs_some os
    have ho12 := hout.len
    have HR := Lib.hid hout
    clear hout
    go_wp2_with fail
    (with_reducible refine (spec_RoundsOf_any _ os out _ OO.out.reads (by omega) HR).mono ?_)
    rintro e w3 ⟨rv, rfl, ho3, hb3⟩
    have OR := Lib.hid (ho3.mono hs2)
    have H3 := Lib.hid (H2.out.below hb3)
    have G3 := Lib.hid (Bw.grown_trans G2.out (Bw.grown_of_below hb3))
    clear ho3 hb3 OO HR
    go_wp2_with fail
    refine (pick_any g _ 3 _ H3.out (by omega)).mono ?_
    rintro e w4 ⟨p, rfl, hp, hr4, hg4⟩
    have OR := Lib.hid (OR.out.grown hg4 (Bw.own_ne_g OR.out hlt0))
    have hp0 := hp.1
    have hp1 := hp.2.1 (by omega)
    have H4 := Lib.hid hr4
    have G4 := Lib.hid (Bw.grown_trans G3.out hg4)
    have hs4 := G4.out.size
    clear hp hr4 hg4
    by_cases hp3 : p = 0
    · subst hp3
      have hE := (Bw.own_madeB 3 w4).mono hs4
      go_wp2_with fail
      refine (pick_any g _ 5 _ (rd_alloc H4.out _) (by omega)).mono ?_
      rintro e w5 ⟨c, rfl, hp, hr5, hg5⟩
      have OE := Lib.hid (hE.grown hg5 (Bw.own_ne_g hE hlt0))
      have H5 := Lib.hid hr5
      have G5 := Lib.hid (Bw.grown_trans (Bw.grown_alloc G4.out _) hg5)
      have hc1 := hp.2.1 (by omega)
      obtain ⟨c, rfl⟩ := Int.eq_ofNat_of_zero_le hp.1
      clear hp hr5 hg5 hE OR
      go_wp2_with fail
      go_loopw [8, 9] (fun u i wr => ∃ (ws : List Int) (c : Nat), i = .int .i64 c ∧ c + ws.length ≤ 4 ∧ Hid (Bw.Own 3 w0.heap.size wr u ws) ∧ Hid (Bw.Rd 59 wr g (34 + 8 * ws.length)) ∧ Hid (w0.grownBy wr (some g))) (fun _ i _ => (intOf i).toNat)
      case atStart => exact ⟨[], c, rfl, by simp; omega, OE, H5.out.more (by simp), G5⟩
      case round =>
        obtain ⟨ws, c, rfl, hc4, OW, HD, HG⟩ := hrel
        rcases c with _ | c
        · go_wp2_with fail
          refine (odd_any g _ 20 _ HD.out (by omega) (by omega) (by omega)).mono ?_
          rintro e w5 ⟨y, rfl, hr5, hg5⟩
          have O5 := Lib.hid (OW.out.grown hg5 (Bw.own_ne_g OW.out hlt0))
          have H5 := Lib.hid hr5
          have G5 := Lib.hid (Bw.grown_trans HG.out hg5)
          have hs5 := G5.out.size
          clear hr5 hg5
          cases y
          · go_wp2_with fail
            go_ret3
            exact ⟨_, x, _, _, rfl, O5.out.mono B0.out.size, by omega, HP.out, Bw.below_of_grown B0.out G5.out B0.out.size hgB⟩
          · have hown5 := (Bw.Own.row O5.out).alloc (.cells #[.int .i64 (wrap64 (2 ^ k))] 3)
            have hge := Lib.hid hown5.lt
            go_wp2_with (at_builtin; refine wpList_append_own _ rfl _ _ 29 rfl w0.heap.size 3 i0 (.int .i64 0) 1 8 Tryd.underlying29 hi hz0 hz1 hz2 rfl (by decide) _ ws.length _ rfl hown5 ⟨w5.heap.size, 0, none⟩ 1 1 [.int .i64 (wrap64 (2 ^ k))] rfl rfl (cell_one_new _ _ _) (ints_oneCell .i64 [wrap64 (2 ^ k)]) (by unfold maxLen; omega) (by omega) (by simp; omega) ?_)
            intro v6 w6 hown6 hgrow6 hnil6
            have HO : Hid (Bw.Own 3 w0.heap.size w6 v6 (ws ++ [wrap64 (2 ^ k)])) := Bw.own_snoc hown6
            have G6 := Lib.hid (grown_own (Bw.grown_alloc G5.out _) hgrow6 (fun k e => (hge.out k e).1))
            clear hown6 hgrow6 hnil6 hown5
            go_wp2_with fail
            go_ret3
            exact ⟨_, x, v6, _, rfl, HO.out.mono B0.out.size, by simp; omega, HP.out, Bw.below_of_grown B0.out G6.out B0.out.size hgB⟩
        · have hcp : decide (0 < ((c + 1 : Nat) : Int)) = true := by simp
          go_wp2_with fail
          refine (l20Word_any g _ _ 30 _ HD.out (by omega) (by omega) (by omega)).mono ?_
          rintro e w6 ⟨y, rfl, yP, hr6, hg6⟩
          have O6 := Lib.hid (OW.out.grown hg6 (Bw.own_ne_g OW.out hlt0))
          have H6 := Lib.hid hr6
          have G6 := Lib.hid (Bw.grown_trans HG.out hg6)
          have hs6 := G6.out.size
          have hy0 := yP.1
          have hy1 := yP.2
          clear hr6 hg6 yP OW HD HG
          by_cases hy : 0 ≤ y
          · have hyt : y.tdiv 2 = y / 2 := Int.tdiv_eq_ediv_of_nonneg hy
            have hown7 := (Bw.Own.row O6.out).alloc (.cells #[.int .i64 (y / 2)] 3)
            have hge := Lib.hid hown7.lt
            go_wp2_with (at_builtin; refine wpList_append_own _ rfl _ _ 29 rfl w0.heap.size 3 i0 (.int .i64 0) 1 8 Tryd.underlying29 hi hz0 hz1 hz2 rfl (by decide) _ ws.length _ rfl hown7 ⟨w6.heap.size, 0, none⟩ 1 1 [.int .i64 (y / 2)] rfl rfl (cell_one_new _ _ _) (ints_oneCell .i64 [y / 2]) (by unfold maxLen; omega) (by omega) (by simp; omega) ?_)
            intro v7 w7 hown8 hgrow8 hnil8
            have HO : Hid (Bw.Own 3 w0.heap.size w7 v7 (ws ++ [y / 2])) := Bw.own_snoc hown8
            have H7 := Lib.hid (rd_own (rd_alloc H6.out _) hgrow8 (fun k e => by have := (hge.out k e).1; omega))
            have G7 := Lib.hid (grown_own (Bw.grown_alloc G6.out _) hgrow8 (fun k e => (hge.out k e).1))
            have HL : Hid ((ws ++ [y / 2]).length = ws.length + 1) := by unfold Hid; simp
            clear hown8 hgrow8 hnil8 hown7
            go_wp2_with fail
            go_roundw
            case rel => exact ⟨_, c, by first | go_num | simp, by rw [HL.out]; omega, HO, H7.out.more (by rw [HL.out]; omega), G7⟩
            case measure => simp [intOf]
          · obtain rfl : y = -1 := by omega
            have hown7 := (Bw.Own.row O6.out).alloc (.cells #[.int .i64 (0)] 3)
            have hge := Lib.hid hown7.lt
            go_wp2_with (at_builtin; refine wpList_append_own _ rfl _ _ 29 rfl w0.heap.size 3 i0 (.int .i64 0) 1 8 Tryd.underlying29 hi hz0 hz1 hz2 rfl (by decide) _ ws.length _ rfl hown7 ⟨w6.heap.size, 0, none⟩ 1 1 [.int .i64 (0)] rfl rfl (cell_one_new _ _ _) (ints_oneCell .i64 [0]) (by unfold maxLen; omega) (by omega) (by simp; omega) ?_)
            intro v7 w7 hown8 hgrow8 hnil8
            have HO : Hid (Bw.Own 3 w0.heap.size w7 v7 (ws ++ [0])) := Bw.own_snoc hown8
            have H7 := Lib.hid (rd_own (rd_alloc H6.out _) hgrow8 (fun k e => by have := (hge.out k e).1; omega))
            have G7 := Lib.hid (grown_own (Bw.grown_alloc G6.out _) hgrow8 (fun k e => (hge.out k e).1))
            have HL : Hid ((ws ++ [0]).length = ws.length + 1) := by unfold Hid; simp
            clear hown8 hgrow8 hnil8 hown7
            go_wp2_with fail
            go_roundw
            case rel => exact ⟨_, c, by first | go_num | simp, by rw [HL.out]; omega, HO, H7.out.more (by rw [HL.out]; omega), G7⟩
            case measure => simp [intOf]
    · have hp4 : (p == 0) = false := by simpa using hp3
      clear hp3
      go_wp2_with fail
      refine (odd_any g _ 20 _ H4.out (by omega) (by omega) (by omega)).mono ?_
      rintro e w5 ⟨y, rfl, hr5, hg5⟩
      have O5 := Lib.hid (OR.out.grown hg5 (Bw.own_ne_g OR.out hlt0))
      have H5 := Lib.hid hr5
      have G5 := Lib.hid (Bw.grown_trans G4.out hg5)
      have hs5 := G5.out.size
      clear hr5 hg5
      cases y
      · go_wp2_with fail
        go_ret3
        exact ⟨_, x, _, _, rfl, O5.out.mono B0.out.size, by omega, HP.out, Bw.below_of_grown B0.out G5.out B0.out.size hgB⟩
      · have hown5 := (Bw.Own.row O5.out).alloc (.cells #[.int .i64 (wrap64 (2 ^ k))] 3)
        have hge := Lib.hid hown5.lt
        go_wp2_with (at_builtin; refine wpList_append_own _ rfl _ _ 29 rfl w0.heap.size 3 i0 (.int .i64 0) 1 8 Tryd.underlying29 hi hz0 hz1 hz2 rfl (by decide) _ out.length _ rfl hown5 ⟨w5.heap.size, 0, none⟩ 1 1 [.int .i64 (wrap64 (2 ^ k))] rfl rfl (cell_one_new _ _ _) (ints_oneCell .i64 [wrap64 (2 ^ k)]) (by unfold maxLen; omega) (by omega) (by simp; omega) ?_)
        intro v6 w6 hown6 hgrow6 hnil6
        have HO : Hid (Bw.Own 3 w0.heap.size w6 v6 (out ++ [wrap64 (2 ^ k)])) := Bw.own_snoc hown6
        have G6 := Lib.hid (grown_own (Bw.grown_alloc G5.out _) hgrow6 (fun k e => (hge.out k e).1))
        clear hown6 hgrow6 hnil6 hown5
        go_wp2_with fail
        go_ret3
        exact ⟨_, x, v6, _, rfl, HO.out.mono B0.out.size, by simp; omega, HP.out, Bw.below_of_grown B0.out G6.out B0.out.size hgB⟩
  · by_cases hd1 : d < 1
    · clear hd
      go_wp2_with fail
      (with_reducible refine (l20Order_any g _ _ 0 _ H1.out (by omega) (by omega) (by omega) (by omega)).mono ?_)
      rintro e w2 ⟨ov, os, rfl, ho, hl14, hr2, hg2⟩
      have OO := Lib.hid (ho.mono hs1)
      have H2 := Lib.hid hr2
      have G2 := Lib.hid (Bw.grown_trans G1.out hg2)
      have hs2 := G2.out.size
      clear ho hr2 hg2
      obtain ⟨out, hout⟩ := Bw.roundsIs_some os
      have ho12 := hout.len
      have HR := Lib.hid hout
      clear hout
      go_wp2_with fail
      (with_reducible refine (spec_RoundsOf_any _ os out _ OO.out.reads (by omega) HR).mono ?_)
      rintro e w3 ⟨rv, rfl, ho3, hb3⟩
      have OR := Lib.hid (ho3.mono hs2)
      have H3 := Lib.hid (H2.out.below hb3)
      have G3 := Lib.hid (Bw.grown_trans G2.out (Bw.grown_of_below hb3))
      clear ho3 hb3 OO HR
      go_wp2_with fail
      refine (pick_any g _ 3 _ H3.out (by omega)).mono ?_
      rintro e w4 ⟨p, rfl, hp, hr4, hg4⟩
      have OR := Lib.hid (OR.out.grown hg4 (Bw.own_ne_g OR.out hlt0))
      have hp0 := hp.1
      have hp1 := hp.2.1 (by omega)
      have H4 := Lib.hid hr4
      have G4 := Lib.hid (Bw.grown_trans G3.out hg4)
      have hs4 := G4.out.size
      clear hp hr4 hg4
      by_cases hp3 : p = 0
      · subst hp3
        have hE := (Bw.own_madeB 3 w4).mono hs4
        go_wp2_with fail
        refine (pick_any g _ 5 _ (rd_alloc H4.out _) (by omega)).mono ?_
        rintro e w5 ⟨c, rfl, hp, hr5, hg5⟩
        have OE := Lib.hid (hE.grown hg5 (Bw.own_ne_g hE hlt0))
        have H5 := Lib.hid hr5
        have G5 := Lib.hid (Bw.grown_trans (Bw.grown_alloc G4.out _) hg5)
        have hc1 := hp.2.1 (by omega)
        obtain ⟨c, rfl⟩ := Int.eq_ofNat_of_zero_le hp.1
        clear hp hr5 hg5 hE OR
        go_wp2_with fail
        go_loopw [8, 9] (fun u i wr => ∃ (ws : List Int) (c : Nat), i = .int .i64 c ∧ c + ws.length ≤ 4 ∧ Hid (Bw.Own 3 w0.heap.size wr u ws) ∧ Hid (Bw.Rd 59 wr g (34 + 8 * ws.length)) ∧ Hid (w0.grownBy wr (some g))) (fun _ i _ => (intOf i).toNat)
        case atStart => exact ⟨[], c, rfl, by simp; omega, OE, H5.out.more (by simp), G5⟩
        case round =>
          obtain ⟨ws, c, rfl, hc4, OW, HD, HG⟩ := hrel
          rcases c with _ | c
          · go_wp2_with fail
            refine (odd_any g _ 20 _ HD.out (by omega) (by omega) (by omega)).mono ?_
            rintro e w5 ⟨y, rfl, hr5, hg5⟩
            have O5 := Lib.hid (OW.out.grown hg5 (Bw.own_ne_g OW.out hlt0))
            have H5 := Lib.hid hr5
            have G5 := Lib.hid (Bw.grown_trans HG.out hg5)
            have hs5 := G5.out.size
            clear hr5 hg5
            cases y
            · go_wp2_with fail
              go_ret3
              exact ⟨_, x, _, _, rfl, O5.out.mono B0.out.size, by omega, HP.out, Bw.below_of_grown B0.out G5.out B0.out.size hgB⟩
            · have hown5 := (Bw.Own.row O5.out).alloc (.cells #[.int .i64 1] 3)
              have hge := Lib.hid hown5.lt
              go_wp2_with (at_builtin; refine wpList_append_own _ rfl _ _ 29 rfl w0.heap.size 3 i0 (.int .i64 0) 1 8 Tryd.underlying29 hi hz0 hz1 hz2 rfl (by decide) _ ws.length _ rfl hown5 ⟨w5.heap.size, 0, none⟩ 1 1 [.int .i64 1] rfl rfl (cell_one_new _ _ _) (ints_oneCell .i64 [1]) (by unfold maxLen; omega) (by omega) (by simp; omega) ?_)
              intro v6 w6 hown6 hgrow6 hnil6
              have HO : Hid (Bw.Own 3 w0.heap.size w6 v6 (ws ++ [1])) := Bw.own_snoc hown6
              have G6 := Lib.hid (grown_own (Bw.grown_alloc G5.out _) hgrow6 (fun k e => (hge.out k e).1))
              clear hown6 hgrow6 hnil6 hown5
              go_wp2_with fail
              go_ret3
              exact ⟨_, x, v6, _, rfl, HO.out.mono B0.out.size, by simp; omega, HP.out, Bw.below_of_grown B0.out G6.out B0.out.size hgB⟩
          · have hcp : decide (0 < ((c + 1 : Nat) : Int)) = true := by simp
            go_wp2_with fail
            refine (l20Word_any g _ _ 30 _ HD.out (by omega) (by omega) (by omega)).mono ?_
            rintro e w6 ⟨y, rfl, yP, hr6, hg6⟩
            have O6 := Lib.hid (OW.out.grown hg6 (Bw.own_ne_g OW.out hlt0))
            have H6 := Lib.hid hr6
            have G6 := Lib.hid (Bw.grown_trans HG.out hg6)
            have hs6 := G6.out.size
            have hy0 := yP.1
            have hy1 := yP.2
            clear hr6 hg6 yP OW HD HG
            by_cases hy : 0 ≤ y
            · have hyt : y.tdiv 2 = y / 2 := Int.tdiv_eq_ediv_of_nonneg hy
              have hown7 := (Bw.Own.row O6.out).alloc (.cells #[.int .i64 (y / 2)] 3)
              have hge := Lib.hid hown7.lt
              go_wp2_with (at_builtin; refine wpList_append_own _ rfl _ _ 29 rfl w0.heap.size 3 i0 (.int .i64 0) 1 8 Tryd.underlying29 hi hz0 hz1 hz2 rfl (by decide) _ ws.length _ rfl hown7 ⟨w6.heap.size, 0, none⟩ 1 1 [.int .i64 (y / 2)] rfl rfl (cell_one_new _ _ _) (ints_oneCell .i64 [y / 2]) (by unfold maxLen; omega) (by omega) (by simp; omega) ?_)
              intro v7 w7 hown8 hgrow8 hnil8
              have HO : Hid (Bw.Own 3 w0.heap.size w7 v7 (ws ++ [y / 2])) := Bw.own_snoc hown8
              have H7 := Lib.hid (rd_own (rd_alloc H6.out _) hgrow8 (fun k e => by have := (hge.out k e).1; omega))
              have G7 := Lib.hid (grown_own (Bw.grown_alloc G6.out _) hgrow8 (fun k e => (hge.out k e).1))
              have HL : Hid ((ws ++ [y / 2]).length = ws.length + 1) := by unfold Hid; simp
              clear hown8 hgrow8 hnil8 hown7
              go_wp2_with fail
              go_roundw
              case rel => exact ⟨_, c, by first | go_num | simp, by rw [HL.out]; omega, HO, H7.out.more (by rw [HL.out]; omega), G7⟩
              case measure => simp [intOf]
            · obtain rfl : y = -1 := by omega
              have hown7 := (Bw.Own.row O6.out).alloc (.cells #[.int .i64 (0)] 3)
              have hge := Lib.hid hown7.lt
              go_wp2_with (at_builtin; refine wpList_append_own _ rfl _ _ 29 rfl w0.heap.size 3 i0 (.int .i64 0) 1 8 Tryd.underlying29 hi hz0 hz1 hz2 rfl (by decide) _ ws.length _ rfl hown7 ⟨w6.heap.size, 0, none⟩ 1 1 [.int .i64 (0)] rfl rfl (cell_one_new _ _ _) (ints_oneCell .i64 [0]) (by unfold maxLen; omega) (by omega) (by simp; omega) ?_)
              intro v7 w7 hown8 hgrow8 hnil8
              have HO : Hid (Bw.Own 3 w0.heap.size w7 v7 (ws ++ [0])) := Bw.own_snoc hown8
              have H7 := Lib.hid (rd_own (rd_alloc H6.out _) hgrow8 (fun k e => by have := (hge.out k e).1; omega))
              have G7 := Lib.hid (grown_own (Bw.grown_alloc G6.out _) hgrow8 (fun k e => (hge.out k e).1))
              have HL : Hid ((ws ++ [0]).length = ws.length + 1) := by unfold Hid; simp
              clear hown8 hgrow8 hnil8 hown7
              go_wp2_with fail
              go_roundw
              case rel => exact ⟨_, c, by first | go_num | simp, by rw [HL.out]; omega, HO, H7.out.more (by rw [HL.out]; omega), G7⟩
              case measure => simp [intOf]
      · have hp4 : (p == 0) = false := by simpa using hp3
        clear hp3
        go_wp2_with fail
        refine (odd_any g _ 20 _ H4.out (by omega) (by omega) (by omega)).mono ?_
        rintro e w5 ⟨y, rfl, hr5, hg5⟩
        have O5 := Lib.hid (OR.out.grown hg5 (Bw.own_ne_g OR.out hlt0))
        have H5 := Lib.hid hr5
        have G5 := Lib.hid (Bw.grown_trans G4.out hg5)
        have hs5 := G5.out.size
        clear hr5 hg5
        cases y
        · go_wp2_with fail
          go_ret3
          exact ⟨_, x, _, _, rfl, O5.out.mono B0.out.size, by omega, HP.out, Bw.below_of_grown B0.out G5.out B0.out.size hgB⟩
        · have hown5 := (Bw.Own.row O5.out).alloc (.cells #[.int .i64 1] 3)
          have hge := Lib.hid hown5.lt
          go_wp2_with (at_builtin; refine wpList_append_own _ rfl _ _ 29 rfl w0.heap.size 3 i0 (.int .i64 0) 1 8 Tryd.underlying29 hi hz0 hz1 hz2 rfl (by decide) _ out.length _ rfl hown5 ⟨w5.heap.size, 0, none⟩ 1 1 [.int .i64 1] rfl rfl (cell_one_new _ _ _) (ints_oneCell .i64 [1]) (by unfold maxLen; omega) (by omega) (by simp; omega) ?_)
          intro v6 w6 hown6 hgrow6 hnil6
          have HO : Hid (Bw.Own 3 w0.heap.size w6 v6 (out ++ [1])) := Bw.own_snoc hown6
          have G6 := Lib.hid (grown_own (Bw.grown_alloc G5.out _) hgrow6 (fun k e => (hge.out k e).1))
          clear hown6 hgrow6 hnil6 hown5
          go_wp2_with fail
          go_ret3
          exact ⟨_, x, v6, _, rfl, HO.out.mono B0.out.size, by simp; omega, HP.out, Bw.below_of_grown B0.out G6.out B0.out.size hgB⟩
    · have hd2 : d = 13 := by omega
      subst hd2
      clear hd hd1
      go_wp2_with fail
      (with_reducible refine (l20Order_any g _ _ 0 _ H1.out (by omega) (by omega) (by omega) (by omega)).mono ?_)
      rintro e w2 ⟨ov, os, rfl, ho, hl14, hr2, hg2⟩
      have OO := Lib.hid (ho.mono hs1)
      have H2 := Lib.hid hr2
      have G2 := Lib.hid (Bw.grown_trans G1.out hg2)
      have hs2 := G2.out.size
      clear ho hr2 hg2
      obtain ⟨out, hout⟩ := Bw.roundsIs_some os
      have ho12 := hout.len
      have HR := Lib.hid hout
      clear hout
      go_wp2_with fail
      (with_reducible refine (spec_RoundsOf_any _ os out _ OO.out.reads (by omega) HR).mono ?_)
      rintro e w3 ⟨rv, rfl, ho3, hb3⟩
      have OR := Lib.hid (ho3.mono hs2)
      have H3 := Lib.hid (H2.out.below hb3)
      have G3 := Lib.hid (Bw.grown_trans G2.out (Bw.grown_of_below hb3))
      clear ho3 hb3 OO HR
      go_wp2_with fail
      refine (pick_any g _ 3 _ H3.out (by omega)).mono ?_
      rintro e w4 ⟨p, rfl, hp, hr4, hg4⟩
      have OR := Lib.hid (OR.out.grown hg4 (Bw.own_ne_g OR.out hlt0))
      have hp0 := hp.1
      have hp1 := hp.2.1 (by omega)
      have H4 := Lib.hid hr4
      have G4 := Lib.hid (Bw.grown_trans G3.out hg4)
      have hs4 := G4.out.size
      clear hp hr4 hg4
      by_cases hp3 : p = 0
      · subst hp3
        have hE := (Bw.own_madeB 3 w4).mono hs4
        go_wp2_with fail
        refine (pick_any g _ 5 _ (rd_alloc H4.out _) (by omega)).mono ?_
        rintro e w5 ⟨c, rfl, hp, hr5, hg5⟩
        have OE := Lib.hid (hE.grown hg5 (Bw.own_ne_g hE hlt0))
        have H5 := Lib.hid hr5
        have G5 := Lib.hid (Bw.grown_trans (Bw.grown_alloc G4.out _) hg5)
        have hc1 := hp.2.1 (by omega)
        obtain ⟨c, rfl⟩ := Int.eq_ofNat_of_zero_le hp.1
        clear hp hr5 hg5 hE OR
        go_wp2_with fail
        go_loopw [8, 9] (fun u i wr => ∃ (ws : List Int) (c : Nat), i = .int .i64 c ∧ c + ws.length ≤ 4 ∧ Hid (Bw.Own 3 w0.heap.size wr u ws) ∧ Hid (Bw.Rd 59 wr g (34 + 8 * ws.length)) ∧ Hid (w0.grownBy wr (some g))) (fun _ i _ => (intOf i).toNat)
        case atStart => exact ⟨[], c, rfl, by simp; omega, OE, H5.out.more (by simp), G5⟩
        case round =>
          obtain ⟨ws, c, rfl, hc4, OW, HD, HG⟩ := hrel
          rcases c with _ | c
          · go_wp2_with fail
            refine (odd_any g _ 20 _ HD.out (by omega) (by omega) (by omega)).mono ?_
            rintro e w5 ⟨y, rfl, hr5, hg5⟩
            have O5 := Lib.hid (OW.out.grown hg5 (Bw.own_ne_g OW.out hlt0))
            have H5 := Lib.hid hr5
            have G5 := Lib.hid (Bw.grown_trans HG.out hg5)
            have hs5 := G5.out.size
            clear hr5 hg5
            cases y
            · go_wp2_with fail
              go_ret3
              exact ⟨_, x, _, _, rfl, O5.out.mono B0.out.size, by omega, HP.out, Bw.below_of_grown B0.out G5.out B0.out.size hgB⟩
            · have hown5 := (Bw.Own.row O5.out).alloc (.cells #[.int .i64 (2048)] 3)
              have hge := Lib.hid hown5.lt
              go_wp2_with (at_builtin; refine wpList_append_own _ rfl _ _ 29 rfl w0.heap.size 3 i0 (.int .i64 0) 1 8 Tryd.underlying29 hi hz0 hz1 hz2 rfl (by decide) _ ws.length _ rfl hown5 ⟨w5.heap.size, 0, none⟩ 1 1 [.int .i64 (2048)] rfl rfl (cell_one_new _ _ _) (ints_oneCell .i64 [2048]) (by unfold maxLen; omega) (by omega) (by simp; omega) ?_)
              intro v6 w6 hown6 hgrow6 hnil6
              have HO : Hid (Bw.Own 3 w0.heap.size w6 v6 (ws ++ [2048])) := Bw.own_snoc hown6
              have G6 := Lib.hid (grown_own (Bw.grown_alloc G5.out _) hgrow6 (fun k e => (hge.out k e).1))
              clear hown6 hgrow6 hnil6 hown5
              go_wp2_with fail
              go_ret3
              exact ⟨_, x, v6, _, rfl, HO.out.mono B0.out.size, by simp; omega, HP.out, Bw.below_of_grown B0.out G6.out B0.out.size hgB⟩
          · have hcp : decide (0 < ((c + 1 : Nat) : Int)) = true := by simp
            go_wp2_with fail
            refine (l20Word_any g _ _ 30 _ HD.out (by omega) (by omega) (by omega)).mono ?_
            rintro e w6 ⟨y, rfl, yP, hr6, hg6⟩
            have O6 := Lib.hid (OW.out.grown hg6 (Bw.own_ne_g OW.out hlt0))
            have H6 := Lib.hid hr6
            have G6 := Lib.hid (Bw.grown_trans HG.out hg6)
            have hs6 := G6.out.size
            have hy0 := yP.1
            have hy1 := yP.2
            clear hr6 hg6 yP OW HD HG
            by_cases hy : 0 ≤ y
            · have hyt : y.tdiv 2 = y / 2 := Int.tdiv_eq_ediv_of_nonneg hy
              have hown7 := (Bw.Own.row O6.out).alloc (.cells #[.int .i64 (y / 2)] 3)
              have hge := Lib.hid hown7.lt
              go_wp2_with (at_builtin; refine wpList_append_own _ rfl _ _ 29 rfl w0.heap.size 3 i0 (.int .i64 0) 1 8 Tryd.underlying29 hi hz0 hz1 hz2 rfl (by decide) _ ws.length _ rfl hown7 ⟨w6.heap.size, 0, none⟩ 1 1 [.int .i64 (y / 2)] rfl rfl (cell_one_new _ _ _) (ints_oneCell .i64 [y / 2]) (by unfold maxLen; omega) (by omega) (by simp; omega) ?_)
              intro v7 w7 hown8 hgrow8 hnil8
              have HO : Hid (Bw.Own 3 w0.heap.size w7 v7 (ws ++ [y / 2])) := Bw.own_snoc hown8
              have H7 := Lib.hid (rd_own (rd_alloc H6.out _) hgrow8 (fun k e => by have := (hge.out k e).1; omega))
              have G7 := Lib.hid (grown_own (Bw.grown_alloc G6.out _) hgrow8 (fun k e => (hge.out k e).1))
              have HL : Hid ((ws ++ [y / 2]).length = ws.length + 1) := by unfold Hid; simp
              clear hown8 hgrow8 hnil8 hown7
              go_wp2_with fail
              go_roundw
              case rel => exact ⟨_, c, by first | go_num | simp, by rw [HL.out]; omega, HO, H7.out.more (by rw [HL.out]; omega), G7⟩
              case measure => simp [intOf]
            · obtain rfl : y = -1 := by omega
              have hown7 := (Bw.Own.row O6.out).alloc (.cells #[.int .i64 (0)] 3)
              have hge := Lib.hid hown7.lt
              go_wp2_with (at_builtin; refine wpList_append_own _ rfl _ _ 29 rfl w0.heap.size 3 i0 (.int .i64 0) 1 8 Tryd.underlying29 hi hz0 hz1 hz2 rfl (by decide) _ ws.length _ rfl hown7 ⟨w6.heap.size, 0, none⟩ 1 1 [.int .i64 (0)] rfl rfl (cell_one_new _ _ _) (ints_oneCell .i64 [0]) (by unfold maxLen; omega) (by omega) (by simp; omega) ?_)
              intro v7 w7 hown8 hgrow8 hnil8
              have HO : Hid (Bw.Own 3 w0.heap.size w7 v7 (ws ++ [0])) := Bw.own_snoc hown8
              have H7 := Lib.hid (rd_own (rd_alloc H6.out _) hgrow8 (fun k e => by have := (hge.out k e).1; omega))
              have G7 := Lib.hid (grown_own (Bw.grown_alloc G6.out _) hgrow8 (fun k e => (hge.out k e).1))
              have HL : Hid ((ws ++ [0]).length = ws.length + 1) := by unfold Hid; simp
              clear hown8 hgrow8 hnil8 hown7
              go_wp2_with fail
              go_roundw
              case rel => exact ⟨_, c, by first | go_num | simp, by rw [HL.out]; omega, HO, H7.out.more (by rw [HL.out]; omega), G7⟩
              case measure => simp [intOf]
      · have hp4 : (p == 0) = false := by simpa using hp3
        clear hp3
        go_wp2_with fail
        refine (odd_any g _ 20 _ H4.out (by omega) (by omega) (by omega)).mono ?_
        rintro e w5 ⟨y, rfl, hr5, hg5⟩
        have O5 := Lib.hid (OR.out.grown hg5 (Bw.own_ne_g OR.out hlt0))
        have H5 := Lib.hid hr5
        have G5 := Lib.hid (Bw.grown_trans G4.out hg5)
        have hs5 := G5.out.size
        clear hr5 hg5
        cases y
        · go_wp2_with fail
          go_ret3
          exact ⟨_, x, _, _, rfl, O5.out.mono B0.out.size, by omega, HP.out, Bw.below_of_grown B0.out G5.out B0.out.size hgB⟩
        · have hown5 := (Bw.Own.row O5.out).alloc (.cells #[.int .i64 (2048)] 3)
          have hge := Lib.hid hown5.lt
          go_wp2_with (at_builtin; refine wpList_append_own _ rfl _ _ 29 rfl w0.heap.size 3 i0 (.int .i64 0) 1 8 Tryd.underlying29 hi hz0 hz1 hz2 rfl (by decide) _ out.length _ rfl hown5 ⟨w5.heap.size, 0, none⟩ 1 1 [.int .i64 (2048)] rfl rfl (cell_one_new _ _ _) (ints_oneCell .i64 [2048]) (by unfold maxLen; omega) (by omega) (by simp; omega) ?_)
          intro v6 w6 hown6 hgrow6 hnil6
          have HO : Hid (Bw.Own 3 w0.heap.size w6 v6 (out ++ [2048])) := Bw.own_snoc hown6
          have G6 := Lib.hid (grown_own (Bw.grown_alloc G5.out _) hgrow6 (fun k e => (hge.out k e).1))
          clear hown6 hgrow6 hnil6 hown5
          go_wp2_with fail
          go_ret3
          exact ⟨_, x, v6, _, rfl, HO.out.mono B0.out.size, by simp; omega, HP.out, Bw.below_of_grown B0.out G6.out B0.out.size hgB⟩

end Go.Proofs.YtbknmokoegembacDoor
