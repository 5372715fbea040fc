/- Contracts: rounds that are run, the reference's. -/
import Derived.Test.YtbknmokoegembacDoorRndA

namespace Bw
open Go Go.RowKit

theorem xrow_no {y z k : Nat} (h : z.testBit k = false) : xrow y z (k + 1) = xrow y z k := by rw [xrow_succ, h]; rfl

theorem xrow_yes {y z k : Nat} (h : z.testBit k = true) : xrow y z (k + 1) = xch (xrow y z k) k := by rw [xrow_succ, h]; rfl

end Bw

namespace Go.Proofs.YtbknmokoegembacDoor
open Go.RowKit
set_option linter.unusedVariables false

set_option maxRecDepth 100000 in
set_option maxHeartbeats 1000000 in
theorem spec_RoundsRun_upto (n x : Nat) (v : Value) (zs : List Int) (w : World) (hv : Hid (Bw.Reads w v zs)) (hx : Hid (WordOk n x)) (hl : zs.length ≤ 12) (j0 : Nat) (r : Int) (hj0 : j0 ≤ zs.length) (ho : Hid (∀ j, j < j0 → RndOk n (Bw.nth zs j)))
    (hend : Hid ((j0 = zs.length → r = ((Bw.runs n x zs zs.length : Nat) : Int)) ∧ (j0 < zs.length → r = -1 ∧ ¬ RndOk n (Bw.nth zs j0)))) :
    Calls Tryd.prog 15 #[.int .i64 n, .int .i64 x, v] w fun e w' => e = .returned (.int .i64 r) ∧ Below w.heap.size w w' := by
  have hw := hx.out.1
  have hn : n ≤ 12 := by omega
  have x1 := word_bd hx.out
  have hxl := gword_lt hx.out
  have HR := Lib.hid (fun j hj => (ho.out j hj).rnd)
  rcases hv.out with ⟨rfl, a, cap, rfl⟩ | ⟨h0, b, off, cap, rfl, hc, hlt, hcell⟩
  · go_enter Tryd.func15, Tryd.ntmps15
    go_wp2_with (go_at_call 52; ((with_reducible refine (spec_WordValid_yes n x _ hx).mono ?_); rintro e w' ⟨rfl, rfl⟩))
    refine wp_loop_rounds 1 ?_
    rw [rounds_succ]
    go_wp2_with fail
    go_ret
    exact ⟨ret_int (hend.out.1 (by simpa using hj0)).symm, Below.refl _ _⟩
  · have HC := Lib.hid hcell
    obtain ⟨m, hm⟩ : ∃ m, zs.length = m := ⟨_, rfl⟩
    rw [hm] at hl hc HC hj0 hend ⊢
    clear hcell hm
    go_enter Tryd.func15, Tryd.ntmps15
    go_wp2_with (go_at_call 52; ((with_reducible refine (spec_WordValid_yes n x _ hx).mono ?_); rintro e w' ⟨rfl, rfl⟩))
    go_loopw [1, 7] (fun t i wr => ∃ j : Nat, j ≤ j0 ∧ i = .int .i64 j ∧ t = .int .i64 ((Bw.runs n x zs j : Nat) : Int) ∧ Hid (Below w.heap.size w wr)) (fun _ i _ => m - (intOf i).toNat)
    case atStart => exact ⟨0, by omega, rfl, rfl, Below.refl _ _⟩
    case round =>
      obtain ⟨j, hj, rfl, rfl, hb⟩ := hrel
      by_cases hlj : j < j0
      · have hok := ho.out j hlj
        have hrnd := HR.out j hlj
        have hyl := Bw.runs_lt (n := n) (x := x) (rs := zs) hxl j (fun i hi => HR.out i (by omega))
        have hcell : wr.cell? ⟨b, off + j, none⟩ = some (.int .i64 (Bw.nth zs j)) := (hb.out.cell (p := ⟨b, off + j, none⟩) hlt).trans (HC.out j (by omega))
        have HN := Lib.hid (Bw.runs_succ n x zs j)
        have hpl : Bw.pl zs j = (Bw.nth zs j).toNat := rfl
        rw [hpl] at HN
        obtain ⟨z, hz⟩ := Int.eq_ofNat_of_zero_le hok.1.2.1
        have HZ : Hid (Bw.nth zs j = (z : Int)) := hz
        rw [hz] at hok hrnd hcell HN
        rw [Int.toNat_natCast] at hrnd HN
        have hz1 := word_bd hok.1
        have hbt : Bw.bt z (n - 1) = 0 := by
          have h2 := hrnd.2
          unfold Bw.bt
          rw [Bw.bit_toNat, h2]; rfl
        have HBIT := Lib.hid (fun w : World => hbt ▸ (show ((n - 1 : Nat) : Int) = (n : Int) - 1 by omega) ▸ ml1Bit_any z (n - 1) w (by omega) (by omega))
        have HW := Lib.hid hok.1
        have hjm : j < m := by omega
        have hlast : Bw.xrow (Bw.runs n x zs j) z (n - 1) = Bw.runs n x zs (j + 1) := by
          rw [HN.out, Bw.xrow_last hrnd (show n - 1 ≤ n by omega)]
        have hxb : ∀ k, Bw.xrow (Bw.runs n x zs j) z k < 4096 := fun k => Nat.lt_of_lt_of_le (Bw.xrow_lt hrnd hyl k) (wbd hn).2
        obtain ⟨y, hy⟩ : ∃ y, Bw.runs n x zs j = y := ⟨_, rfl⟩
        obtain ⟨y2, hy2⟩ : ∃ y2, Bw.runs n x zs (j + 1) = y2 := ⟨_, rfl⟩
        rw [hy, hy2] at hlast
        rw [hy] at hxb ⊢
        have HLAST := Lib.hid hlast
        have HXB := Lib.hid hxb
        have HY2 := Lib.hid hy2
        have hz4 : z < 4096 := by omega
        clear hlast hxb hy hy2 hok hrnd hyl hpl hz hbt HN hz1
        go_wp2_with (first | (go_at_call 52; ((with_reducible refine (spec_WordValid_yes n z _ HW).mono ?_); rintro e w' ⟨rfl, rfl⟩)) | (go_at_call 53; ((with_reducible refine (HBIT.out _).mono ?_); rintro e w' ⟨rfl, rfl⟩)))
        obtain ⟨wo, hwo⟩ : ∃ wo : World, wo = wr := ⟨_, rfl⟩
        go_loopw [1, 8] (fun t i wr => ∃ k : Nat, k ≤ n - 1 ∧ i = .int .i64 k ∧ t = .int .i64 ((Bw.xrow y z k : Nat) : Int) ∧ Hid (Below w.heap.size w wr)) (fun _ i _ => n - (intOf i).toNat)
        case atStart => exact ⟨0, by omega, rfl, rfl, hb⟩
        case round =>
          obtain ⟨k, hk, rfl, rfl, hb⟩ := hrel
          by_cases hlk : k + 1 < n
          · have hcell : wr.cell? ⟨b, off + j, none⟩ = some (.int .i64 z) := by rw [(hb.out.cell (p := ⟨b, off + j, none⟩) hlt), HC.out j hjm, HZ.out]
            have hu := HXB.out k
            have HB0 := Lib.hid (fun w : World => ml1Bit_any z k w (by omega) (by omega))
            have hk11 : k ≤ 11 := by omega
            rcases Bw.bt_of z k with ⟨h1, h2⟩ | ⟨h1, h2⟩
            · have HS := Lib.hid (Bw.xrow_yes (y := y) h2)
              rw [h1] at HB0
              obtain ⟨u, huu⟩ : ∃ u, Bw.xrow y z k = u := ⟨_, rfl⟩
              rw [huu] at HS hu ⊢
              have HB1 := Lib.hid (fun w : World => ml1Bit_any u k w (by omega) (by omega))
              have HB2 := Lib.hid (fun w : World => (show ((k + 1 : Nat) : Int) = (k : Int) + 1 by omega) ▸ ml1Bit_any u (k + 1) w (by omega) (by omega))
              by_cases hd : Bw.bt u k = Bw.bt u (k + 1)
              · have ht : (Bw.bt u k != Bw.bt u (k + 1)) = false := by rw [hd]; simp
                have HE := Lib.hid (Bw.xch_same hd)
                clear hd huu h1 h2
                go_wp2_with (first | (go_at_call 53; ((with_reducible refine (HB0.out _).mono ?_); rintro e w' ⟨rfl, rfl⟩)) | (go_at_call 53; ((with_reducible refine (HB1.out _).mono ?_); rintro e w' ⟨rfl, rfl⟩)) | (go_at_call 53; ((with_reducible refine (HB2.out _).mono ?_); rintro e w' ⟨rfl, rfl⟩)))
                go_roundw
                case rel => exact ⟨k + 1, by omega, by go_num, by rw [HS.out, HE.out], hb⟩
                case measure => simp [intOf]; omega
              · have ht : (Bw.bt u k != Bw.bt u (k + 1)) = true := by simpa using hd
                have HE := Lib.hid (Bw.xch_turn hd)
                have hq := Nat.pow_le_pow_right (n := 2) (by omega) hk11
                have hts := Bw.three_sum k hk11
                have hts2 : wrap64 (wrap64 (2 ^ k) + wrap64 (2 ^ (k + 1))) = ((3 * 2 ^ k : Nat) : Int) := by rw [hts, Bw.w64n (by omega)]
                have HX1 := Lib.hid (fun w : World => hts.symm ▸ l1Xor_any u (3 * 2 ^ k) w (by omega) (by omega))
                have HX2 := Lib.hid (fun w : World => hts2.symm ▸ l1Xor_any u (3 * 2 ^ k) w (by omega) (by omega))
                clear hd huu h1 h2 hts hts2 hq
                go_wp2_with (first | (go_at_call 53; ((with_reducible refine (HB0.out _).mono ?_); rintro e w' ⟨rfl, rfl⟩)) | (go_at_call 53; ((with_reducible refine (HB1.out _).mono ?_); rintro e w' ⟨rfl, rfl⟩)) | (go_at_call 53; ((with_reducible refine (HB2.out _).mono ?_); rintro e w' ⟨rfl, rfl⟩)))
                go_quiet ((go_at_call 54; first | (with_reducible exact quiet_eq (HX1.out _)) | (with_reducible exact quiet_eq (HX2.out _))))
                go_wp2_with fail
                go_roundw
                case rel => exact ⟨k + 1, by omega, by go_num, by rw [HS.out, HE.out], Go.below_drewN hb.out _⟩
                case measure => simp [intOf]; omega
            · have HS := Lib.hid (Bw.xrow_no (y := y) h2)
              rw [h1] at HB0
              clear h1 h2
              go_wp2_with (go_at_call 53; ((with_reducible refine (HB0.out _).mono ?_); rintro e w' ⟨rfl, rfl⟩))
              go_roundw
              case rel => exact ⟨k + 1, by omega, by go_num, by rw [HS.out], hb⟩
              case measure => simp [intOf]; omega
          · have hkn : k = n - 1 := by omega
            have HKN := Lib.hid hkn
            clear hkn
            go_wp2_with fail
            go_roundw
            case rel => exact ⟨j + 1, by omega, by go_num, by rw [HKN.out, HLAST.out, HY2.out], hb⟩
            case measure => simp [intOf]; omega
      · obtain rfl : j = j0 := by omega
        by_cases hjm : j = m
        · subst hjm
          have HE := Lib.hid (hend.out.1 rfl)
          go_wp2_with fail
          go_ret
          exact ⟨ret_int HE.out.symm, hb.out⟩
        · have hjm2 : j < m := by omega
          obtain ⟨hr, hno⟩ := hend.out.2 hjm2
          have hcell : wr.cell? ⟨b, off + j, none⟩ = some (.int .i64 (Bw.nth zs j)) := (hb.out.cell (p := ⟨b, off + j, none⟩) hlt).trans (HC.out j hjm2)
          subst hr
          rcases not_rnd hno with hz | ⟨z, hz, hzw, hbt⟩
          · obtain ⟨z, hzz⟩ : ∃ z, Bw.nth zs j = z := ⟨_, rfl⟩
            rw [hzz] at hz hcell
            have HZ := Lib.hid hz
            clear hz hzz hno
            go_wp2_with (go_at_call 52; ((with_reducible refine (spec_WordValid_no n z _ HZ).mono ?_); rintro e w' ⟨rfl, rfl⟩))
            go_ret
            exact ⟨rfl, hb.out⟩
          · rw [hz] at hcell hzw
            have hz1 := word_bd hzw
            have HBIT := Lib.hid (fun w : World => hbt ▸ (show ((n - 1 : Nat) : Int) = (n : Int) - 1 by omega) ▸ ml1Bit_any z (n - 1) w (by omega) (by omega))
            have HW := Lib.hid hzw
            clear hz hzw hbt hno
            go_wp2_with (first | (go_at_call 52; ((with_reducible refine (spec_WordValid_yes n z _ HW).mono ?_); rintro e w' ⟨rfl, rfl⟩)) | (go_at_call 53; ((with_reducible refine (HBIT.out _).mono ?_); rintro e w' ⟨rfl, rfl⟩)))
            go_ret
            exact ⟨rfl, hb.out⟩

theorem spec_RoundsRun_long (n x : Int) (v : Value) (zs : List Int) (w : World) (hv : Hid (Bw.Reads w v zs)) (hx : Hid (WordOk n x)) (hl : 12 < zs.length) :
    Calls Tryd.prog 15 #[.int .i64 n, .int .i64 x, v] w fun e w' => e = .returned (.int .i64 (-1)) ∧ Below w.heap.size w w' := by
  rcases hv.out with ⟨rfl, a, cap, rfl⟩ | ⟨h0, b, off, cap, rfl, hc, hlt, hcell⟩
  · simp at hl
  · obtain ⟨m, hm⟩ : ∃ m, zs.length = m := ⟨_, rfl⟩
    rw [hm] at hl hc ⊢
    have hm2 : decide (12 < (m : Int)) = true := by simp; omega
    clear hcell hm
    go_enter Tryd.func15, Tryd.ntmps15
    go_wp2_with (go_at_call 52; ((with_reducible refine (spec_WordValid_yes n x _ hx).mono ?_); rintro e w' ⟨rfl, rfl⟩))
    go_ret
    exact ⟨rfl, Below.refl _ _⟩

theorem spec_RoundsRun_bad (n x : Int) (v : Value) (zs : List Int) (w : World) (hv : Hid (Bw.Reads w v zs)) (hx : Hid (¬ WordOk n x)) :
    Calls Tryd.prog 15 #[.int .i64 n, .int .i64 x, v] w fun e w' => e = .returned (.int .i64 (-1)) ∧ Below w.heap.size w w' := by
  go_enter Tryd.func15, Tryd.ntmps15
  go_wp2_with (go_at_call 52; ((with_reducible refine (spec_WordValid_no n x _ hx).mono ?_); rintro e w' ⟨rfl, rfl⟩))
  go_ret
  exact ⟨rfl, Below.refl _ _⟩

theorem spec_RoundsRun_any (n x : Int) (v : Value) (zs : List Int) (w : World) (hv : Hid (Bw.Reads w v zs)) (r : Int) (hr : Hid (RunsIs n x zs r)) :
    Calls Tryd.prog 15 #[.int .i64 n, .int .i64 x, v] w fun e w' => e = .returned (.int .i64 r) ∧ Below w.heap.size w w' := by
  by_cases hx : WordOk n x
  · by_cases hl : zs.length ≤ 12
    · obtain ⟨j0, h1, h2, h3⟩ := runs_ends hr.out hx hl
      obtain ⟨n, rfl⟩ := Int.eq_ofNat_of_zero_le (show 0 ≤ n by have := hx.1; omega)
      obtain ⟨x, rfl⟩ := Int.eq_ofNat_of_zero_le hx.2.1
      exact spec_RoundsRun_upto n x v zs w hv hx hl j0 r h1 h2 h3
    · obtain rfl : r = -1 := hr.out.2 fun h => hl h.1.2
      exact spec_RoundsRun_long n x v zs w hv hx (by omega)
  · obtain rfl : r = -1 := hr.out.2 fun h => hx h.1.1
    exact spec_RoundsRun_bad n x v zs w hv hx

end Go.Proofs.YtbknmokoegembacDoor
