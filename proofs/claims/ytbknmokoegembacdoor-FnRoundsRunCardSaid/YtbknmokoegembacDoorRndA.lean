/- Contracts: rounds that are run. -/
import Derived.Test.YtbknmokoegembacDoorRndPlain
import Derived.Test.YtbknmokoegembacDoorGatB
import Derived.Test.YtbknmokoegembacDoorGatC

namespace Bw
open Go Go.RowKit

theorem three_wrap (k : Nat) (hk : k ≤ 11) : wrap64 (3 * 2 ^ k) = ((3 * 2 ^ k : Nat) : Int) := by
  have h5 : 2 ^ k ≤ 2 ^ 12 := Nat.pow_le_pow_right (by omega) (by omega)
  have e : (3 : Int) * 2 ^ k = ((3 * 2 ^ k : Nat) : Int) := by rw [two_pow_cast]; simp
  rw [e, w64n (by omega)]

theorem three_sum (k : Nat) (hk : k ≤ 11) : wrap64 (2 ^ k) + wrap64 (2 ^ (k + 1)) = ((3 * 2 ^ k : Nat) : Int) := by
  have h5 : 2 ^ k ≤ 2 ^ 12 := Nat.pow_le_pow_right (by omega) (by omega)
  rw [two_pow_cast, two_pow_cast, Nat.pow_succ, w64n (by omega), w64n (by omega)]
  omega

theorem xch_xor (x k : Nat) (hx : x < 4096) (hk : k ≤ 11) : bits .xor .i64 (x : Int) (wrap64 (3 * 2 ^ k)) = ((x ^^^ 3 * 2 ^ k : Nat) : Int) := by
  have h5 : 2 ^ k ≤ 2 ^ 12 := Nat.pow_le_pow_right (by omega) (by omega)
  rw [three_wrap k hk, i64_xor _ _ (by omega) (by omega)]

theorem xch_same {x k : Nat} (h : bt x k = bt x (k + 1)) : xch x k = x := by
  unfold xch
  rw [if_pos]
  have h1 := bt_test x k
  have h2 := bt_test x (k + 1)
  rw [h] at h1
  rw [Bool.eq_iff_iff, ← h1, ← h2]

theorem xch_turn {x k : Nat} (h : bt x k ≠ bt x (k + 1)) : xch x k = x ^^^ 3 * 2 ^ k := by
  unfold xch
  rw [if_neg]
  intro e
  apply h
  unfold bt
  rw [bit_toNat, bit_toNat, e]

theorem xl_lt {n x : Nat} {l : List Int} (hx : x < 2 ^ n) : ∀ i, (∀ j, j < i → pl l j + 1 < n) → xl x l i < 2 ^ n
  | 0, _ => hx
  | i + 1, h => by rw [xl_succ]; exact xch_lt (xl_lt hx i fun j hj => h j (by omega)) (h i (by omega))

theorem onI_place {n z j : Nat} (h : Rnd n z) (hj : j < pc z 12) : pl (onI z 12) j + 1 < n := by
  obtain ⟨i, h1, h2, rfl⟩ := onI_mem hj
  rw [onI_pl h2 h1]
  exact h.place h2

end Bw

namespace Go.Proofs.YtbknmokoegembacDoor
open Go.RowKit
set_option linter.unusedVariables false

set_option maxHeartbeats 400000 in
theorem exchanged_any (x k : Nat) (w : World) (hx : x < 4096) (hk : k ≤ 11) :
    Calls Tryd.prog 51 #[.int .i64 x, .int .i64 k] w fun e w' => e = .returned (.int .i64 ((Bw.xch x k : Nat) : Int)) ∧ w = w' := by
  have H0 := Lib.hid (fun w : World => mbit_any x k w (by omega) (by omega))
  have H1 := Lib.hid (fun w : World => (show ((k + 1 : Nat) : Int) = (k : Int) + 1 by omega) ▸ mbit_any x (k + 1) w (by omega) (by omega))
  by_cases h : Bw.bt x k = Bw.bt x (k + 1)
  · have ht : (Bw.bt x k != Bw.bt x (k + 1)) = false := by rw [h]; simp
    have HE := Lib.hid (Bw.xch_same h)
    clear h
    go_enter Tryd.func51, Tryd.ntmps51
    go_wp2_with (first | (go_at_call 49; ((with_reducible refine (H0.out _).mono ?_); rintro e w' ⟨rfl, rfl⟩)) | (go_at_call 49; ((with_reducible refine (H1.out _).mono ?_); rintro e w' ⟨rfl, rfl⟩)))
    go_ret
    exact ⟨ret_int (by rw [HE.out]), rfl⟩
  · have ht : (Bw.bt x k != Bw.bt x (k + 1)) = true := by simpa using h
    have HE := Lib.hid (Bw.xch_turn h)
    have HX := Lib.hid (Bw.xch_xor x k hx hk)
    clear h
    go_enter Tryd.func51, Tryd.ntmps51
    go_wp2_with (first | (go_at_call 49; ((with_reducible refine (H0.out _).mono ?_); rintro e w' ⟨rfl, rfl⟩)) | (go_at_call 49; ((with_reducible refine (H1.out _).mono ?_); rintro e w' ⟨rfl, rfl⟩)))
    go_ret
    exact ⟨ret_int (by rw [HE.out, HX.out]), rfl⟩

/-- a round of a width -/
def RndOk (n z : Int) : Prop := WordOk n z ∧ z.toNat.testBit (n.toNat - 1) = false

theorem RndOk.rnd {n : Nat} {z : Int} (h : RndOk n z) : Bw.Rnd n z.toNat := by
  obtain ⟨z, rfl⟩ := Int.eq_ofNat_of_zero_le h.1.2.1
  exact ⟨gword_lt h.1, by have := h.2; simpa using this⟩

theorem round_steps {n y z : Nat} (hz : Bw.Rnd n z) (hn : n ≤ 12) (hy : y < 2 ^ n) :
    Bw.xl y (Bw.onI z 12) (Bw.pc z 12) = Bw.xrow y z n ∧ (∀ i, i < Bw.pc z 12 → Bw.nth (Bw.onI z 12) i = (Bw.pl (Bw.onI z 12) i : Int) ∧ Bw.pl (Bw.onI z 12) i ≤ 11) ∧ (∀ i, i ≤ Bw.pc z 12 → Bw.xl y (Bw.onI z 12) i < 4096) := by
  have h12 := wbd hn
  refine ⟨?_, fun i hi => ?_, fun i hi => ?_⟩
  · rw [Bw.xl_xrow, Bw.xrow_last hz (show n - 1 ≤ 12 by omega), Bw.xrow_last hz (show n - 1 ≤ n by omega)]
  · have := Bw.onI_read hi
    exact ⟨this.1, by omega⟩
  · have := Bw.xl_lt hy i (fun j hj => Bw.onI_place hz (show j < Bw.pc z 12 by omega))
    omega

/-- rounds that are none -/
theorem not_rnd {n : Nat} {z : Int} (h : ¬ RndOk n z) : ¬ WordOk n z ∨ (∃ z' : Nat, z = z' ∧ WordOk n z ∧ Bw.bt z' (n - 1) = 1) := by
  by_cases hw : WordOk n z
  · obtain ⟨z, rfl⟩ := Int.eq_ofNat_of_zero_le hw.2.1
    refine .inr ⟨z, rfl, hw, ?_⟩
    rw [Bw.bt_test]
    cases hb : z.testBit (n - 1)
    · exact absurd ⟨hw, by simpa using hb⟩ h
    · rfl
  · exact .inl hw

set_option maxRecDepth 100000 in
set_option maxHeartbeats 1000000 in
theorem impl_RoundsRun_upto (n x : Nat) (v : Value) (zs : List Int) (w : World) (hv : Hid (Bw.Reads w v zs)) (hx : Hid (WordOk n x)) (hl : zs.length ≤ 12) (j0 : Nat) (r : Int) (hj0 : j0 ≤ zs.length) (ho : Hid (∀ j, j < j0 → RndOk n (Bw.nth zs j)))
    (hend : Hid ((j0 = zs.length → r = ((Bw.runs n x zs zs.length : Nat) : Int)) ∧ (j0 < zs.length → r = -1 ∧ ¬ RndOk n (Bw.nth zs j0)))) (hT : Hid (TabLies w)) :
    Calls Tryd.prog 14 #[.int .i64 n, .int .i64 x, v] w fun e w' => e = .returned (.int .i64 r) ∧ Below w.heap.size w w' := by
  have hw := hx.out.1
  have hn : n ≤ 12 := by omega
  have x1 := word_bd hx.out
  have hxl := gword_lt hx.out
  have HR := Lib.hid (fun j hj => (ho.out j hj).rnd)
  rcases hv.out with ⟨rfl, a, cap, rfl⟩ | ⟨h0, b, off, cap, rfl, hc, hlt, hcell⟩
  · go_enter Tryd.func14, Tryd.ntmps14
    go_wp2_with (go_at_call 12; ((with_reducible refine (impl_WordValid_yes n x _ hx).mono ?_); rintro e w' ⟨rfl, rfl⟩))
    refine wp_loop_rounds 1 ?_
    rw [rounds_succ]
    go_wp2_with fail
    go_ret
    exact ⟨ret_int (hend.out.1 (by simpa using hj0)).symm, Below.refl _ _⟩
  · have HC := Lib.hid hcell
    obtain ⟨m, hm⟩ : ∃ m, zs.length = m := ⟨_, rfl⟩
    rw [hm] at hl hc HC hj0 hend ⊢
    clear hcell hm
    go_enter Tryd.func14, Tryd.ntmps14
    go_wp2_with (go_at_call 12; ((with_reducible refine (impl_WordValid_yes n x _ hx).mono ?_); rintro e w' ⟨rfl, rfl⟩))
    go_loopw [1, 22] (fun t i wr => ∃ j : Nat, j ≤ j0 ∧ i = .int .i64 j ∧ t = .int .i64 ((Bw.runs n x zs j : Nat) : Int) ∧ Hid (Below w.heap.size w wr)) (fun _ i _ => m - (intOf i).toNat)
    case atStart => exact ⟨0, by omega, rfl, rfl, Below.refl _ _⟩
    case round =>
      obtain ⟨j, hj, rfl, rfl, hb⟩ := hrel
      by_cases hlj : j < j0
      · have hok := ho.out j hlj
        have hrnd := HR.out j hlj
        have hyl := Bw.runs_lt (n := n) (x := x) (rs := zs) hxl j (fun i hi => HR.out i (by omega))
        have hcell : wr.cell? ⟨b, off + j, none⟩ = some (.int .i64 (Bw.nth zs j)) := (hb.out.cell (p := ⟨b, off + j, none⟩) hlt).trans (HC.out j (by omega))
        have HN := Lib.hid (Bw.runs_succ n x zs j)
        have hpl : Bw.pl zs j = (Bw.nth zs j).toNat := rfl
        rw [hpl] at HN
        obtain ⟨z, hz⟩ := Int.eq_ofNat_of_zero_le hok.1.2.1
        rw [hz] at hok hrnd hcell HN
        rw [Int.toNat_natCast] at hrnd HN
        have hst := round_steps hrnd hn hyl
        rw [← HN.out] at hst
        have hz1 := word_bd hok.1
        have hbt : Bw.bt z (n - 1) = 0 := by
          have h2 := hrnd.2
          unfold Bw.bt
          rw [Bw.bit_toNat, h2]; rfl
        have HBIT := Lib.hid (fun w : World => hbt ▸ (show ((n - 1 : Nat) : Int) = (n : Int) - 1 by omega) ▸ mbit_any z (n - 1) w (by omega) (by omega))
        have HW := Lib.hid hok.1
        have HPL := Lib.hid (fun (w : World) (h : Hid (TabLies w)) => places_any z w (by omega) h)
        have HLEN := Bw.onI_length z 12
        have hc12 := Bw.pc_le z 12
        obtain ⟨y, hy⟩ : ∃ y, Bw.runs n x zs j = y := ⟨_, rfl⟩
        obtain ⟨y2, hy2⟩ : ∃ y2, Bw.runs n x zs (j + 1) = y2 := ⟨_, rfl⟩
        obtain ⟨ps, hps⟩ : ∃ ps, Bw.onI z 12 = ps := ⟨_, rfl⟩
        obtain ⟨c, hcc⟩ : ∃ c, Bw.pc z 12 = c := ⟨_, rfl⟩
        rw [hy, hy2, hps, hcc] at hst
        rw [hps, hcc] at HLEN
        rw [hcc] at hc12
        rw [hps] at HPL
        rw [hy]
        have HST := Lib.hid hst
        have HY2 := Lib.hid hy2
        clear hst hy hy2 hps hcc hok hrnd hyl hpl hz hbt HN
        have HT1 := Lib.hid (hT.out.below hb.out)
        have hjm : j < m := by omega
        go_wp2_with (first | (go_at_call 12; ((with_reducible refine (impl_WordValid_yes n z _ HW).mono ?_); rintro e w' ⟨rfl, rfl⟩)) | (go_at_call 49; ((with_reducible refine (HBIT.out _).mono ?_); rintro e w' ⟨rfl, rfl⟩)))
        (with_reducible refine (HPL.out _ HT1).mono ?_)
        rintro e w2 ⟨r, rfl, ho2, hb2⟩
        have hrd := ho2.reads
        have HB := Lib.hid (hb.out.trans (hb2.mono hb.out.size))
        clear ho2 hb2
        rcases hrd with ⟨h00, a2, cap2, rfl⟩ | ⟨h00, b2, off2, cap2, rfl, hcp2, hlt2, hcell2⟩
        · subst h00
          have hc0 : c = 0 := HLEN.symm
          subst hc0
          have hyy : y = y2 := HST.out.1
          subst hyy
          go_wp2_with fail
          refine wp_loop_rounds 1 ?_
          rw [rounds_succ]
          go_wp2_with fail
          go_roundw
          case rel => exact ⟨j + 1, by omega, by go_num, by rw [HY2.out], HB⟩
          case measure => simp [intOf]; omega
        · rw [HLEN] at hcp2 hcell2 ⊢
          have HC2 := Lib.hid hcell2
          clear hcell2
          go_wp2_with fail
          go_loop [1, 40] (fun t i => ∃ k : Nat, k ≤ c ∧ i = .int .i64 k ∧ t = .int .i64 ((Bw.xl y ps k : Nat) : Int)) (fun _ i => c - (intOf i).toNat)
          case atStart => exact ⟨0, by omega, rfl, rfl⟩
          case round =>
            obtain ⟨k, hk, rfl, rfl⟩ := hrel
            have hxb := HST.out.2.2 k hk
            by_cases hlk : k < c
            · have hp := HST.out.2.1 k hlk
              have hcell3 : w2.cell? ⟨b2, off2 + k, none⟩ = some (.int .i64 (Bw.pl ps k)) := by rw [HC2.out k hlk, hp.1]
              have HS := Lib.hid (Bw.xl_succ y ps k)
              obtain ⟨p, hpp⟩ : ∃ p, Bw.pl ps k = p := ⟨_, rfl⟩
              obtain ⟨u, huu⟩ : ∃ u, Bw.xl y ps k = u := ⟨_, rfl⟩
              rw [hpp] at hcell3 HS hp
              rw [huu] at HS hxb ⊢
              have hp11 := hp.2
              clear hpp huu hp
              go_wp2_with (go_at_call 51; ((with_reducible refine (exchanged_any u p _ hxb hp11).mono ?_); rintro e w' ⟨rfl, rfl⟩))
              go_round
              case rel => exact ⟨k + 1, by omega, by go_num, by rw [HS.out]⟩
              case measure => simp [intOf]; omega
            · obtain rfl : k = c := by omega
              go_wp2_with fail
              go_roundw
              case rel => exact ⟨j + 1, by omega, by go_num, by rw [HY2.out, HST.out.1], HB⟩
              case measure => simp [intOf]; omega
      · obtain rfl : j = j0 := by omega
        by_cases hjm : j = m
        · subst hjm
          have HE := Lib.hid (hend.out.1 rfl)
          go_wp2_with fail
          go_ret
          exact ⟨ret_int HE.out.symm, hb.out⟩
        · have hjm2 : j < m := by omega
          obtain ⟨hr, hno⟩ := hend.out.2 hjm2
          have hcell : wr.cell? ⟨b, off + j, none⟩ = some (.int .i64 (Bw.nth zs j)) := (hb.out.cell (p := ⟨b, off + j, none⟩) hlt).trans (HC.out j hjm2)
          subst hr
          rcases not_rnd hno with hz | ⟨z, hz, hzw, hbt⟩
          · obtain ⟨z, hzz⟩ : ∃ z, Bw.nth zs j = z := ⟨_, rfl⟩
            rw [hzz] at hz hcell
            have HZ := Lib.hid hz
            clear hz hzz hno
            go_wp2_with (go_at_call 12; ((with_reducible refine (impl_WordValid_no n z _ HZ).mono ?_); rintro e w' ⟨rfl, rfl⟩))
            go_ret
            exact ⟨rfl, hb.out⟩
          · rw [hz] at hcell hzw
            have hz1 := word_bd hzw
            have HBIT := Lib.hid (fun w : World => hbt ▸ (show ((n - 1 : Nat) : Int) = (n : Int) - 1 by omega) ▸ mbit_any z (n - 1) w (by omega) (by omega))
            have HW := Lib.hid hzw
            clear hz hzw hbt hno
            go_wp2_with (first | (go_at_call 12; ((with_reducible refine (impl_WordValid_yes n z _ HW).mono ?_); rintro e w' ⟨rfl, rfl⟩)) | (go_at_call 49; ((with_reducible refine (HBIT.out _).mono ?_); rintro e w' ⟨rfl, rfl⟩)))
            go_ret
            exact ⟨rfl, hb.out⟩

theorem impl_RoundsRun_long (n x : Int) (v : Value) (zs : List Int) (w : World) (hv : Hid (Bw.Reads w v zs)) (hx : Hid (WordOk n x)) (hl : 12 < zs.length) :
    Calls Tryd.prog 14 #[.int .i64 n, .int .i64 x, v] w fun e w' => e = .returned (.int .i64 (-1)) ∧ Below w.heap.size w w' := by
  rcases hv.out with ⟨rfl, a, cap, rfl⟩ | ⟨h0, b, off, cap, rfl, hc, hlt, hcell⟩
  · simp at hl
  · obtain ⟨m, hm⟩ : ∃ m, zs.length = m := ⟨_, rfl⟩
    rw [hm] at hl hc ⊢
    have hm2 : decide (12 < (m : Int)) = true := by simp; omega
    clear hcell hm
    go_enter Tryd.func14, Tryd.ntmps14
    go_wp2_with (go_at_call 12; ((with_reducible refine (impl_WordValid_yes n x _ hx).mono ?_); rintro e w' ⟨rfl, rfl⟩))
    go_ret
    exact ⟨rfl, Below.refl _ _⟩

theorem impl_RoundsRun_bad (n x : Int) (v : Value) (zs : List Int) (w : World) (hv : Hid (Bw.Reads w v zs)) (hx : Hid (¬ WordOk n x)) :
    Calls Tryd.prog 14 #[.int .i64 n, .int .i64 x, v] w fun e w' => e = .returned (.int .i64 (-1)) ∧ Below w.heap.size w w' := by
  go_enter Tryd.func14, Tryd.ntmps14
  go_wp2_with (go_at_call 12; ((with_reducible refine (impl_WordValid_no n x _ hx).mono ?_); rintro e w' ⟨rfl, rfl⟩))
  go_ret
  exact ⟨rfl, Below.refl _ _⟩

/-- what both answer -/
def RunsIs (n x : Int) (zs : List Int) (r : Int) : Prop :=
  ((WordOk n x ∧ zs.length ≤ 12) ∧ (∀ j, j < zs.length → RndOk n (Bw.nth zs j)) → r = ((Bw.runs n.toNat x.toNat zs zs.length : Nat) : Int)) ∧
  (¬ ((WordOk n x ∧ zs.length ≤ 12) ∧ (∀ j, j < zs.length → RndOk n (Bw.nth zs j))) → r = -1)

theorem runsIs_some (n x : Int) (zs : List Int) : ∃ r, RunsIs n x zs r := by
  by_cases h : (WordOk n x ∧ zs.length ≤ 12) ∧ (∀ j, j < zs.length → RndOk n (Bw.nth zs j))
  · exact ⟨_, fun _ => rfl, fun h2 => absurd h h2⟩
  · exact ⟨-1, fun h2 => absurd h2 h, fun _ => rfl⟩

/-- the first round that is none, or the end -/
theorem first_bad (n : Int) (zs : List Int) : ∀ m, m ≤ zs.length → ∃ j0, j0 ≤ m ∧ (∀ j, j < j0 → RndOk n (Bw.nth zs j)) ∧ (j0 < m → ¬ RndOk n (Bw.nth zs j0))
  | 0, _ => ⟨0, Nat.le_refl _, fun j hj => absurd hj (by omega), fun h => absurd h (by omega)⟩
  | m + 1, hm => by
    obtain ⟨j0, h1, h2, h3⟩ := first_bad n zs m (by omega)
    by_cases e : j0 = m
    · by_cases hb : RndOk n (Bw.nth zs m)
      · refine ⟨m + 1, Nat.le_refl _, fun j hj => ?_, fun h => absurd h (by omega)⟩
        by_cases ej : j = m
        · rw [ej]; exact hb
        · exact h2 j (by omega)
      · exact ⟨j0, by omega, h2, fun _ => e ▸ hb⟩
    · exact ⟨j0, by omega, h2, fun _ => h3 (by omega)⟩

theorem runs_ends {n x : Int} {zs : List Int} {r : Int} (hr : RunsIs n x zs r) (hx : WordOk n x) (hl : zs.length ≤ 12) : ∃ j0, j0 ≤ zs.length ∧ (∀ j, j < j0 → RndOk n (Bw.nth zs j)) ∧
    ((j0 = zs.length → r = ((Bw.runs n.toNat x.toNat zs zs.length : Nat) : Int)) ∧ (j0 < zs.length → r = -1 ∧ ¬ RndOk n (Bw.nth zs j0))) := by
  obtain ⟨j0, h1, h2, h3⟩ := first_bad n zs zs.length (Nat.le_refl _)
  refine ⟨j0, h1, h2, fun e => hr.1 ⟨⟨hx, hl⟩, fun j hj => h2 j (by omega)⟩, fun hlt => ⟨hr.2 fun h => h3 hlt (h.2 j0 hlt), h3 hlt⟩⟩

theorem impl_RoundsRun_any (n x : Int) (v : Value) (zs : List Int) (w : World) (hv : Hid (Bw.Reads w v zs)) (r : Int) (hr : Hid (RunsIs n x zs r)) (hT : Hid (TabLies w)) :
    Calls Tryd.prog 14 #[.int .i64 n, .int .i64 x, v] w fun e w' => e = .returned (.int .i64 r) ∧ Below w.heap.size w w' := by
  by_cases hx : WordOk n x
  · by_cases hl : zs.length ≤ 12
    · obtain ⟨j0, h1, h2, h3⟩ := runs_ends hr.out hx hl
      obtain ⟨n, rfl⟩ := Int.eq_ofNat_of_zero_le (show 0 ≤ n by have := hx.1; omega)
      obtain ⟨x, rfl⟩ := Int.eq_ofNat_of_zero_le hx.2.1
      exact impl_RoundsRun_upto n x v zs w hv hx hl j0 r h1 h2 h3 hT
    · obtain rfl : r = -1 := hr.out.2 fun h => hl h.1.2
      exact impl_RoundsRun_long n x v zs w hv hx (by omega)
  · obtain rfl : r = -1 := hr.out.2 fun h => hx h.1.1
    exact impl_RoundsRun_bad n x v zs w hv hx

end Go.Proofs.YtbknmokoegembacDoor
