/- Contracts: the lowest one of a word (the library's own text over its table), the places of the ones. -/
import Derived.Test.YtbknmokoegembacDoorGatPlain
import Derived.Test.YtbknmokoegembacDoorOwn
import Derived.Test.YtbknmokoegembacDoorMFnE
import Derived.Laws.Bits64b

namespace Go.Proofs.YtbknmokoegembacDoor
open Go.RowKit
set_option linter.unusedVariables false

/-- the library's table lies in its variable -/
def TabLies (w : World) : Prop := 1 < w.heap.size ∧ ∀ j, j < 64 → w.cell? ⟨1, j, none⟩ = some (.int .u8 (Lib.deBruijn64tab.getD j 0))

theorem TabLies.below {w w' : World} (h : TabLies w) (hb : Below w.heap.size w w') : TabLies w' :=
  ⟨Nat.lt_of_lt_of_le h.1 hb.size, fun j hj => (hb.cell (p := ⟨1, j, none⟩) h.1).trans (h.2 j hj)⟩

theorem TabLies.belowB {w w' : World} {B : Nat} (h : TabLies w) (hb : Below B w w') (hB : w.heap.size ≤ B) : TabLies w' := h.below (hb.mono hB)

theorem tz_key (x a : Nat) (hx : x < 18446744073709551616) (hx0 : x ≠ 0) (hlow : x &&& (18446744073709551616 - x) = a) :
    IntKind.u64.wrap (bits BinOp.and IntKind.u64 (x : Int) (IntKind.u64.wrap (-(x : Int))) * 285870213051353865) / 288230376151711744 = ((a * 285870213051353865 % 18446744073709551616 / 288230376151711744 : Nat) : Int) := by
  have e1 : IntKind.u64.wrap (-(x : Int)) = ((18446744073709551616 - x : Nat) : Int) := by rw [IntKind.wrap_u64]; omega
  rw [e1, bits_and_u64_nat x _ hx (by omega), hlow, IntKind.wrap_u64]
  omega

set_option maxHeartbeats 1000000 in
theorem tz64_core (x k idx : Nat) (w : World) (hx0 : ((x : Int) == 0) = false)
    (key : IntKind.u64.wrap (bits BinOp.and IntKind.u64 (x : Int) (IntKind.u64.wrap (-(x : Int))) * 285870213051353865) / 288230376151711744 = (idx : Int))
    (hi : idx < 64) (hk : k < 64) (hcell : w.cell? ⟨1, idx, none⟩ = some (.int .u8 k)) :
    Calls Tryd.prog 72 #[.int .u64 x] w fun e w' => e = .returned (.int .i64 k) ∧ w = w' := by
  go_enter Tryd.func72, Tryd.ntmps72
  go_wp2_with (simp only [key])
  go_ret
  exact ⟨rfl, rfl⟩

theorem TrailingZeros64_any (x : Nat) (w : World) (hx0 : x ≠ 0) (hx : x < 18446744073709551616) (hT : Hid (TabLies w)) :
    Calls Tryd.prog 72 #[.int .u64 x] w fun e w' => e = .returned (.int .i64 (Lib.ctz 64 x)) ∧ w = w' := by
  obtain ⟨hlow, hk⟩ := Lib.lowest_bit 64 x hx0 hx
  obtain ⟨hi, htab⟩ := Lib.deBruijn64_at _ hk
  have hcell := hT.out.2 _ hi
  rw [htab] at hcell
  exact tz64_core x _ _ w (by simp; omega) (tz_key x _ hx hx0 hlow) hi hk hcell

theorem TrailingZeros_any (x : Nat) (w : World) (hx0 : x ≠ 0) (hx : x < 4096) (hT : Hid (TabLies w)) :
    Calls Tryd.prog 69 #[.int .u64 x] w fun e w' => e = .returned (.int .i64 (Lib.ctz 64 x)) ∧ w = w' := by
  have hc := Bw.wrap_u64_small x (by omega)
  have HC := Lib.hid (TrailingZeros64_any x w hx0 (by omega) hT)
  go_enter Tryd.func69, Tryd.ntmps69
  go_wp2_with (go_at_call 72; ((with_reducible refine (HC.out).mono ?_); rintro e w' ⟨rfl, rfl⟩))
  go_ret
  exact ⟨rfl, rfl⟩

set_option maxHeartbeats 1000000 in
theorem places_any (m : Nat) (w : World) (hm : m < 4096) (hT : Hid (TabLies w)) :
    Calls Tryd.prog 50 #[.int .i64 m] w fun e w' => ∃ r, e = .returned r ∧ Bw.Own 3 w.heap.size w' r (Bw.onI m 12) ∧ Below w.heap.size w w' := by
  obtain ⟨i0, hi, hz0, hz1, hz2⟩ := info_parts infoInt
  go_enter Tryd.func50, Tryd.ntmps50
  go_wp2
  go_loopw [0, 3] (fun x u wr => ∃ p y : Nat, x = .int .i64 y ∧ p ≤ 12 ∧ y < 4096 ∧ Hid (Bw.above m p = y) ∧ Hid (Bw.Own 3 w.heap.size wr u (Bw.onI m p)) ∧ Hid (Below w.heap.size w wr)) (fun x _ _ => (intOf x).toNat)
  case atStart => exact ⟨0, m, rfl, by omega, hm, Lib.hid (Bw.above_zero m), Bw.own_none _ _ _, Lib.hid (Below.refl _ _)⟩
  case round =>
    obtain ⟨p, y, rfl, hp, hy, hay, hown, hbe⟩ := hrel
    by_cases h0 : y = 0
    · have h00 : ((y : Int) == 0) = true := by rw [h0]; rfl
      go_wp2_with fail
      go_ret
      have h1 : Bw.onI m 12 = Bw.onI m p := by
        rcases Bw.above_end (hay.out.trans h0) hm with h | h
        · exact h
        · omega
      exact ⟨_, rfl, h1 ▸ hown.out, hbe.out⟩
    · have h00 : ((y : Int) == 0) = false := by rw [beq_eq_false_iff_ne]; omega
      have hst := Bw.above_step (m := m) (p := p) (by rw [hay.out]; exact h0) hm
      rw [hay.out] at hst
      obtain ⟨q, hq1, hq2, hq3, hq4, hq5, hq6⟩ := hst
      obtain ⟨y2, hy2⟩ : ∃ y2, Bw.above m (q + 1) = y2 := ⟨_, rfl⟩
      rw [hy2] at hq4 hq5
      have hlen : (Bw.onI m p).length ≤ 12 := by rw [Bw.onI_length]; have := Bw.pc_le m p; omega
      have hc := Bw.wrap_u64_small y (by omega)
      have e1 : (y : Int) - 1 = ((y - 1 : Nat) : Int) := by omega
      have HA : Hid (bits .and .i64 (y : Int) ((y : Int) - 1) = (y2 : Int)) := by rw [e1, Bw.i64_and y (y - 1) (by omega) (by omega), hq4]; exact Lib.hid rfl
      have HTZ := Lib.hid (hq1 ▸ TrailingZeros_any y wr h0 hy (Lib.hid (hT.out.below hbe.out)))
      have HY := Lib.hid hy2
      have HF := Lib.hid hq6
      clear hq1 hq4 hy2 hq6
      obtain ⟨zs, hzs⟩ : ∃ zs, Bw.onI m p = zs := ⟨_, rfl⟩
      rw [hzs] at hlen hown HF
      have hsz := hbe.out.size
      have hrow := (Bw.Own.row hown.out).alloc (.cells #[.int .i64 (q : Int)] 3)
      clear hzs e1
      go_wp2_with (first | (go_at_call 69; ((with_reducible refine (HTZ.out).mono ?_); rintro e w' ⟨rfl, rfl⟩)) | (at_builtin; refine wpList_append_own _ rfl _ _ 29 rfl w.heap.size 3 i0 (.int .i64 0) 1 8 Tryd.underlying29 hi hz0 hz1 hz2 rfl (by decide) _ zs.length _ rfl hrow ⟨wr.heap.size, 0, none⟩ 1 1 [.int .i64 (q : Int)] rfl rfl (cell_one_new _ _ _) (ints_oneCell .i64 [(q : Int)]) (by unfold maxLen; omega) (by omega) (by simp; omega) ?_))
      intro u' w3 hown3 hgrow hnil
      have HO3 : Hid (Bw.Own 3 w.heap.size w3 u' (zs ++ [(q : Int)])) := Bw.own_snoc hown3
      have HB3 : Hid (Below w.heap.size w w3) := (hbe.out.alloc hsz _).grown hgrow (by simp; omega) (fun k e => (hrow.lt k e).1)
      clear hown3 hgrow hnil hrow
      have hand := HA.out
      go_wp2_with fail
      go_roundw
      case rel => exact ⟨q + 1, y2, by first | rfl | go_num, by omega, by omega, HY, by rw [HF.out]; exact HO3, HB3⟩
      case measure => simp [intOf]; omega

end Go.Proofs.YtbknmokoegembacDoor
