/- Contracts: slices copied and compared. -/
import Derived.Test.YtbknmokoegembacDoorSlicePlain
import Derived.Deep.QuietTactic
import Derived.BigQuiet

namespace Go.Proofs.YtbknmokoegembacDoor
open Go.RowKit
set_option linter.unusedVariables false

theorem infoInt : (Tryd.prog.info? 3).map (fun i => (i.zero, i.size, i.bytes)) = some (some (.int .i64 0), 1, 8) := by kernel_rfl

set_option maxHeartbeats 400000 in
theorem toIntS_any (v : Value) (zs : List Int) (w : World) (hr : Bw.Reads w v zs) (hn : zs.length ≤ 1048576) :
    Calls Tryd.prog 19 #[v] w fun e w' => ∃ r, e = .returned r ∧ w'.ownsRow w.heap.size 3 1 r zs.length (zs.map (Value.int .i64)) ∧ Below w.heap.size w w' := by
  obtain ⟨i0, hi, hz0, hz1, hz2⟩ := info_parts infoInt
  rcases hr with ⟨rfl, a, cap, rfl⟩ | ⟨h0, b, off, cap, rfl, hc, hlt, hcell⟩
  · go_enter Tryd.func19, Tryd.ntmps19
    go_wp2_with (at_make; refine wpList_make_full _ rfl _ _ 29 rfl w.heap.size 3 i0 (.int .i64 0) 1 Tryd.underlying29 hi hz0 hz1 _ _ _ _ 0 rfl rfl rfl rfl (by omega) (by unfold maxLen; omega) (Nat.le_refl _) ?_)
    intro w0 hown hgrow
    go_wp2_with fail
    refine wp_loop_rounds 1 ?_
    rw [rounds_succ]
    go_wp2
    go_ret
    exact ⟨_, rfl, by simpa [madeCells] using hown, (Below.refl _ _).grown hgrow (Nat.le_refl _) (fun k h => by cases h)⟩
  · go_enter Tryd.func19, Tryd.ntmps19
    go_wp2_with (at_make; refine wpList_make_full _ rfl _ _ 29 rfl w.heap.size 3 i0 (.int .i64 0) 1 Tryd.underlying29 hi hz0 hz1 _ _ _ _ zs.length rfl rfl rfl rfl (by rw [hz2]; omega) (by unfold maxLen; omega) (Nat.le_refl _) ?_)
    intro w0 hown hgrow
    go_wp2_with fail
    go_loopw [4] (fun i wr => ∃ k : Nat, k ≤ zs.length ∧ i = .int .i64 k ∧ wr.ownsRow w.heap.size 3 1 (.slice (some ⟨w.heap.size, 0, none⟩) zs.length zs.length) zs.length (Bw.filled zs k) ∧ Below w.heap.size w wr) (fun i _ => zs.length - (intOf i).toNat)
    case atStart => exact ⟨0, Nat.zero_le _, rfl, by rw [← Bw.filled_start]; exact hown, (Below.refl _ _).grown hgrow (Nat.le_refl _) (fun k h => by cases h)⟩
    case round =>
      obtain ⟨k, hk, rfl, ho, hb⟩ := hrel
      by_cases hl : k < zs.length
      · have hread : wr.cell? ⟨b, off + k, none⟩ = some (.int .i64 (Bw.nth zs k)) := (hb.cell (p := ⟨b, off + k, none⟩) hlt).trans (hcell k hl)
        have hold : wr.cell? ⟨w.heap.size, k, none⟩ = some ((Bw.filled zs k)[k]'(by rw [Bw.filled_length zs hk]; exact hl)) := by
          rw [ho.cellAt k (by omega), List.getElem?_eq_getElem]
        generalize ((Bw.filled zs k)[k]'(by rw [Bw.filled_length zs hk]; exact hl)) = old at hold
        have hfz := ho.frozenAt k
        have hst := ho.stored k (.int .i64 (Bw.nth zs k))
        rw [Bw.filled_step hl] at hst
        have HS := Lib.hid hst
        have HB := Lib.hid hb
        clear hst hb ho hcell hgrow hown
        go_wp2
        go_roundw
        case rel => exact ⟨k + 1, by omega, by go_num, HS.out.1, HB.out.grown HS.out.2 (by have := HB.out.size; omega) (fun k h => by cases h; exact Nat.le_refl _)⟩
        case measure => simp [intOf]; omega
      · obtain rfl : k = zs.length := by omega
        have HO := Lib.hid ho
        have HB := Lib.hid hb
        clear ho hb hcell hgrow hown
        go_wp2
        go_ret
        exact ⟨_, rfl, by rw [← Bw.filled_end]; exact HO.out, HB.out⟩

theorem eqIntS_empty (a a2 : Option Addr) (cap cap2 : Nat) (w : World) :
    Calls Tryd.prog 20 #[.slice a 0 cap, .slice a2 0 cap2] w fun e w' => e = .returned (.bool true) ∧ Below w.heap.size w w' := by
  go_enter Tryd.func20, Tryd.ntmps20
  go_wp2_with fail
  refine wp_loop_rounds 1 ?_
  rw [rounds_succ]
  go_wp2
  go_ret
  exact ⟨rfl, Below.refl _ _⟩

theorem eqIntS_parts (a a2 : Option Addr) (n n2 cap cap2 : Nat) (w : World) (h : n ≠ n2) :
    Calls Tryd.prog 20 #[.slice a n cap, .slice a2 n2 cap2] w fun e w' => e = .returned (.bool false) ∧ Below w.heap.size w w' := by
  have hb : ((n : Int) != (n2 : Int)) = true := by rw [bne_iff_ne]; omega
  go_enter Tryd.func20, Tryd.ntmps20
  go_wp2
  go_ret
  exact ⟨rfl, Below.refl _ _⟩

set_option maxHeartbeats 400000 in
theorem eqIntS_same (b off cap b2 off2 cap2 : Nat) (xs ys : List Int) (w : World) (hl : ys.length = xs.length) (hn : xs.length ≤ 1048576) (hlt : b < w.heap.size) (hlt2 : b2 < w.heap.size)
    (hc : ∀ i, i < xs.length → w.cell? ⟨b, off + i, none⟩ = some (.int .i64 (Bw.nth xs i))) (hc2 : ∀ i, i < xs.length → w.cell? ⟨b2, off2 + i, none⟩ = some (.int .i64 (Bw.nth ys i))) :
    Calls Tryd.prog 20 #[.slice (some ⟨b, off, none⟩) xs.length cap, .slice (some ⟨b2, off2, none⟩) xs.length cap2] w fun e w' => e = .returned (.bool (decide (xs = ys))) ∧ Below w.heap.size w w' := by
  have HC := Lib.hid hc
  have HC2 := Lib.hid hc2
  have HL := Lib.hid hl
  obtain ⟨r, hr⟩ : ∃ r, decide (xs = ys) = r := ⟨_, rfl⟩
  rw [hr]
  have HR := Lib.hid hr
  clear hc hc2 hr hl
  go_enter Tryd.func20, Tryd.ntmps20
  go_wp2_with fail
  go_loopw [5] (fun i wr => ∃ k : Nat, k ≤ xs.length ∧ i = .int .i64 k ∧ Hid (∀ j, j < k → Bw.nth xs j = Bw.nth ys j) ∧ Below w.heap.size w wr) (fun i _ => xs.length - (intOf i).toNat)
  case atStart => exact ⟨0, Nat.zero_le _, rfl, fun j h => absurd h (by omega), Below.refl _ _⟩
  case round =>
    obtain ⟨k, hk, rfl, hall, hb⟩ := hrel
    have HB := Lib.hid hb
    by_cases hlk : k < xs.length
    · have h1 : wr.cell? ⟨b, off + k, none⟩ = some (.int .i64 (Bw.nth xs k)) := (hb.cell (p := ⟨b, off + k, none⟩) hlt).trans (HC.out k hlk)
      have h2 : wr.cell? ⟨b2, off2 + k, none⟩ = some (.int .i64 (Bw.nth ys k)) := (hb.cell (p := ⟨b2, off2 + k, none⟩) hlt2).trans (HC2.out k hlk)
      clear hb
      by_cases he : Bw.nth xs k = Bw.nth ys k
      · have ht : (Bw.nth xs k != Bw.nth ys k) = false := by rw [he]; simp
        have HE := Lib.hid he
        clear he
        go_wp2
        go_quiet (fail)
        go_wp2
        go_roundw
        case rel => exact ⟨k + 1, by omega, by go_num, fun j hj => by rcases Nat.lt_or_ge j k with h | h; exact hall.out j h; (have : j = k := by omega); rw [this]; exact HE.out, Go.below_drewN HB.out _⟩
        case measure => simp [intOf]; omega
      · have ht : (Bw.nth xs k != Bw.nth ys k) = true := by simpa using he
        have HE := Lib.hid he
        clear he
        go_wp2
        go_quiet (fail)
        go_wp2
        go_ret
        exact ⟨ret_bool (by rw [← HR.out]; simpa using Bw.ne_of_nth HE.out), Go.below_drewN HB.out _⟩
    · obtain rfl : k = xs.length := by omega
      clear hb
      go_wp2
      go_ret
      exact ⟨ret_bool (by rw [← HR.out]; simpa using Bw.eq_of_nth HL.out.symm hall.out), HB.out⟩

theorem eqIntS_any (v v2 : Value) (xs ys : List Int) (w : World) (hx : Bw.Reads w v xs) (hy : Bw.Reads w v2 ys) (hn : xs.length ≤ 1048576) :
    Calls Tryd.prog 20 #[v, v2] w fun e w' => e = .returned (.bool (decide (xs = ys))) ∧ Below w.heap.size w w' := by
  by_cases hl : xs.length = ys.length
  · rcases hx with ⟨rfl, a, cap, rfl⟩ | ⟨h0, b, off, cap, rfl, hc, hlt, hcell⟩
    · obtain rfl : ys = [] := List.eq_nil_of_length_eq_zero hl.symm
      rcases hy with ⟨_, a2, cap2, rfl⟩ | ⟨h, _⟩
      · exact eqIntS_empty a a2 cap cap2 w
      · exact absurd rfl h
    · rcases hy with ⟨rfl, _⟩ | ⟨h02, b2, off2, cap2, rfl, hc2, hlt2, hcell2⟩
      · exact absurd (List.eq_nil_of_length_eq_zero hl) h0
      · rw [← hl] at hcell2 ⊢
        exact eqIntS_same b off cap b2 off2 cap2 xs ys w hl.symm hn hlt hlt2 hcell hcell2
  · have hd : decide (xs = ys) = false := by rw [decide_eq_false_iff_not]; rintro rfl; exact hl rfl
    rw [hd]
    rcases hx with ⟨rfl, a, cap, rfl⟩ | ⟨h0, b, off, cap, rfl, hc, hlt, hcell⟩ <;> rcases hy with ⟨rfl, a2, cap2, rfl⟩ | ⟨h02, b2, off2, cap2, rfl, hc2, hlt2, hcell2⟩
    · exact absurd rfl hl
    · exact eqIntS_parts _ _ _ _ _ _ w hl
    · exact eqIntS_parts _ _ _ _ _ _ w hl
    · exact eqIntS_parts _ _ _ _ _ _ w hl

end Go.Proofs.YtbknmokoegembacDoor
