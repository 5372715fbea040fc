/- Contracts: gathered and scattered bits. -/
import Derived.Test.YtbknmokoegembacDoorGatA
import Derived.Test.YtbknmokoegembacDoorGatPlain2
import Derived.Test.YtbknmokoegembacDoorMWord
import Derived.Test.YtbknmokoegembacDoorWord2
import Derived.Test.YtbknmokoegembacDoorMFnA
import Derived.Deep.RegionWith

namespace Bw
open Go Go.RowKit

theorem bt_pow_cast (x k p : Nat) (hp : p ≤ 12) : wrap64 (bt x k * 2 ^ p) = ((x / 2 ^ k % 2 * 2 ^ p : Nat) : Int) := by
  have h5 : 2 ^ p ≤ 2 ^ 12 := Nat.pow_le_pow_right (by omega) hp
  have h6 := bit_mul_le x k (2 ^ p)
  have e : bt x k * 2 ^ p = ((x / 2 ^ k % 2 * 2 ^ p : Nat) : Int) := by
    unfold bt; rw [two_pow_cast, ← Int.natCast_mul]
  rw [e, w64n (by omega)]

theorem glt_ori (x : Nat) (l : List Int) {j : Nat} (hj : j < 12) : bits .or .i64 (glt x l j : Int) (wrap64 (bt x (pl l j) * 2 ^ j)) = (glt x l (j + 1) : Int) := by
  have h1 := glt_or x l j
  have h2 := glt_le x l j (by omega)
  have h5 : 2 ^ j ≤ 2 ^ 12 := Nat.pow_le_pow_right (by omega) (by omega)
  have h6 := bit_mul_le x (pl l j) (2 ^ j)
  rw [bt_pow_cast _ _ _ (by omega), i64_or _ _ (by omega) (by omega), h1]

theorem slt_ori (x : Nat) {m j : Nat} (hj : j < pc m 12) : bits .or .i64 (slt x (onI m 12) j : Int) (wrap64 (bt x j * 2 ^ pl (onI m 12) j)) = (slt x (onI m 12) (j + 1) : Int) := by
  have h1 := slt_or x m hj
  have h2 := slt_le x (show j ≤ pc m 12 by omega) (Nat.le_refl 12)
  have h3 := onI_bd hj
  have hp : pl (onI m 12) j ≤ 12 := by unfold pl; omega
  have h5 : 2 ^ pl (onI m 12) j ≤ 2 ^ 12 := Nat.pow_le_pow_right (by omega) hp
  have h6 := bit_mul_le x j (2 ^ pl (onI m 12) j)
  rw [bt_pow_cast _ _ _ hp, i64_or _ _ (by omega) (by omega), h1]

theorem onI_read {m j : Nat} (hj : j < pc m 12) : nth (onI m 12) j = (pl (onI m 12) j : Int) ∧ pl (onI m 12) j < 12 := by
  have h3 := onI_bd hj
  unfold pl
  omega

end Bw

namespace Go.Proofs.YtbknmokoegembacDoor
open Go.RowKit
set_option linter.unusedVariables false

set_option maxHeartbeats 400000 in
theorem gather_any (x m : Nat) (w : World) (hx : x < 4096) (hm : m < 4096) (hT : Hid (TabLies w)) :
    Calls Tryd.prog 41 #[.int .i64 x, .int .i64 m] w fun e w' => e = .returned (.int .i64 ((Bw.gth x m 12 : Nat) : Int)) ∧ Below w.heap.size w w' := by
  have HG := Lib.hid (Bw.glt_gth x m 12)
  have HS := Lib.hid (fun j hj => Bw.glt_ori x (Bw.onI m 12) (j := j) hj)
  have HR := Lib.hid (fun j hj => Bw.onI_read (m := m) (j := j) hj)
  have HPL := Lib.hid (Bw.onI_length m 12)
  have hp12 := Bw.pc_le m 12
  go_enter Tryd.func41, Tryd.ntmps41
  go_wp2_with fail
  (with_reducible refine (places_any m _ hm hT).mono ?_)
  rintro e w1 ⟨r, rfl, ho, hb⟩
  have HB := Lib.hid hb
  have hrd := ho.reads
  obtain ⟨zs, hzs⟩ : ∃ zs, Bw.onI m 12 = zs := ⟨_, rfl⟩
  obtain ⟨n, hn⟩ : ∃ n, Bw.pc m 12 = n := ⟨_, rfl⟩
  rw [hzs, hn] at HG HPL
  rw [hzs] at hrd HS HR
  rw [hn] at HR hp12
  clear hb ho hzs hn
  rcases hrd with ⟨h0, a, cap, rfl⟩ | ⟨h0, b, off, cap, rfl, hc, hlt, hcell⟩
  · subst h0
    have hn0 : n = 0 := HPL.out.symm
    subst hn0
    go_wp2_with fail
    refine wp_loop_rounds 1 ?_
    rw [rounds_succ]
    go_wp2_with fail
    go_ret
    exact ⟨ret_int (by rw [← HG.out]; rfl), HB.out⟩
  · have HC := Lib.hid hcell
    rw [HPL.out] at hc
    have HPL2 := HPL.out
    rw [HPL2]
    clear hcell
    go_wp2_with fail
    go_loop [5, 11] (fun t i => ∃ j : Nat, j ≤ n ∧ i = .int .i64 j ∧ t = .int .i64 ((Bw.glt x zs j : Nat) : Int)) (fun _ i => n - (intOf i).toNat)
    case atStart => exact ⟨0, by omega, rfl, rfl⟩
    case round =>
      obtain ⟨j, hj, rfl, rfl⟩ := hrel
      by_cases hl : j < n
      · have hp := HR.out j hl
        have hcell : w1.cell? ⟨b, off + j, none⟩ = some (.int .i64 (Bw.pl zs j)) := by
          rw [HC.out j (by omega), hp.1]
        have HM := Lib.hid (HS.out j (by omega))
        obtain ⟨p, hpp⟩ : ∃ p, Bw.pl zs j = p := ⟨_, rfl⟩
        rw [hpp] at hcell HM hp
        have hp12 := hp.2
        clear hpp hp
        go_wp2_with (go_at_call 49; ((with_reducible refine (mbit_any x p _ (by omega) (by omega)).mono ?_); rintro e w' ⟨rfl, rfl⟩))
        go_round
        case rel => exact ⟨j + 1, by omega, by go_num, by rw [HM.out]⟩
        case measure => simp [intOf]; omega
      · obtain rfl : j = n := by omega
        go_wp2_with fail
        go_ret
        exact ⟨ret_int (by rw [HG.out]), HB.out⟩

set_option maxHeartbeats 400000 in
theorem scatter_any (x m : Nat) (w : World) (hx : x < 4096) (hm : m < 4096) (hT : Hid (TabLies w)) :
    Calls Tryd.prog 32 #[.int .i64 x, .int .i64 m] w fun e w' => e = .returned (.int .i64 ((Bw.sct x m 12 : Nat) : Int)) ∧ Below w.heap.size w w' := by
  have HG := Lib.hid (Bw.slt_sct x m 12)
  have HS := Lib.hid (fun j hj => Bw.slt_ori x (m := m) (j := j) hj)
  have HR := Lib.hid (fun j hj => Bw.onI_read (m := m) (j := j) hj)
  have HPL := Lib.hid (Bw.onI_length m 12)
  have hp12 := Bw.pc_le m 12
  go_enter Tryd.func32, Tryd.ntmps32
  go_wp2_with fail
  (with_reducible refine (places_any m _ hm hT).mono ?_)
  rintro e w1 ⟨r, rfl, ho, hb⟩
  have HB := Lib.hid hb
  have hrd := ho.reads
  obtain ⟨zs, hzs⟩ : ∃ zs, Bw.onI m 12 = zs := ⟨_, rfl⟩
  obtain ⟨n, hn⟩ : ∃ n, Bw.pc m 12 = n := ⟨_, rfl⟩
  rw [hzs, hn] at HG HPL
  rw [hzs] at hrd HS HR
  rw [hn] at HR HS hp12
  clear hb ho hzs hn
  rcases hrd with ⟨h0, a, cap, rfl⟩ | ⟨h0, b, off, cap, rfl, hc, hlt, hcell⟩
  · subst h0
    have hn0 : n = 0 := HPL.out.symm
    subst hn0
    go_wp2_with fail
    refine wp_loop_rounds 1 ?_
    rw [rounds_succ]
    go_wp2_with fail
    go_ret
    exact ⟨ret_int (by rw [← HG.out]; rfl), HB.out⟩
  · have HC := Lib.hid hcell
    rw [HPL.out] at hc
    have HPL2 := HPL.out
    rw [HPL2]
    clear hcell
    go_wp2_with fail
    go_loop [5, 11] (fun t i => ∃ j : Nat, j ≤ n ∧ i = .int .i64 j ∧ t = .int .i64 ((Bw.slt x zs j : Nat) : Int)) (fun _ i => n - (intOf i).toNat)
    case atStart => exact ⟨0, by omega, rfl, rfl⟩
    case round =>
      obtain ⟨j, hj, rfl, rfl⟩ := hrel
      by_cases hl : j < n
      · have hp := HR.out j hl
        have hcell : w1.cell? ⟨b, off + j, none⟩ = some (.int .i64 (Bw.pl zs j)) := by
          rw [HC.out j (by omega), hp.1]
        have HM := Lib.hid (HS.out j hl)
        obtain ⟨p, hpp⟩ : ∃ p, Bw.pl zs j = p := ⟨_, rfl⟩
        rw [hpp] at hcell HM hp
        have hp12 := hp.2
        clear hpp hp
        go_wp2_with (go_at_call 49; ((with_reducible refine (mbit_any x j _ (by omega) (by omega)).mono ?_); rintro e w' ⟨rfl, rfl⟩))
        go_round
        case rel => exact ⟨j + 1, by omega, by go_num, by rw [HM.out]⟩
        case measure => simp [intOf]; omega
      · obtain rfl : j = n := by omega
        go_wp2_with fail
        go_ret
        exact ⟨ret_int (by rw [HG.out]), HB.out⟩

end Go.Proofs.YtbknmokoegembacDoor
