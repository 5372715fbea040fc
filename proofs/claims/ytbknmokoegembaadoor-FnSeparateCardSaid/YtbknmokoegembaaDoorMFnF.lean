/- Contracts: sorted bits. -/
import Derived.Test.YtbknmokoegembaaDoorMFnE

namespace Bw
open Go

theorem srow_bd {x p b : Nat} (h : x ≤ b) : ∀ j, (j = 0 ∨ p + 2 * j ≤ 13) → srow x p j ≤ b + 2048 * j
  | 0, _ => by simpa [srow] using h
  | j + 1, hj => by
    have ih := srow_bd (p := p) h j (by omega)
    have h2 := sstep_bd (k := p + 2 * j) ih (by omega)
    have e : srow x p (j + 1) = sstep (srow x p j) (p + 2 * j) := rfl
    rw [e, Nat.mul_add, Nat.mul_one, ← Nat.add_assoc]
    exact h2

theorem srounds_bd {n x : Nat} (hn : n ≤ 12) (hx : x < 4096) : ∀ r, srounds n x r ≤ 4096 + 12288 * r
  | 0 => by have e : srounds n x 0 = x := rfl
            omega
  | r + 1 => by
    have ih := srounds_bd hn hx r
    have h2 := srow_bd (p := r % 2) ih ((n - r % 2) / 2) (by omega)
    have e : srounds n x (r + 1) = srow (srounds n x r) (r % 2) ((n - r % 2) / 2) := rfl
    rw [← e] at h2
    have h3 : (n - r % 2) / 2 ≤ 6 := by omega
    generalize srounds n x (r + 1) = z at *
    omega

theorem sstep_yes {x k : Nat} (h1 : bt x k = 1) (h2 : bt x (k + 1) = 0) : sstep x k = x + 2 ^ k := by
  unfold sstep; rw [if_pos ⟨(bt_one x k).1 h1, (bt_zero x (k + 1)).1 h2⟩]

theorem sstep_no1 {x k : Nat} (h1 : bt x k = 0) : sstep x k = x := by
  unfold sstep; rw [if_neg]; intro h; have := (bt_zero x k).1 h1; omega

theorem sstep_no2 {x k : Nat} (h2 : bt x (k + 1) = 1) : sstep x k = x := by
  unfold sstep; rw [if_neg]; intro h; have := (bt_one x (k + 1)).1 h2; omega

end Bw

namespace Go.Proofs.YtbknmokoegembaaDoor
open Go.RowKit
set_option linter.unusedVariables false

theorem impl_BitsSorted_no (n x : Int) (w : World) (hx : Hid (¬ WordOk n x)) :
    Calls Tryd.prog 14 #[.int .i64 n, .int .i64 x] w fun e w' => e = .returned (.int .i64 (-1)) ∧ Below w.heap.size w w' := by
  go_enter Tryd.func14, Tryd.ntmps14
  go_wp2_with (first | (go_at_call 41; ((with_reducible refine (impl_WordValid_no n x _ hx).mono ?_); rintro e w' ⟨rfl, rfl⟩)) | go_in)
  go_ret
  exact ⟨rfl, (Below.refl _ _).alloc (Nat.le_refl _) _⟩

set_option maxHeartbeats 400000 in
theorem impl_BitsSorted_yes (n x : Nat) (w : World) (hx : Hid (WordOk n x)) :
    Calls Tryd.prog 14 #[.int .i64 n, .int .i64 x] w fun e w' => e = .returned (.int .i64 ((Bw.greatestOf n (Bw.pc x n) : Nat) : Int)) ∧ Below w.heap.size w w' := by
  have hw := hx.out.1
  have x1 := word_bd hx.out
  have hn : n ≤ 12 := by omega
  have hc := Bw.wrap_u64_small x (by omega)
  have hlt : x < 2 ^ n := by have := hx.out.2.2; rw [Int.toNat_natCast] at this; omega
  have hpc := Bw.pc_more hlt (12 - n)
  rw [Nat.add_sub_cancel' hn] at hpc
  have hle := Bw.pc_le x n
  have HC := Lib.hid (fun w : World => hpc ▸ OnesCount_any x w (by omega))
  obtain ⟨o, ho⟩ : ∃ o, Bw.pc x n = o := ⟨_, rfl⟩
  rw [ho] at hle HC ⊢
  have hg := Bw.greatestOf_lt hle
  have HP0 := Lib.hid (fun w : World => wpower_any o w (by omega))
  have hpb := wbd (show o ≤ 12 by omega)
  have hge : Bw.greatestOf n o = (2 ^ o - 1) * 2 ^ (n - o) := rfl
  obtain ⟨p, hp⟩ : ∃ p, 2 ^ o = p := ⟨_, rfl⟩
  rw [hp] at hpb hge HP0
  obtain ⟨d, hd⟩ : ∃ d, n - o = d := ⟨_, rfl⟩
  rw [hd] at hge
  have ed : (n : Int) - (o : Int) = (d : Int) := by omega
  have hd12 : d ≤ 12 := by omega
  have HG := Lib.hid hg
  have HGE := Lib.hid hge
  have HN := Lib.hid hn
  clear hlt hpc ho hg hge hp hd hle hw hn
  go_enter Tryd.func14, Tryd.ntmps14
  go_wp2_with (first | (go_at_call 41; ((with_reducible refine (impl_WordValid_yes n x _ hx).mono ?_); rintro e w' ⟨rfl, rfl⟩)) | (go_at_call 30; ((with_reducible refine (HC.out _).mono ?_); rintro e w' ⟨rfl, rfl⟩)) | go_in)
  go_quiet ((go_at_call 40; (with_reducible exact quiet_eq (HP0.out _))))
  go_wp2_with (go_at_call 47; ((with_reducible refine (cut_any n _ _ (by have := HN.out; omega)).mono ?_); rintro e w' ⟨rfl, rfl⟩))
  go_ret
  refine ⟨ret_int ?_, Go.below_drewN ((Below.refl _ _).alloc (Nat.le_refl _) _) _⟩
  have e1 : ((p : Int) - 1) * 2 ^ d = ((Bw.greatestOf n o : Nat) : Int) := by
    rw [HGE.out, Int.natCast_mul, ← Bw.two_pow_cast]; congr 1; omega
  have h2 := HG.out
  have h3 := wbd HN.out
  rw [e1, Bw.w64n (by omega), emod_cast]
  rw [Int.emod_eq_of_lt (by omega) (by omega)]

end Go.Proofs.YtbknmokoegembaaDoor
