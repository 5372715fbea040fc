/- Contracts: how many bits are 1, all words with as many. -/
import Derived.Test.YtbknmokoegembacDoorMFnE
import Derived.Test.YtbknmokoegembacDoorOwn

namespace Bw
open Go Go.RowKit

/-- the words below m with so many ones -/
def flt (o m : Nat) : List Int := ((List.range m).filter fun x => pc x 12 == o).map fun x : Nat => (x : Int)

theorem flt_yes {o m : Nat} (h : pc m 12 = o) : flt o (m + 1) = flt o m ++ [(m : Int)] := by
  unfold flt; rw [List.range_succ, List.filter_append, List.map_append]; simp [h]

theorem flt_no {o m : Nat} (h : pc m 12 ≠ o) : flt o (m + 1) = flt o m := by
  unfold flt; rw [List.range_succ, List.filter_append, List.map_append]; simp [h]

theorem flt_len (o : Nat) : ∀ m, (flt o m).length ≤ m
  | 0 => by simp [flt]
  | m + 1 => by
    have ih := flt_len o m
    by_cases h : pc m 12 = o
    · rw [flt_yes h]; simp; omega
    · rw [flt_no h]; omega

theorem flt_last {o y : Nat} (hy : pc y 12 = o) : ∀ m, y < m → (∀ x, y < x → x < m → pc x 12 ≠ o) → flt o m = flt o y ++ [(y : Int)]
  | 0, h, _ => absurd h (by omega)
  | m + 1, h, hx => by
    by_cases e : y = m
    · subst e; exact flt_yes hy
    · rw [flt_no (hx m (by omega) (by omega))]
      exact flt_last hy m (by omega) (fun x h1 h2 => hx x h1 (by omega))

end Bw

namespace Go.Proofs.YtbknmokoegembacDoor
open Go.RowKit
set_option linter.unusedVariables false

theorem impl_OnesOf_yes (n x : Nat) (w : World) (hx : Hid (WordOk n x)) :
    Calls Tryd.prog 18 #[.int .i64 n, .int .i64 x] w fun e w' => e = .returned (.int .i64 ((Bw.pc x n : Nat) : Int)) ∧ w = w' := by
  have x1 := word_bd hx.out
  have hw := hx.out.1
  have hn : n ≤ 12 := by omega
  have hc := Bw.wrap_u64_small x (by omega)
  have hlt : x < 2 ^ n := by have := hx.out.2.2; rw [Int.toNat_natCast] at this; omega
  have hpc := Bw.pc_more hlt (12 - n)
  rw [Nat.add_sub_cancel' hn] at hpc
  have HC := Lib.hid (fun w : World => hpc ▸ OnesCount_any x w (by omega))
  obtain ⟨o, ho⟩ : ∃ o, Bw.pc x n = o := ⟨_, rfl⟩
  rw [ho] at HC ⊢
  clear hlt hpc ho hn
  go_enter Tryd.func18, Tryd.ntmps18
  go_wp2_with (first | (go_at_call 12; ((with_reducible refine (impl_WordValid_yes n x _ hx).mono ?_); rintro e w' ⟨rfl, rfl⟩)) | (go_at_call 33; ((with_reducible refine (HC.out _).mono ?_); rintro e w' ⟨rfl, rfl⟩)))
  go_ret
  exact ⟨rfl, rfl⟩

theorem impl_OnesOf_no (n x : Int) (w : World) (hx : Hid (¬ WordOk n x)) :
    Calls Tryd.prog 18 #[.int .i64 n, .int .i64 x] w fun e w' => e = .returned (.int .i64 (-1)) ∧ w = w' := by
  go_enter Tryd.func18, Tryd.ntmps18
  go_wp2_with (go_at_call 12; ((with_reducible refine (impl_WordValid_no n x _ hx).mono ?_); rintro e w' ⟨rfl, rfl⟩))
  go_ret
  exact ⟨rfl, rfl⟩

end Go.Proofs.YtbknmokoegembacDoor
