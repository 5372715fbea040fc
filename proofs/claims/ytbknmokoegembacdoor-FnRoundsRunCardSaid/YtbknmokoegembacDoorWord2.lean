/- Contracts: sums and negations of words; the fixed answer. -/
import Derived.Test.YtbknmokoegembacDoorWord

namespace Go.Proofs.YtbknmokoegembacDoor
open Go.RowKit
set_option linter.unusedVariables false

theorem two_cells (w : World) (x y : Value) (t : TypeId) : (w.alloc (.cells #[x, y] t)).cell? ⟨w.heap.size, 0, none⟩ = some x ∧ (w.alloc (.cells #[x, y] t)).cell? ⟨w.heap.size, 1, none⟩ = some y := by
  constructor <;> simp

theorem word_bd {n x : Int} (h : WordOk n x) : 0 ≤ x ∧ x < 4096 := by
  obtain ⟨⟨h0, h1⟩, h2, h3⟩ := h
  have : 2 ^ n.toNat ≤ 2 ^ 12 := Nat.pow_le_pow_right (by omega) (by omega)
  omega

theorem pow_bd {n : Nat} (h : n ≤ 12) : 1 ≤ 2 ^ n ∧ 2 ^ n ≤ 4096 := by
  have : 2 ^ n ≤ 2 ^ 12 := Nat.pow_le_pow_right (by omega) h
  have := Nat.two_pow_pos n
  omega

theorem emod_cast (x : Int) (n : Nat) : x % (2 : Int) ^ n = x % ((2 ^ n : Nat) : Int) := by rw [Bw.two_pow_cast]

theorem WordAdd_yes (n : Nat) (a b : Int) (w : World) (ha : Hid (WordOk n a)) (hb : Hid (WordOk n b)) :
    Calls Tryd.prog 38 #[.int .i64 n, .int .i64 a, .int .i64 b] w fun e w' => e = .returned (.int .i64 ((a + b) % ((2 ^ n : Nat) : Int))) ∧ Below w.heap.size w w' := by
  have hw := ha.out.1
  have a1 := word_bd ha.out
  have b1 := word_bd hb.out
  go_enter Tryd.func38, Tryd.ntmps38
  go_wp2_with (first | (go_at_call 61; ((with_reducible refine (allValid_yes n a b _ _ hw (two_cells w _ _ _).1 (two_cells w _ _ _).2 ha hb).mono ?_); rintro e w' ⟨rfl, rfl⟩)) | (go_at_call 62; ((with_reducible refine (cut_any n _ _ (by omega)).mono ?_); rintro e w' ⟨rfl, rfl⟩)) | go_in)
  go_ret
  exact ⟨ret_int (by rw [← emod_cast]), (Below.refl _ _).alloc (Nat.le_refl _) _⟩

theorem WordNot_yes (n : Nat) (x : Int) (w : World) (hx : Hid (WordOk n x)) :
    Calls Tryd.prog 39 #[.int .i64 n, .int .i64 x] w fun e w' => e = .returned (.int .i64 ((-1 - x) % ((2 ^ n : Nat) : Int))) ∧ w = w' := by
  have hw := hx.out.1
  have x1 := word_bd hx.out
  have hn := Bw.i64_not x (by omega) (by omega)
  go_enter Tryd.func39, Tryd.ntmps39
  go_wp2_with (first | (go_at_call 12; ((with_reducible refine (impl_WordValid_yes n x _ hx).mono ?_); rintro e w' ⟨rfl, rfl⟩)) | (go_at_call 62; ((with_reducible refine (cut_any n _ _ (by omega)).mono ?_); rintro e w' ⟨rfl, rfl⟩)) | go_in)
  go_ret
  exact ⟨ret_int (by first | rfl | rw [← emod_cast]), rfl⟩

theorem alive_any (w : World) :
    Calls Tryd.prog 10 #[] w fun e w' => e = .returned (.bool true) ∧ Below w.heap.size w w' := by
  have h1 : Hid (∀ w : World, Calls Tryd.prog 38 #[.int .i64 4, .int .i64 9, .int .i64 9] w fun e w' => e = .returned (.int .i64 2) ∧ Below w.heap.size w w') := fun w =>
    WordAdd_yes 4 9 9 w (by unfold Hid WordOk; decide) (by unfold Hid WordOk; decide)
  have h2 : Hid (∀ w : World, Calls Tryd.prog 39 #[.int .i64 3, .int .i64 0] w fun e w' => e = .returned (.int .i64 7) ∧ w = w') := fun w =>
    WordNot_yes 3 0 w (by unfold Hid WordOk; decide)
  go_enter Tryd.func10, Tryd.ntmps10
  go_wp2_with fail
  refine (h1.out _).mono ?_
  rintro e w1 ⟨rfl, hb⟩
  have HB := Lib.hid hb
  clear hb
  go_wp2_with (go_at_call 39; ((with_reducible refine (h2.out _).mono ?_); rintro e w' ⟨rfl, rfl⟩))
  go_ret
  exact ⟨rfl, HB.out⟩

end Go.Proofs.YtbknmokoegembacDoor
