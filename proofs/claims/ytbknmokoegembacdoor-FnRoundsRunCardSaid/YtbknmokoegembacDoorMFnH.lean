/- Contracts: words of two words. -/
import Derived.Test.YtbknmokoegembacDoorWord2
import Derived.Test.YtbknmokoegembacDoorMWord

namespace Go.Proofs.YtbknmokoegembacDoor
open Go.RowKit
set_option linter.unusedVariables false

theorem word_lt {n x : Nat} (h : WordOk (n : Int) (x : Int)) : x < 2 ^ n := by
  have := h.2.2; rw [Int.toNat_natCast] at this; exact Int.ofNat_lt.1 this

theorem word_ok {n x : Nat} (h0 : 1 ≤ n) (h1 : n ≤ 12) (hx : x < 2 ^ n) : WordOk (n : Int) (x : Int) :=
  ⟨⟨by omega, by omega⟩, Int.natCast_nonneg _, by rw [Int.toNat_natCast]; exact Int.ofNat_lt.2 hx⟩

theorem WordAnd_yes (n a b : Nat) (w : World) (ha : Hid (WordOk n a)) (hb : Hid (WordOk n b)) :
    Calls Tryd.prog 16 #[.int .i64 n, .int .i64 a, .int .i64 b] w fun e w' => e = .returned (.int .i64 ((a &&& b : Nat) : Int)) ∧ Below w.heap.size w w' := by
  have hw := ha.out.1
  have a1 := word_bd ha.out
  have b1 := word_bd hb.out
  have hx := Bw.i64_and a b (by omega) (by omega)
  have hc : ((a &&& b : Nat) : Int) % ((2 ^ n : Nat) : Int) = ((a &&& b : Nat) : Int) :=
    Int.emod_eq_of_lt (Int.natCast_nonneg _) (Int.ofNat_lt.2 (Nat.lt_of_le_of_lt Nat.and_le_left (word_lt ha.out)))
  have HK := Lib.hid (fun w : World => cut_any n ((a &&& b : Nat) : Int) w (by omega))
  rw [hc] at HK
  obtain ⟨x, hxx⟩ : ∃ x, a &&& b = x := ⟨_, rfl⟩
  rw [hxx] at hx HK ⊢
  clear hc hxx
  go_enter Tryd.func16, Tryd.ntmps16
  go_wp2_with (first | (go_at_call 61; ((with_reducible refine (allValid_yes n a b _ _ hw (two_cells w _ _ _).1 (two_cells w _ _ _).2 ha hb).mono ?_); rintro e w' ⟨rfl, rfl⟩)) | (go_at_call 62; ((with_reducible refine (HK.out _).mono ?_); rintro e w' ⟨rfl, rfl⟩)) | go_in)
  go_ret
  exact ⟨rfl, (Below.refl _ _).alloc (Nat.le_refl _) _⟩

end Go.Proofs.YtbknmokoegembacDoor
