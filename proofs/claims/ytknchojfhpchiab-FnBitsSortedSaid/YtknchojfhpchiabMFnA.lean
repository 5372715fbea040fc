/- Contracts: masks, lanes, means, and words in the other order. -/
import Derived.Test.YtknchojfhpchiabMWord
import Derived.Test.YtknchojfhpchiabWord2

namespace Go.Proofs.Ytknchojfhpchiab
open Go.RowKit
set_option linter.unusedVariables false

theorem quiet_eq {P : Program} {f : FuncId} {args : Array Value} {w : World} {n : Nat} {v : Value} (h : Calls P f args (w.drewN n) fun e w' => e = .returned v ∧ w.drewN n = w') :
    Calls P f args (w.drewN n) fun e w'' => e = .returned v ∧ ∃ m, w'' = w.drewN m := h.mono fun _ _ ⟨he, hm⟩ => ⟨he, n, hm.symm⟩

theorem spec_MeanUp_yes (n a b : Nat) (w : World) (ha : Hid (WordOk n a)) (hb : Hid (WordOk n b)) :
    Calls Try.prog 9 #[.int .i64 n, .int .i64 a, .int .i64 b] w fun e w' => e = .returned (.int .i64 (((a + b + 1) / 2 : Nat) : Int)) ∧ w = w' := by
  have a1 := word_bd ha.out
  have b1 := word_bd hb.out
  have hm := Bw.mean_up a b
  have h3 := Bw.xor_and a b
  have h4 := Bw.or_and a b
  have hx : a ^^^ b < 4096 := Nat.xor_lt_two_pow (n := 12) (by omega) (by omega)
  have hy : a ||| b < 4096 := Nat.or_lt_two_pow (n := 12) (by omega) (by omega)
  have hxy : (a ^^^ b) / 2 ≤ a ||| b := by omega
  clear h3 h4
  obtain ⟨x, hxx⟩ : ∃ x, a ^^^ b = x := ⟨_, rfl⟩
  obtain ⟨y, hyy⟩ : ∃ y, a ||| b = y := ⟨_, rfl⟩
  have HX := Lib.hid (fun w : World => hxx ▸ l1Xor_any a b w (by omega) (by omega))
  have HY := Lib.hid (fun w : World => hyy ▸ l1Or_any a b w (by omega) (by omega))
  rw [hxx] at hm hx hxy
  rw [hyy] at hm hy hxy
  have HM := Lib.hid hm
  clear hm hxx hyy
  go_enter Try.func9, Try.ntmps9
  go_wp2_with (first | (go_at_call 29; ((with_reducible refine (l1Both_yes n a b _ ha hb).mono ?_); rintro e w' ⟨rfl, rfl⟩)) | (go_at_call 30; ((with_reducible refine (HY.out _).mono ?_); rintro e w' ⟨rfl, rfl⟩)) | (go_at_call 31; ((with_reducible refine (HX.out _).mono ?_); rintro e w' ⟨rfl, rfl⟩)))
  go_ret
  exact ⟨ret_int (by rw [HM.out]; omega), rfl⟩

theorem impl_MeanUp_yes (n a b : Nat) (w : World) (ha : Hid (WordOk n a)) (hb : Hid (WordOk n b)) :
    Calls Try.prog 10 #[.int .i64 n, .int .i64 a, .int .i64 b] w fun e w' => e = .returned (.int .i64 (((a + b + 1) / 2 : Nat) : Int)) ∧ Below w.heap.size w w' := by
  have hw := ha.out.1
  have a1 := word_bd ha.out
  have b1 := word_bd hb.out
  have hc : (((a : Int) + b + 1) / 2) % ((2 ^ n : Nat) : Int) = (((a + b + 1) / 2 : Nat) : Int) := by
    have h1 := ha.out.2.2
    have h2 := hb.out.2.2
    rw [Int.toNat_natCast] at h1 h2
    rw [show ((a : Int) + b + 1) / 2 = (((a + b + 1) / 2 : Nat) : Int) by omega, Int.emod_eq_of_lt (by omega) (by omega)]
  have HC := Lib.hid hc
  clear hc
  go_enter Try.func10, Try.ntmps10
  go_wp2_with (first | (go_at_call 54; ((with_reducible refine (allValid_yes n a b _ _ hw (two_cells w _ _ _).1 (two_cells w _ _ _).2 ha hb).mono ?_); rintro e w' ⟨rfl, rfl⟩)) | (go_at_call 55; ((with_reducible refine (cut_any n _ _ (by omega)).mono ?_); rintro e w' ⟨rfl, rfl⟩)) | go_in)
  go_ret
  exact ⟨ret_int HC.out, (Below.refl _ _).alloc (Nat.le_refl _) _⟩

theorem spec_MeanUp_no (n a b : Int) (w : World) (h : Hid (¬ WordOk n a ∨ (WordOk n a ∧ ¬ WordOk n b))) :
    Calls Try.prog 9 #[.int .i64 n, .int .i64 a, .int .i64 b] w fun e w' => e = .returned (.int .i64 (-1)) ∧ w = w' := by
  go_enter Try.func9, Try.ntmps9
  go_wp2_with (go_at_call 29; ((with_reducible refine (l1Both_no n a b _ h).mono ?_); rintro e w' ⟨rfl, rfl⟩))
  go_ret
  exact ⟨rfl, rfl⟩

theorem impl_MeanUp_no (n a b : Int) (w : World) (h : Hid (¬ WordOk n a ∨ (WordOk n a ∧ ¬ WordOk n b))) :
    Calls Try.prog 10 #[.int .i64 n, .int .i64 a, .int .i64 b] w fun e w' => e = .returned (.int .i64 (-1)) ∧ Below w.heap.size w w' := by
  go_enter Try.func10, Try.ntmps10
  go_wp2_with (first | (go_at_call 54; ((with_reducible refine (allValid_no n a b _ _ (two_cells w _ _ _).1 (two_cells w _ _ _).2 h).mono ?_); rintro e w' ⟨rfl, rfl⟩)) | go_in)
  go_ret
  exact ⟨rfl, (Below.refl _ _).alloc (Nat.le_refl _) _⟩

end Go.Proofs.Ytknchojfhpchiab
