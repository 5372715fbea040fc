/- Contracts: words in the other order, highest bits of lanes. -/
import Derived.Test.YtbknmokoegembabDoorMLawsA
import Derived.Deep.QuietTactic
import Derived.BigQuiet
import Derived.Lib.Tables

namespace Bw
open Go

theorem u16_and_255 (x : Nat) (h : x < 4096) : bits .and .u16 (x : Int) 255 = ((x % 256 : Nat) : Int) := by
  show IntKind.u16.wrap ((BitVec.ofInt 16 (x : Int) &&& BitVec.ofInt 16 255).toNat : Nat) = _
  have e1 : (BitVec.ofInt 16 (x : Int)).toNat = x := by rw [BitVec.toNat_ofInt]; omega
  have e2 : (BitVec.ofInt 16 255).toNat = 2 ^ 8 - 1 := by decide
  rw [BitVec.toNat_and, e1, e2, Nat.and_two_pow_sub_one_eq_mod]
  simp [IntKind.wrap, IntKind.bits, IntKind.signed]
  omega

theorem wrap_u16_small (n : Nat) (h : n < 65536) : IntKind.u16.wrap (n : Int) = (n : Int) := by
  simp [IntKind.wrap, IntKind.bits, IntKind.signed]
  omega

theorem u16_or (a b : Nat) (ha : a < 65536) (hb : b < 65536) : bits .or .u16 (a : Int) (b : Int) = ((a ||| b : Nat) : Int) := by
  show IntKind.u16.wrap ((BitVec.ofInt 16 (a : Int) ||| BitVec.ofInt 16 (b : Int)).toNat : Nat) = _
  have e1 : (BitVec.ofInt 16 (a : Int)).toNat = a := by rw [BitVec.toNat_ofInt]; omega
  have e2 : (BitVec.ofInt 16 (b : Int)).toNat = b := by rw [BitVec.toNat_ofInt]; omega
  rw [BitVec.toNat_or, e1, e2]
  exact wrap_u16_small _ (Nat.or_lt_two_pow (n := 16) (by omega) (by omega))

theorem rev8_eq : ∀ n : Fin 256, Lib.rev8 (n.val : Int) = (rv n.val 8 : Int) := by decide +kernel

theorem rev8_rv {a : Nat} (h : a < 256) : Lib.rev8 (a : Int) = ((rv a 8 : Nat) : Int) := rev8_eq ⟨a, h⟩

theorem rv_mod (x : Nat) : ∀ k, k ≤ 8 → rv x k = rv (x % 256) k
  | 0, _ => rfl
  | k + 1, h => by
    have hb : x / 2 ^ k % 2 = x % 256 / 2 ^ k % 2 := by
      have t := Nat.testBit_mod_two_pow x 8 k
      rw [show (2 : Nat) ^ 8 = 256 from rfl] at t
      have hk : decide (k < 8) = true := by simp; omega
      rw [hk, Bool.true_and, Nat.testBit_eq_decide_div_mod_eq, Nat.testBit_eq_decide_div_mod_eq, decide_eq_decide] at t
      have h1 := Nat.mod_lt (x / 2 ^ k) (show 2 > 0 by omega)
      have h2 := Nat.mod_lt (x % 256 / 2 ^ k) (show 2 > 0 by omega)
      omega
    show 2 * rv x k + x / 2 ^ k % 2 = 2 * rv (x % 256) k + x % 256 / 2 ^ k % 2
    rw [rv_mod x k (by omega), hb]

theorem rv_int (x k : Nat) : ((rv x (k + 1) : Nat) : Int) = 2 * ((rv x k : Nat) : Int) + bt x k := by
  show ((2 * rv x k + x / 2 ^ k % 2 : Nat) : Int) = _
  unfold bt
  omega

theorem rv_split (x : Nat) : ∀ m, rv x (8 + m) = 2 ^ m * rv (x % 256) 8 + rv (x / 256) m
  | 0 => by rw [Nat.add_zero, rv_mod x 8 (by omega)]; simp [rv]
  | m + 1 => by
    have hd : x / 2 ^ (8 + m) = x / 256 / 2 ^ m := by rw [Nat.pow_add, ← Nat.div_div_eq_div_mul]
    show 2 * rv x (8 + m) + x / 2 ^ (8 + m) % 2 = 2 ^ (m + 1) * rv (x % 256) 8 + (2 * rv (x / 256) m + x / 256 / 2 ^ m % 2)
    rw [rv_split x m, hd, Nat.pow_succ, Nat.mul_comm (2 ^ m) 2, Nat.mul_add, Nat.mul_assoc]
    omega

theorem rv_bytes {x a b : Nat} (ha : x / 256 = a) (hb : x % 256 = b) (h : a < 256) :
    bits .or .u16 (IntKind.u16.wrap (Lib.rev8 (a : Int))) (IntKind.u16.wrap (IntKind.u16.wrap (Lib.rev8 (b : Int)) * 256)) = ((rv x 16 : Nat) : Int) := by
  have hb2 : b < 256 := by omega
  have h1 := rv_lt a 8
  have h2 := rv_lt b 8
  have e := rv_split x 8
  rw [ha, hb] at e
  rw [rev8_rv h, rev8_rv hb2, wrap_u16_small _ (by omega), wrap_u16_small _ (by omega), show ((rv b 8 : Nat) : Int) * 256 = ((rv b 8 * 256 : Nat) : Int) by simp, wrap_u16_small _ (by omega), u16_or _ _ (by omega) (by omega), show rv x 16 = rv x (8 + 8) from rfl, e, Nat.or_comm,
    Nat.mul_comm (rv b 8), show 256 = 2 ^ 8 from rfl, ← Nat.two_pow_add_eq_or_of_lt h1]

end Bw

namespace Go.Proofs.YtbknmokoegembabDoor
open Go.RowKit
set_option linter.unusedVariables false

set_option maxHeartbeats 400000 in
theorem Reverse16_any (x : Nat) (w : World) (h : x < 4096) :
    Calls Tryd.prog 53 #[.int .u16 x] w fun e w' => e = .returned (.int .u16 ((Bw.rv x 16 : Nat) : Int)) ∧ ∃ m, w' = w.drewN m := by
  have hu := Tryd.underlying9
  have ea := Bw.u16_and_255 x h
  obtain ⟨a, ha⟩ : ∃ a, x / 256 = a := ⟨_, rfl⟩
  obtain ⟨b, hb⟩ : ∃ b, x % 256 = b := ⟨_, rfl⟩
  rw [hb] at ea
  have ha2 : (x : Int) / 256 = (a : Int) := by omega
  have r1 : ∀ w : World, (Instr.index 9 (.string Lib.rev8tab) (.int .u16 (a : Int))).run Tryd.prog w = .ok (.int .u8 (Lib.rev8 (a : Int))) w := fun w => Lib.run_index_rev8tab w _ _ _ hu (by omega) (by omega)
  have r2 : ∀ w : World, (Instr.index 9 (.string Lib.rev8tab) (.int .u16 (b : Int))).run Tryd.prog w = .ok (.int .u8 (Lib.rev8 (b : Int))) w := fun w => Lib.run_index_rev8tab w _ _ _ hu (by omega) (by omega)
  have HA := Lib.hid ha
  have HB := Lib.hid hb
  clear ha hb
  go_enter Tryd.func53, Tryd.ntmps53
  go_wp2
  simp only [List.append, Lib.fold_rev8tab]
  go_quiet (fail)
  go_wp2
  go_ret
  exact ⟨by rw [← Bw.rv_bytes HA.out HB.out (by omega)]; rfl, _, rfl⟩

set_option maxHeartbeats 400000 in
theorem impl_Reverse_yes (n x : Nat) (w : World) (hx : Hid (WordOk n x)) :
    Calls Tryd.prog 18 #[.int .i64 n, .int .i64 x] w fun e w' => e = .returned (.int .i64 ((Bw.rv x n : Nat) : Int)) ∧ Below w.heap.size w w' := by
  have hw := hx.out.1
  have x1 := word_bd hx.out
  have hr := Bw.rv_lt x 16
  have hlt : x < 2 ^ n := by have := hx.out.2.2; rw [Int.toNat_natCast] at this; omega
  have ht := Bw.rv_top hlt (by omega)
  have HT := Lib.hid ht
  have hc := Bw.wrap_u16_small x (by omega)
  have HR := Lib.hid (fun w : World => Reverse16_any x w (by omega))
  obtain ⟨r, hrr⟩ : ∃ r, Bw.rv x 16 = r := ⟨_, rfl⟩
  rw [hrr] at hr HT HR
  clear hlt ht hrr
  go_enter Tryd.func18, Tryd.ntmps18
  go_wp2_with (first | (go_at_call 16; ((with_reducible refine (impl_WordValid_yes n x _ hx).mono ?_); rintro e w' ⟨rfl, rfl⟩)) | go_in)
  go_quiet ((go_at_call 53; exact Calls.quiet_of (HR.out _)))
  go_wp2_with (first | (go_at_call 59; ((with_reducible refine (cut_any n _ _ (by omega)).mono ?_); rintro e w' ⟨rfl, rfl⟩)) | go_in)
  go_ret
  refine ⟨ret_int ?_, Go.below_drewN ((Below.refl _ _).alloc (Nat.le_refl _) _) _⟩
  have e : (r : Int) / 2 ^ (16 - n) = ((r / 2 ^ (16 - n) : Nat) : Int) := by simp
  have hle := Nat.div_le_self r (2 ^ (16 - n))
  rw [← HT.out, e, Bw.w64n (by omega), emod_cast]
  simp

theorem impl_Reverse_no (n x : Int) (w : World) (hx : Hid (¬ WordOk n x)) :
    Calls Tryd.prog 18 #[.int .i64 n, .int .i64 x] w fun e w' => e = .returned (.int .i64 (-1)) ∧ Below w.heap.size w w' := by
  go_enter Tryd.func18, Tryd.ntmps18
  go_wp2_with (first | (go_at_call 16; ((with_reducible refine (impl_WordValid_no n x _ hx).mono ?_); rintro e w' ⟨rfl, rfl⟩)) | go_in)
  go_ret
  exact ⟨rfl, (Below.refl _ _).alloc (Nat.le_refl _) _⟩

theorem spec_Reverse_yes (n x : Nat) (w : World) (hx : Hid (WordOk n x)) :
    Calls Tryd.prog 19 #[.int .i64 n, .int .i64 x] w fun e w' => e = .returned (.int .i64 ((Bw.rv x n : Nat) : Int)) ∧ w = w' := by
  have hw := hx.out.1
  have x1 := word_bd hx.out
  have hn : n ≤ 12 := by omega
  go_enter Tryd.func19, Tryd.ntmps19
  go_wp2_with (go_at_call 54; ((with_reducible refine (spec_WordValid_yes n x _ hx).mono ?_); rintro e w' ⟨rfl, rfl⟩))
  go_loop [5, 6] (fun t i => ∃ k : Nat, k ≤ n ∧ i = .int .i64 k ∧ t = .int .i64 ((Bw.rv x k : Nat) : Int)) (fun _ i => n - (intOf i).toNat)
  case atStart => exact ⟨0, by omega, rfl, rfl⟩
  case round =>
    obtain ⟨k, hk, rfl, rfl⟩ := hrel
    have hr : Bw.rv x k < 4096 := Nat.lt_of_lt_of_le (Bw.rv_lt x k) (wbd (by omega)).2
    have hb := Bw.bt_bd x k
    by_cases hlt : k < n
    · go_wp2_with (go_at_call 44; ((with_reducible refine (ml1Bit_any x k _ (by omega) (by omega)).mono ?_); rintro e w' ⟨rfl, rfl⟩))
      go_round
      case rel => exact ⟨k + 1, by omega, by go_num, by rw [Bw.rv_int]⟩
      case measure => simp [intOf]; omega
    · obtain rfl : k = n := by omega
      go_wp2_with fail
      go_ret
      exact ⟨rfl, rfl⟩

theorem spec_Reverse_no (n x : Int) (w : World) (hx : Hid (¬ WordOk n x)) :
    Calls Tryd.prog 19 #[.int .i64 n, .int .i64 x] w fun e w' => e = .returned (.int .i64 (-1)) ∧ w = w' := by
  go_enter Tryd.func19, Tryd.ntmps19
  go_wp2_with (go_at_call 54; ((with_reducible refine (spec_WordValid_no n x _ hx).mono ?_); rintro e w' ⟨rfl, rfl⟩))
  go_ret
  exact ⟨rfl, rfl⟩

end Go.Proofs.YtbknmokoegembabDoor
