/- Contracts: words turned round by halves. -/
import Derived.Test.YtknchojfhpchiabMFnB

namespace Bw
open Go

def half (x m s : Nat) : Nat := (x &&& m) * s + (x / s &&& m)

theorem half_le {x m s : Nat} : half x m s ≤ m * s + m := by
  unfold half
  have h1 : x &&& m ≤ m := Nat.and_le_right
  have h2 : x / s &&& m ≤ m := Nat.and_le_right
  have h3 := Nat.mul_le_mul_right s h1
  omega

theorem halves_eq : ∀ n : Fin 256, half (half (half n.val 85 2) 51 4) 15 16 = rv n.val 8 := by decide +kernel

theorem halves_rv {x : Nat} (h : x < 256) : half (half (half x 85 2) 51 4) 15 16 = rv x 8 := halves_eq ⟨x, h⟩

end Bw

namespace Go.Proofs.Ytknchojfhpchiab
open Go.RowKit
set_option linter.unusedVariables false

set_option maxHeartbeats 1000000 in
theorem spec_ReverseByHalves_yes (x1 : Nat) (w : World) (hx : Hid (WordOk 8 x1)) :
    Calls Try.prog 15 #[.int .i64 x1] w fun e w' => e = .returned (.int .i64 ((Bw.rv x1 8 : Nat) : Int)) ∧ ∃ m, w' = w.drewN m := by
  have x1b : x1 < 256 := by have := hx.out.2.2; simp at this; omega
  have hv := Bw.halves_rv x1b
  have HV0 := Lib.hid hv
  have HA1 : Hid (∀ (y : Nat) (w : World), y < 256 → Calls Try.prog 43 #[.int .i64 y, .int .i64 85] w fun e w' => e = .returned (.int .i64 ((y &&& 85 : Nat) : Int)) ∧ w = w') := fun y w h => l1And_any y 85 w (by omega) (by omega)
  have HA2 : Hid (∀ (y : Nat) (w : World), y < 256 → Calls Try.prog 43 #[.int .i64 y, .int .i64 51] w fun e w' => e = .returned (.int .i64 ((y &&& 51 : Nat) : Int)) ∧ w = w') := fun y w h => l1And_any y 51 w (by omega) (by omega)
  have HA3 : Hid (∀ (y : Nat) (w : World), y < 256 → Calls Try.prog 43 #[.int .i64 y, .int .i64 15] w fun e w' => e = .returned (.int .i64 ((y &&& 15 : Nat) : Int)) ∧ w = w') := fun y w h => l1And_any y 15 w (by omega) (by omega)
  clear hv
  go_enter Try.func15, Try.ntmps15
  go_wp2_with (go_at_call 34; ((with_reducible refine (spec_WordValid_yes 8 x1 _ hx).mono ?_); rintro e w' ⟨rfl, rfl⟩))
  refine wp_loop_rounds 4 ?_
  rw [rounds_succ]
  obtain ⟨y1, hy1⟩ : ∃ y : Nat, x1 / 2 = y := ⟨_, rfl⟩
  have e1 : (x1 : Int) / 2 = (y1 : Int) := by omega
  have y1b : y1 < 256 := by omega
  have p1 : x1 &&& 85 ≤ 85 := Nat.and_le_right
  have q1 : y1 &&& 85 ≤ 85 := Nat.and_le_right
  have hz1 : Bw.half x1 85 2 = (x1 &&& 85) * 2 + (y1 &&& 85) := by unfold Bw.half; rw [hy1]
  obtain ⟨a1, ha1⟩ : ∃ a, x1 &&& 85 = a := ⟨_, rfl⟩
  obtain ⟨c1, hc1⟩ : ∃ c, y1 &&& 85 = c := ⟨_, rfl⟩
  rw [ha1] at p1 hz1
  rw [hc1] at q1 hz1
  have K1 := Lib.hid (fun w : World => ha1 ▸ HA1.out x1 w x1b)
  have L1 := Lib.hid (fun w : World => hc1 ▸ HA1.out y1 w y1b)
  obtain ⟨x2, hx2⟩ : ∃ x : Nat, a1 * 2 + c1 = x := ⟨_, rfl⟩
  rw [hx2] at hz1
  have HV1 := HV0.out
  rw [hz1] at HV1
  have HV1 := Lib.hid HV1
  have x2b : x2 < 256 := by omega
  have HX2 := Lib.hid hx2
  clear hy1 ha1 hc1 hz1 hx2
  go_wp2_with (go_at_call 42; ((with_reducible refine (l5Mask_two _).mono ?_); rintro e w' ⟨rfl, rfl⟩))
  go_quiet ((go_at_call 43; first | (with_reducible exact quiet_eq (K1.out _)) | (with_reducible exact quiet_eq (L1.out _))))
  obtain ⟨w1, hw1⟩ : ∃ v, w.drewN nq = v := ⟨_, rfl⟩
  rw [hw1]
  have W1 : Hid (∃ m, w1 = w.drewN m) := ⟨_, hw1.symm⟩
  clear hw1
  go_wp2_with fail
  rw [show ((a1 : Nat) : Int) * 2 + ((c1 : Nat) : Int) = ((x2 : Nat) : Int) from by have := HX2.out; omega]
  rw [rounds_succ]
  obtain ⟨y2, hy2⟩ : ∃ y : Nat, x2 / 4 = y := ⟨_, rfl⟩
  have e2 : (x2 : Int) / 4 = (y2 : Int) := by omega
  have y2b : y2 < 256 := by omega
  have p2 : x2 &&& 51 ≤ 51 := Nat.and_le_right
  have q2 : y2 &&& 51 ≤ 51 := Nat.and_le_right
  have hz2 : Bw.half x2 51 4 = (x2 &&& 51) * 4 + (y2 &&& 51) := by unfold Bw.half; rw [hy2]
  obtain ⟨a2, ha2⟩ : ∃ a, x2 &&& 51 = a := ⟨_, rfl⟩
  obtain ⟨c2, hc2⟩ : ∃ c, y2 &&& 51 = c := ⟨_, rfl⟩
  rw [ha2] at p2 hz2
  rw [hc2] at q2 hz2
  have K2 := Lib.hid (fun w : World => ha2 ▸ HA2.out x2 w x2b)
  have L2 := Lib.hid (fun w : World => hc2 ▸ HA2.out y2 w y2b)
  obtain ⟨x3, hx3⟩ : ∃ x : Nat, a2 * 4 + c2 = x := ⟨_, rfl⟩
  rw [hx3] at hz2
  have HV2 := HV1.out
  rw [hz2] at HV2
  have HV2 := Lib.hid HV2
  have x3b : x3 < 256 := by omega
  have HX3 := Lib.hid hx3
  clear hy2 ha2 hc2 hz2 hx3
  go_wp2_with (go_at_call 42; ((with_reducible refine (l5Mask_four _).mono ?_); rintro e w' ⟨rfl, rfl⟩))
  go_quiet ((go_at_call 43; first | (with_reducible exact quiet_eq (K2.out _)) | (with_reducible exact quiet_eq (L2.out _))))
  obtain ⟨w2, hw2⟩ : ∃ v, w1.drewN nq = v := ⟨_, rfl⟩
  rw [hw2]
  have W2 : Hid (∃ m, w2 = w.drewN m) := by obtain ⟨m, hm⟩ := W1.out; exact ⟨m + nq, by rw [← hw2, hm, World.drewN_drewN]⟩
  clear hw2
  go_wp2_with fail
  rw [show ((a2 : Nat) : Int) * 4 + ((c2 : Nat) : Int) = ((x3 : Nat) : Int) from by have := HX3.out; omega]
  rw [rounds_succ]
  obtain ⟨y3, hy3⟩ : ∃ y : Nat, x3 / 16 = y := ⟨_, rfl⟩
  have e3 : (x3 : Int) / 16 = (y3 : Int) := by omega
  have y3b : y3 < 256 := by omega
  have p3 : x3 &&& 15 ≤ 15 := Nat.and_le_right
  have q3 : y3 &&& 15 ≤ 15 := Nat.and_le_right
  have hz3 : Bw.half x3 15 16 = (x3 &&& 15) * 16 + (y3 &&& 15) := by unfold Bw.half; rw [hy3]
  obtain ⟨a3, ha3⟩ : ∃ a, x3 &&& 15 = a := ⟨_, rfl⟩
  obtain ⟨c3, hc3⟩ : ∃ c, y3 &&& 15 = c := ⟨_, rfl⟩
  rw [ha3] at p3 hz3
  rw [hc3] at q3 hz3
  have K3 := Lib.hid (fun w : World => ha3 ▸ HA3.out x3 w x3b)
  have L3 := Lib.hid (fun w : World => hc3 ▸ HA3.out y3 w y3b)
  obtain ⟨x4, hx4⟩ : ∃ x : Nat, a3 * 16 + c3 = x := ⟨_, rfl⟩
  rw [hx4] at hz3
  have HV3 := HV2.out
  rw [hz3] at HV3
  have HV3 := Lib.hid HV3
  have x4b : x4 < 256 := by omega
  have HX4 := Lib.hid hx4
  clear hy3 ha3 hc3 hz3 hx4
  go_wp2_with (go_at_call 42; ((with_reducible refine (l5Mask_eight _).mono ?_); rintro e w' ⟨rfl, rfl⟩))
  go_quiet ((go_at_call 43; first | (with_reducible exact quiet_eq (K3.out _)) | (with_reducible exact quiet_eq (L3.out _))))
  obtain ⟨w3, hw3⟩ : ∃ v, w2.drewN nq = v := ⟨_, rfl⟩
  rw [hw3]
  have W3 : Hid (∃ m, w3 = w.drewN m) := by obtain ⟨m, hm⟩ := W2.out; exact ⟨m + nq, by rw [← hw3, hm, World.drewN_drewN]⟩
  clear hw3
  go_wp2_with fail
  rw [show ((a3 : Nat) : Int) * 16 + ((c3 : Nat) : Int) = ((x4 : Nat) : Int) from by have := HX4.out; omega]
  rw [rounds_succ]
  go_wp2_with fail
  go_ret
  exact ⟨ret_int (by rw [← HV3.out]), W3.out⟩

theorem spec_ReverseByHalves_no (x : Int) (w : World) (hx : Hid (¬ WordOk 8 x)) :
    Calls Try.prog 15 #[.int .i64 x] w fun e w' => e = .returned (.int .i64 (-1)) ∧ w = w' := by
  go_enter Try.func15, Try.ntmps15
  go_wp2_with (go_at_call 34; ((with_reducible refine (spec_WordValid_no 8 x _ hx).mono ?_); rintro e w' ⟨rfl, rfl⟩))
  go_ret
  exact ⟨rfl, rfl⟩

theorem impl_ReverseByHalves_yes (x : Nat) (w : World) (hx : Hid (WordOk 8 x)) :
    Calls Try.prog 14 #[.int .i64 x] w fun e w' => e = .returned (.int .i64 ((Bw.rv x 8 : Nat) : Int)) ∧ Below w.heap.size w w' := by
  have HR : Hid (∀ w : World, Calls Try.prog 16 #[.int .i64 8, .int .i64 x] w fun e w' => e = .returned (.int .i64 ((Bw.rv x 8 : Nat) : Int)) ∧ Below w.heap.size w w') := fun w => impl_Reverse_yes 8 x w hx
  go_enter Try.func14, Try.ntmps14
  go_wp2_with (go_at_call 16; ((with_reducible refine (HR.out _).mono ?_); rintro e w' ⟨rfl, hbel⟩))
  go_ret
  exact ⟨rfl, hbel⟩

theorem impl_ReverseByHalves_no (x : Int) (w : World) (hx : Hid (¬ WordOk 8 x)) :
    Calls Try.prog 14 #[.int .i64 x] w fun e w' => e = .returned (.int .i64 (-1)) ∧ Below w.heap.size w w' := by
  go_enter Try.func14, Try.ntmps14
  go_wp2_with (go_at_call 16; ((with_reducible refine (impl_Reverse_no 8 x _ hx).mono ?_); rintro e w' ⟨rfl, hbel⟩))
  go_ret
  exact ⟨rfl, hbel⟩

end Go.Proofs.Ytknchojfhpchiab
