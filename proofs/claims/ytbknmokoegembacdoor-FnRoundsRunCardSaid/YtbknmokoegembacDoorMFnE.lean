/- Contracts: counted bits, sorted bits. -/
import Derived.Test.YtbknmokoegembacDoorMLawsA
import Derived.Test.YtbknmokoegembacDoorSortPlain
import Derived.Deep.QuietTactic
import Derived.BigQuiet

namespace Bw
open Go

theorem wrap_u64_small (n : Nat) (h : n < 4611686018427387904) : IntKind.u64.wrap (n : Int) = (n : Int) := by
  simp [IntKind.wrap, IntKind.bits, IntKind.signed]
  omega

theorem u64_and (a b : Nat) (ha : a < 4611686018427387904) (hb : b < 9223372036854775808) : bits .and .u64 (a : Int) (b : Int) = ((a &&& b : Nat) : Int) := by
  show IntKind.u64.wrap ((BitVec.ofInt 64 (a : Int) &&& BitVec.ofInt 64 (b : Int)).toNat : Nat) = _
  rw [BitVec.toNat_and, ofInt_u64 a (by omega), ofInt_u64 b (by omega)]
  exact wrap_u64_small _ (Nat.lt_of_le_of_lt Nat.and_le_left ha)

theorem u64_sum (a b : Nat) (h : a + b < 4611686018427387904) : IntKind.u64.wrap ((a : Int) + (b : Int)) = ((a + b : Nat) : Int) := by
  rw [← wrap_u64_small (a + b) h, Int.natCast_add]

def ones1 (x : Nat) : Nat := Nat.land (x / 2) 6148914691236517205 + Nat.land x 6148914691236517205

def ones2 (x : Nat) : Nat := Nat.land (x / 4) 3689348814741910323 + Nat.land x 3689348814741910323

def ones3 (x : Nat) : Nat := Nat.land (x / 16 + x) 1085102592571150095

def ones4 (x q : Nat) : Nat := x + x / q

def ones (x : Nat) : Nat := Nat.land (ones4 (ones4 (ones4 (ones3 (ones2 (ones1 x))) 256) 65536) 4294967296) 127

theorem ones_chk : (List.range 64).all (fun a => (List.range 64).all fun b => Nat.beq (ones (64 * a + b)) (pc (64 * a + b) 12)) = true := by decide +kernel

theorem ones_eq {x : Nat} (hx : x < 4096) : ones x = pc x 12 := by
  have h2 := List.all_eq_true.1 ones_chk (x / 64) (List.mem_range.2 (by omega))
  have h3 := List.all_eq_true.1 h2 (x % 64) (List.mem_range.2 (by omega))
  have e : 64 * (x / 64) + x % 64 = x := by omega
  rw [e] at h3
  exact Nat.eq_of_beq_eq_true h3

/-- what the steps of the count come to -/
theorem ones_steps {x : Nat} (hx : x < 4096) : ∃ a1 p1 q1 x1 a2 p2 q2 x2 a3 s3 x3 a4 x4 a5 x5 a6 x6 : Nat,
    ((x : Int) / 2 = a1 ∧ bits .and .u64 (a1 : Int) 6148914691236517205 = p1 ∧ bits .and .u64 (x : Int) 6148914691236517205 = q1 ∧ IntKind.u64.wrap ((p1 : Int) + q1) = x1) ∧
    ((x1 : Int) / 4 = a2 ∧ bits .and .u64 (a2 : Int) 3689348814741910323 = p2 ∧ bits .and .u64 (x1 : Int) 3689348814741910323 = q2 ∧ IntKind.u64.wrap ((p2 : Int) + q2) = x2) ∧
    ((x2 : Int) / 16 = a3 ∧ IntKind.u64.wrap ((a3 : Int) + x2) = s3 ∧ bits .and .u64 (s3 : Int) 1085102592571150095 = x3) ∧
    ((x3 : Int) / 256 = a4 ∧ IntKind.u64.wrap ((x3 : Int) + a4) = x4) ∧ ((x4 : Int) / 65536 = a5 ∧ IntKind.u64.wrap ((x4 : Int) + a5) = x5) ∧ ((x5 : Int) / 4294967296 = a6 ∧ IntKind.u64.wrap ((x5 : Int) + a6) = x6) ∧
    x6 < 100000 ∧ bits .and .i64 (x6 : Int) 127 = ((pc x 12 : Nat) : Int) := by
  have l1 : x / 2 &&& 6148914691236517205 ≤ x / 2 := Nat.and_le_left
  have l2 : x &&& 6148914691236517205 ≤ x := Nat.and_le_left
  obtain ⟨p1, hp1⟩ : ∃ p, x / 2 &&& 6148914691236517205 = p := ⟨_, rfl⟩
  obtain ⟨q1, hq1⟩ : ∃ q, x &&& 6148914691236517205 = q := ⟨_, rfl⟩
  have l3 : (p1 + q1) / 4 &&& 3689348814741910323 ≤ (p1 + q1) / 4 := Nat.and_le_left
  have l4 : (p1 + q1) &&& 3689348814741910323 ≤ p1 + q1 := Nat.and_le_left
  obtain ⟨p2, hp2⟩ : ∃ p, (p1 + q1) / 4 &&& 3689348814741910323 = p := ⟨_, rfl⟩
  obtain ⟨q2, hq2⟩ : ∃ q, (p1 + q1) &&& 3689348814741910323 = q := ⟨_, rfl⟩
  have l5 : ((p2 + q2) / 16 + (p2 + q2)) &&& 1085102592571150095 ≤ (p2 + q2) / 16 + (p2 + q2) := Nat.and_le_left
  obtain ⟨x3, hx3⟩ : ∃ p, ((p2 + q2) / 16 + (p2 + q2)) &&& 1085102592571150095 = p := ⟨_, rfl⟩
  rw [hp1] at l1
  rw [hq1] at l2
  rw [hp2] at l3
  rw [hq2] at l4
  rw [hx3] at l5
  have ho := ones_eq hx
  have e1 : ones1 x = p1 + q1 := by rw [← hp1, ← hq1]; rfl
  have e2 : ones2 (p1 + q1) = p2 + q2 := by rw [← hp2, ← hq2]; rfl
  have e3 : ones3 (p2 + q2) = x3 := by rw [← hx3]; rfl
  have e4 : ones x = (x3 + x3 / 256 + (x3 + x3 / 256) / 65536 + (x3 + x3 / 256 + (x3 + x3 / 256) / 65536) / 4294967296) &&& 127 := by
    unfold ones; rw [e1, e2, e3]; rfl
  have a1 := u64_and (x / 2) 6148914691236517205 (by omega) (by omega)
  have a2 := u64_and x 6148914691236517205 (by omega) (by omega)
  have a3 := u64_and ((p1 + q1) / 4) 3689348814741910323 (by omega) (by omega)
  have a4 := u64_and (p1 + q1) 3689348814741910323 (by omega) (by omega)
  have a5 := u64_and ((p2 + q2) / 16 + (p2 + q2)) 1085102592571150095 (by omega) (by omega)
  have a6 := i64_and (x3 + x3 / 256 + (x3 + x3 / 256) / 65536 + (x3 + x3 / 256 + (x3 + x3 / 256) / 65536) / 4294967296) 127 (by omega) (by omega)
  rw [hp1] at a1
  rw [hq1] at a2
  rw [hp2] at a3
  rw [hq2] at a4
  rw [hx3] at a5
  rw [← e4, ho] at a6
  exact ⟨x / 2, p1, q1, p1 + q1, (p1 + q1) / 4, p2, q2, p2 + q2, (p2 + q2) / 16, (p2 + q2) / 16 + (p2 + q2), x3, x3 / 256, x3 + x3 / 256, (x3 + x3 / 256) / 65536, x3 + x3 / 256 + (x3 + x3 / 256) / 65536,
    (x3 + x3 / 256 + (x3 + x3 / 256) / 65536) / 4294967296, _, ⟨by simp, a1, a2, u64_sum _ _ (by omega)⟩, ⟨by simp, a3, a4, u64_sum _ _ (by omega)⟩, ⟨by simp, u64_sum _ _ (by omega), a5⟩, ⟨by simp, u64_sum _ _ (by omega)⟩, ⟨by simp, u64_sum _ _ (by omega)⟩, ⟨by simp, u64_sum _ _ (by omega)⟩, by omega, a6⟩

end Bw

namespace Go.Proofs.YtbknmokoegembacDoor
open Go.RowKit
set_option linter.unusedVariables false

set_option maxHeartbeats 400000 in
theorem OnesCount64_any (x : Nat) (w : World) (h : x < 4096) :
    Calls Tryd.prog 65 #[.int .u64 x] w fun e w' => e = .returned (.int .i64 ((Bw.pc x 12 : Nat) : Int)) ∧ w = w' := by
  obtain ⟨a1, p1, q1, x1, a2, p2, q2, x2, a3, s3, x3, a4, x4, a5, x5, a6, x6, ⟨r1, r2, r3, r4⟩, ⟨r5, r6, r7, r8⟩, ⟨r9, r10, r11⟩, ⟨r12, r13⟩, ⟨r14, r15⟩, ⟨r16, r17⟩, hb, hf⟩ := Bw.ones_steps h
  have HF := Lib.hid hf
  clear hf h
  go_enter Tryd.func65, Tryd.ntmps65
  go_wp2
  go_ret
  exact ⟨ret_int HF.out, rfl⟩

theorem OnesCount_any (x : Nat) (w : World) (h : x < 4096) :
    Calls Tryd.prog 33 #[.int .u64 x] w fun e w' => e = .returned (.int .i64 ((Bw.pc x 12 : Nat) : Int)) ∧ w = w' := by
  have hc := Bw.wrap_u64_small x (by omega)
  go_enter Tryd.func33, Tryd.ntmps33
  go_wp2_with (go_at_call 65; ((with_reducible refine (OnesCount64_any x _ h).mono ?_); rintro e w' ⟨rfl, rfl⟩))
  go_ret
  exact ⟨rfl, rfl⟩

end Go.Proofs.YtbknmokoegembacDoor
