/- Contracts: Gather and Scatter, of the program and of the reference. -/
import Derived.Test.YtbknmokoegembacDoorGatB

namespace Bw
open Go Go.RowKit

theorem gth_addi (x m : Nat) {k : Nat} (hk : k < 12) (h : m.testBit k = true) : wrap64 ((gth x m k : Int) + wrap64 (bt x k * 2 ^ pc m k)) = (gth x m (k + 1) : Int) := by
  have h1 := gth_lt2 x m k
  have h2 : 2 ^ k ≤ 2 ^ 12 := Nat.pow_le_pow_right (by omega) (by omega)
  have h3 := pc_le m k
  have h4 := bit_mul_le x k (2 ^ pc m k)
  have h5 : 2 ^ pc m k ≤ 2 ^ 12 := Nat.pow_le_pow_right (by omega) (by omega)
  rw [bt_pow_cast _ _ _ (by omega), gth_succ, if_pos h, w64 (by omega)]
  omega

theorem sct_addi (x m : Nat) {k : Nat} (hk : k < 12) (h : m.testBit k = true) : wrap64 ((sct x m k : Int) + wrap64 (bt x (pc m k) * 2 ^ k)) = (sct x m (k + 1) : Int) := by
  have h1 := sct_lt x m k
  have h2 : 2 ^ k ≤ 2 ^ 12 := Nat.pow_le_pow_right (by omega) (by omega)
  have h4 := bit_mul_le x (pc m k) (2 ^ k)
  rw [bt_pow_cast _ _ _ (by omega), sct_succ, if_pos h, w64 (by omega)]
  omega

theorem gth_no (x m : Nat) {k : Nat} (h : m.testBit k = false) : gth x m (k + 1) = gth x m k := by rw [gth_succ, if_neg (by rw [h]; simp)]

theorem sct_no (x m : Nat) {k : Nat} (h : m.testBit k = false) : sct x m (k + 1) = sct x m k := by rw [sct_succ, if_neg (by rw [h]; simp)]

theorem pc_yes {m k : Nat} (h : m.testBit k = true) : pc m (k + 1) = pc m k + 1 := by rw [pc_succ, h]; rfl

theorem pc_no {m k : Nat} (h : m.testBit k = false) : pc m (k + 1) = pc m k := by rw [pc_succ, h]; rfl

theorem bt_of (m k : Nat) : (bt m k = 1 ∧ m.testBit k = true) ∨ (bt m k = 0 ∧ m.testBit k = false) := by
  rcases bt_cases m k with h | h
  · refine .inr ⟨h, ?_⟩
    cases hb : m.testBit k
    · rfl
    · rw [(bt_test m k).2 hb] at h; cases h
  · exact .inl ⟨h, (bt_test m k).1 h⟩

end Bw

namespace Go.Proofs.YtbknmokoegembacDoor
open Go.RowKit
set_option linter.unusedVariables false

theorem gword_lt {n x : Nat} (h : WordOk (n : Int) (x : Int)) : x < 2 ^ n := by
  have := h.2.2; rw [Int.toNat_natCast] at this; exact Int.ofNat_lt.1 this

theorem gword_ok {n x : Nat} (h0 : 1 ≤ n) (h1 : n ≤ 12) (hx : x < 2 ^ n) : WordOk (n : Int) (x : Int) :=
  ⟨⟨by omega, by omega⟩, Int.natCast_nonneg _, by rw [Int.toNat_natCast]; exact Int.ofNat_lt.2 hx⟩

theorem cut_same (n x : Nat) (w : World) (h : n ≤ 40) (hx : x < 2 ^ n) :
    Calls Tryd.prog 62 #[.int .i64 n, .int .i64 x] w fun e w' => e = .returned (.int .i64 x) ∧ w = w' := by
  have := cut_any n (x : Int) w h
  rwa [Int.emod_eq_of_lt (Int.natCast_nonneg _) (Int.ofNat_lt.2 hx)] at this

set_option maxHeartbeats 400000 in
theorem spec_Scatter_same (n x m : Nat) (w : World) (hx : Hid (WordOk n x)) (hm : Hid (WordOk n m)) :
    Calls Tryd.prog 36 #[.int .i64 n, .int .i64 x, .int .i64 m] w fun e w' => e = .returned (.int .i64 ((Bw.sct x m n : Nat) : Int)) ∧ w = w' := by
  have hw := hx.out.1
  have x1 := word_bd hx.out
  have m1 := word_bd hm.out
  have hn : n ≤ 12 := by omega
  go_enter Tryd.func36, Tryd.ntmps36
  go_wp2_with (go_at_call 34; ((with_reducible refine (l1Both_yes n x m _ hx hm).mono ?_); rintro e w' ⟨rfl, rfl⟩))
  go_loop [7, 8, 9] (fun t p i => ∃ k : Nat, k ≤ n ∧ i = .int .i64 k ∧ p = .int .i64 ((Bw.pc m k : Nat) : Int) ∧ t = .int .i64 ((Bw.sct x m k : Nat) : Int)) (fun _ _ i => n - (intOf i).toNat)
  case atStart => exact ⟨0, by omega, rfl, rfl, rfl⟩
  case round =>
    obtain ⟨k, hk, rfl, rfl, rfl⟩ := hrel
    by_cases hl : k < n
    · have hpk := Bw.pc_le m k
      rcases Bw.bt_of m k with ⟨h1, h2⟩ | ⟨h1, h2⟩
      · have HM := Lib.hid (Bw.sct_addi x m (show k < 12 by omega) h2)
        have HP := Lib.hid (Bw.pc_yes h2)
        have HLm := Lib.hid (fun w : World => h1 ▸ ml1Bit_any m k w (by omega) (by omega))
        obtain ⟨p, hp⟩ : ∃ p, Bw.pc m k = p := ⟨_, rfl⟩
        rw [hp] at HM HP hpk ⊢
        have HL := Lib.hid (fun w : World => ml1Bit_any x p w (by omega) (by omega))
        clear h1 h2 hp
        go_wp2_with (first | (go_at_call 53; ((with_reducible refine (HLm.out _).mono ?_); rintro e w' ⟨rfl, rfl⟩)) | (go_at_call 53; ((with_reducible refine (HL.out _).mono ?_); rintro e w' ⟨rfl, rfl⟩)))
        go_round
        case rel => exact ⟨k + 1, by omega, by go_num, by rw [HP.out]; go_num, by first | rw [HM.out] | (rw [← HM.out]; rfl)⟩
        case measure => simp [intOf]; omega
      · have HM := Lib.hid (Bw.sct_no x m h2)
        have HP := Lib.hid (Bw.pc_no h2)
        have HLm := Lib.hid (fun w : World => h1 ▸ ml1Bit_any m k w (by omega) (by omega))
        clear h1 h2
        go_wp2_with (go_at_call 53; ((with_reducible refine (HLm.out _).mono ?_); rintro e w' ⟨rfl, rfl⟩))
        go_round
        case rel => exact ⟨k + 1, by omega, by go_num, by rw [HP.out], by rw [HM.out]⟩
        case measure => simp [intOf]; omega
    · obtain rfl : k = n := by omega
      go_wp2_with fail
      go_ret
      exact ⟨rfl, rfl⟩

theorem spec_Scatter_yes (n x m : Nat) (w : World) (hx : Hid (WordOk n x)) (hm : Hid (WordOk n m)) :
    Calls Tryd.prog 36 #[.int .i64 n, .int .i64 x, .int .i64 m] w fun e w' => e = .returned (.int .i64 ((Bw.sct x m n : Nat) : Int)) ∧ Below w.heap.size w w' :=
  (spec_Scatter_same n x m w hx hm).mono fun _ _ ⟨h1, h2⟩ => ⟨h1, h2 ▸ Below.refl _ _⟩

theorem spec_Scatter_no (n a b : Int) (w : World) (h : Hid (¬ WordOk n a ∨ (WordOk n a ∧ ¬ WordOk n b))) :
    Calls Tryd.prog 36 #[.int .i64 n, .int .i64 a, .int .i64 b] w fun e w' => e = .returned (.int .i64 (-1)) ∧ Below w.heap.size w w' := by
  go_enter Tryd.func36, Tryd.ntmps36
  go_wp2_with (go_at_call 34; ((with_reducible refine (l1Both_no n a b _ h).mono ?_); rintro e w' ⟨rfl, rfl⟩))
  go_ret
  exact ⟨rfl, Below.refl _ _⟩

end Go.Proofs.YtbknmokoegembacDoor
