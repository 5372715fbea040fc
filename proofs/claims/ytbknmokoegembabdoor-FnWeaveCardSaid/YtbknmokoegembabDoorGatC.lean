/- Contracts: Gather and Scatter, of the program and of the reference. -/
import Derived.Test.YtbknmokoegembabDoorGatB

namespace Bw
open Go Go.RowKit

theorem gth_addi (x m : Nat) {k : Nat} (hk : k < 12) (h : m.testBit k = true) : wrap64 ((gth x m k : Int) + wrap64 (bt x k * 2 ^ pc m k)) = (gth x m (k + 1) : Int) := by
  have h1 := gth_lt2 x m k
  have h2 : 2 ^ k ≤ 2 ^ 12 := Nat.pow_le_pow_right (by omega) (by omega)
  have h3 := pc_le m k
  have h4 := bit_mul_le x k (2 ^ pc m k)
  have h5 : 2 ^ pc m k ≤ 2 ^ 12 := Nat.pow_le_pow_right (by omega) (by omega)
  rw [bt_pow_cast _ _ _ (by omega), gth_succ, if_pos h, w64 (by omega)]
  omega

theorem sct_addi (x m : Nat) {k : Nat} (hk : k < 12) (h : m.testBit k = true) : wrap64 ((sct x m k : Int) + wrap64 (bt x (pc m k) * 2 ^ k)) = (sct x m (k + 1) : Int) := by
  have h1 := sct_lt x m k
  have h2 : 2 ^ k ≤ 2 ^ 12 := Nat.pow_le_pow_right (by omega) (by omega)
  have h4 := bit_mul_le x (pc m k) (2 ^ k)
  rw [bt_pow_cast _ _ _ (by omega), sct_succ, if_pos h, w64 (by omega)]
  omega

theorem gth_no (x m : Nat) {k : Nat} (h : m.testBit k = false) : gth x m (k + 1) = gth x m k := by rw [gth_succ, if_neg (by rw [h]; simp)]

theorem sct_no (x m : Nat) {k : Nat} (h : m.testBit k = false) : sct x m (k + 1) = sct x m k := by rw [sct_succ, if_neg (by rw [h]; simp)]

theorem pc_yes {m k : Nat} (h : m.testBit k = true) : pc m (k + 1) = pc m k + 1 := by rw [pc_succ, h]; rfl

theorem pc_no {m k : Nat} (h : m.testBit k = false) : pc m (k + 1) = pc m k := by rw [pc_succ, h]; rfl

theorem bt_of (m k : Nat) : (bt m k = 1 ∧ m.testBit k = true) ∨ (bt m k = 0 ∧ m.testBit k = false) := by
  rcases bt_cases m k with h | h
  · refine .inr ⟨h, ?_⟩
    cases hb : m.testBit k
    · rfl
    · rw [(bt_test m k).2 hb] at h; cases h
  · exact .inl ⟨h, (bt_test m k).1 h⟩

end Bw

namespace Go.Proofs.YtbknmokoegembabDoor
open Go.RowKit
set_option linter.unusedVariables false

theorem gword_lt {n x : Nat} (h : WordOk (n : Int) (x : Int)) : x < 2 ^ n := by
  have := h.2.2; rw [Int.toNat_natCast] at this; exact Int.ofNat_lt.1 this

theorem gword_ok {n x : Nat} (h0 : 1 ≤ n) (h1 : n ≤ 12) (hx : x < 2 ^ n) : WordOk (n : Int) (x : Int) :=
  ⟨⟨by omega, by omega⟩, Int.natCast_nonneg _, by rw [Int.toNat_natCast]; exact Int.ofNat_lt.2 hx⟩

theorem cut_same (n x : Nat) (w : World) (h : n ≤ 40) (hx : x < 2 ^ n) :
    Calls Tryd.prog 59 #[.int .i64 n, .int .i64 x] w fun e w' => e = .returned (.int .i64 x) ∧ w = w' := by
  have := cut_any n (x : Int) w h
  rwa [Int.emod_eq_of_lt (Int.natCast_nonneg _) (Int.ofNat_lt.2 hx)] at this

set_option maxHeartbeats 400000 in
theorem impl_Gather_yes (n x m : Nat) (w : World) (hx : Hid (WordOk n x)) (hm : Hid (WordOk n m)) (hT : Hid (TabLies w)) :
    Calls Tryd.prog 23 #[.int .i64 n, .int .i64 x, .int .i64 m] w fun e w' => e = .returned (.int .i64 ((Bw.gth x m n : Nat) : Int)) ∧ Below w.heap.size w w' := by
  have hw := hx.out.1
  have x1 := word_bd hx.out
  have m1 := word_bd hm.out
  have hn : n ≤ 12 := by omega
  have e12 := Bw.gth_twelve (gword_lt hm.out) hn x
  have HG := Lib.hid (fun (w : World) (h : Hid (TabLies w)) => e12 ▸ gather_any x m w (by omega) (by omega) h)
  have HK := Lib.hid (fun (w : World) => cut_same n (Bw.gth x m n) w (by omega) (Bw.gth_lt2 x m n))
  obtain ⟨y, hy⟩ : ∃ y, Bw.gth x m n = y := ⟨_, rfl⟩
  rw [hy] at HG HK ⊢
  clear hy e12 hn
  have HB0 : Below w.heap.size w (w.alloc (.cells #[.int .i64 (x : Int), .int .i64 (m : Int)] 3)) := (Below.refl _ _).alloc (Nat.le_refl _) _
  have HT1 := Lib.hid (hT.out.below HB0)
  have HB0 := Lib.hid HB0
  go_enter Tryd.func23, Tryd.ntmps23
  go_wp2_with (first | (go_at_call 43; ((with_reducible refine (allValid_yes n x m _ _ hw (two_cells w _ _ _).1 (two_cells w _ _ _).2 hx hm).mono ?_); rintro e w' ⟨rfl, rfl⟩)) | (go_at_call 47; ((with_reducible refine (HG.out _ HT1).mono ?_); rintro e w2 ⟨rfl, hb⟩)) | (go_at_call 59; ((with_reducible refine (HK.out _).mono ?_); rintro e w' ⟨rfl, rfl⟩)) | go_in)
  go_ret
  exact ⟨rfl, HB0.out.trans (hb.mono HB0.out.size)⟩

set_option maxHeartbeats 400000 in
theorem impl_Scatter_yes (n x m : Nat) (w : World) (hx : Hid (WordOk n x)) (hm : Hid (WordOk n m)) (hT : Hid (TabLies w)) :
    Calls Tryd.prog 25 #[.int .i64 n, .int .i64 x, .int .i64 m] w fun e w' => e = .returned (.int .i64 ((Bw.sct x m n : Nat) : Int)) ∧ Below w.heap.size w w' := by
  have hw := hx.out.1
  have x1 := word_bd hx.out
  have m1 := word_bd hm.out
  have hn : n ≤ 12 := by omega
  have e12 := Bw.sct_twelve (gword_lt hm.out) hn x
  have HG := Lib.hid (fun (w : World) (h : Hid (TabLies w)) => e12 ▸ scatter_any x m w (by omega) (by omega) h)
  have HK := Lib.hid (fun (w : World) => cut_same n (Bw.sct x m n) w (by omega) (Bw.sct_lt x m n))
  obtain ⟨y, hy⟩ : ∃ y, Bw.sct x m n = y := ⟨_, rfl⟩
  rw [hy] at HG HK ⊢
  clear hy e12 hn
  have HB0 : Below w.heap.size w (w.alloc (.cells #[.int .i64 (x : Int), .int .i64 (m : Int)] 3)) := (Below.refl _ _).alloc (Nat.le_refl _) _
  have HT1 := Lib.hid (hT.out.below HB0)
  have HB0 := Lib.hid HB0
  go_enter Tryd.func25, Tryd.ntmps25
  go_wp2_with (first | (go_at_call 43; ((with_reducible refine (allValid_yes n x m _ _ hw (two_cells w _ _ _).1 (two_cells w _ _ _).2 hx hm).mono ?_); rintro e w' ⟨rfl, rfl⟩)) | (go_at_call 38; ((with_reducible refine (HG.out _ HT1).mono ?_); rintro e w2 ⟨rfl, hb⟩)) | (go_at_call 59; ((with_reducible refine (HK.out _).mono ?_); rintro e w' ⟨rfl, rfl⟩)) | go_in)
  go_ret
  exact ⟨rfl, HB0.out.trans (hb.mono HB0.out.size)⟩

theorem impl_Gather_no (n a b : Int) (w : World) (h : Hid (¬ WordOk n a ∨ (WordOk n a ∧ ¬ WordOk n b))) :
    Calls Tryd.prog 23 #[.int .i64 n, .int .i64 a, .int .i64 b] w fun e w' => e = .returned (.int .i64 (-1)) ∧ Below w.heap.size w w' := by
  go_enter Tryd.func23, Tryd.ntmps23
  go_wp2_with (first | (go_at_call 43; ((with_reducible refine (allValid_no n a b _ _ (two_cells w _ _ _).1 (two_cells w _ _ _).2 h).mono ?_); rintro e w' ⟨rfl, rfl⟩)) | go_in)
  go_ret
  exact ⟨rfl, (Below.refl _ _).alloc (Nat.le_refl _) _⟩

theorem impl_Scatter_no (n a b : Int) (w : World) (h : Hid (¬ WordOk n a ∨ (WordOk n a ∧ ¬ WordOk n b))) :
    Calls Tryd.prog 25 #[.int .i64 n, .int .i64 a, .int .i64 b] w fun e w' => e = .returned (.int .i64 (-1)) ∧ Below w.heap.size w w' := by
  go_enter Tryd.func25, Tryd.ntmps25
  go_wp2_with (first | (go_at_call 43; ((with_reducible refine (allValid_no n a b _ _ (two_cells w _ _ _).1 (two_cells w _ _ _).2 h).mono ?_); rintro e w' ⟨rfl, rfl⟩)) | go_in)
  go_ret
  exact ⟨rfl, (Below.refl _ _).alloc (Nat.le_refl _) _⟩

set_option maxHeartbeats 400000 in
theorem spec_Gather_same (n x m : Nat) (w : World) (hx : Hid (WordOk n x)) (hm : Hid (WordOk n m)) :
    Calls Tryd.prog 24 #[.int .i64 n, .int .i64 x, .int .i64 m] w fun e w' => e = .returned (.int .i64 ((Bw.gth x m n : Nat) : Int)) ∧ w = w' := by
  have hw := hx.out.1
  have x1 := word_bd hx.out
  have m1 := word_bd hm.out
  have hn : n ≤ 12 := by omega
  go_enter Tryd.func24, Tryd.ntmps24
  go_wp2_with (go_at_call 32; ((with_reducible refine (l1Both_yes n x m _ hx hm).mono ?_); rintro e w' ⟨rfl, rfl⟩))
  go_loop [7, 8, 9] (fun t p i => ∃ k : Nat, k ≤ n ∧ i = .int .i64 k ∧ p = .int .i64 ((Bw.pc m k : Nat) : Int) ∧ t = .int .i64 ((Bw.gth x m k : Nat) : Int)) (fun _ _ i => n - (intOf i).toNat)
  case atStart => exact ⟨0, by omega, rfl, rfl, rfl⟩
  case round =>
    obtain ⟨k, hk, rfl, rfl, rfl⟩ := hrel
    by_cases hl : k < n
    · have hpk := Bw.pc_le m k
      rcases Bw.bt_of m k with ⟨h1, h2⟩ | ⟨h1, h2⟩
      · have HM := Lib.hid (Bw.gth_addi x m (show k < 12 by omega) h2)
        have HP := Lib.hid (Bw.pc_yes h2)
        have HL := Lib.hid (fun w : World => ml1Bit_any x k w (by omega) (by omega))
        have HLm := Lib.hid (fun w : World => h1 ▸ ml1Bit_any m k w (by omega) (by omega))
        obtain ⟨p, hp⟩ : ∃ p, Bw.pc m k = p := ⟨_, rfl⟩
        rw [hp] at HM HP hpk ⊢
        clear h1 h2 hp
        go_wp2_with (first | (go_at_call 44; ((with_reducible refine (HLm.out _).mono ?_); rintro e w' ⟨rfl, rfl⟩)) | (go_at_call 44; ((with_reducible refine (HL.out _).mono ?_); rintro e w' ⟨rfl, rfl⟩)))
        go_round
        case rel => exact ⟨k + 1, by omega, by go_num, by rw [HP.out]; go_num, by first | rw [HM.out] | (rw [← HM.out]; rfl)⟩
        case measure => simp [intOf]; omega
      · have HM := Lib.hid (Bw.gth_no x m h2)
        have HP := Lib.hid (Bw.pc_no h2)
        have HLm := Lib.hid (fun w : World => h1 ▸ ml1Bit_any m k w (by omega) (by omega))
        clear h1 h2
        go_wp2_with (go_at_call 44; ((with_reducible refine (HLm.out _).mono ?_); rintro e w' ⟨rfl, rfl⟩))
        go_round
        case rel => exact ⟨k + 1, by omega, by go_num, by rw [HP.out], by rw [HM.out]⟩
        case measure => simp [intOf]; omega
    · obtain rfl : k = n := by omega
      go_wp2_with fail
      go_ret
      exact ⟨rfl, rfl⟩

theorem spec_Gather_yes (n x m : Nat) (w : World) (hx : Hid (WordOk n x)) (hm : Hid (WordOk n m)) :
    Calls Tryd.prog 24 #[.int .i64 n, .int .i64 x, .int .i64 m] w fun e w' => e = .returned (.int .i64 ((Bw.gth x m n : Nat) : Int)) ∧ Below w.heap.size w w' :=
  (spec_Gather_same n x m w hx hm).mono fun _ _ ⟨h1, h2⟩ => ⟨h1, h2 ▸ Below.refl _ _⟩

set_option maxHeartbeats 400000 in
theorem spec_Scatter_same (n x m : Nat) (w : World) (hx : Hid (WordOk n x)) (hm : Hid (WordOk n m)) :
    Calls Tryd.prog 29 #[.int .i64 n, .int .i64 x, .int .i64 m] w fun e w' => e = .returned (.int .i64 ((Bw.sct x m n : Nat) : Int)) ∧ w = w' := by
  have hw := hx.out.1
  have x1 := word_bd hx.out
  have m1 := word_bd hm.out
  have hn : n ≤ 12 := by omega
  go_enter Tryd.func29, Tryd.ntmps29
  go_wp2_with (go_at_call 32; ((with_reducible refine (l1Both_yes n x m _ hx hm).mono ?_); rintro e w' ⟨rfl, rfl⟩))
  go_loop [7, 8, 9] (fun t p i => ∃ k : Nat, k ≤ n ∧ i = .int .i64 k ∧ p = .int .i64 ((Bw.pc m k : Nat) : Int) ∧ t = .int .i64 ((Bw.sct x m k : Nat) : Int)) (fun _ _ i => n - (intOf i).toNat)
  case atStart => exact ⟨0, by omega, rfl, rfl, rfl⟩
  case round =>
    obtain ⟨k, hk, rfl, rfl, rfl⟩ := hrel
    by_cases hl : k < n
    · have hpk := Bw.pc_le m k
      rcases Bw.bt_of m k with ⟨h1, h2⟩ | ⟨h1, h2⟩
      · have HM := Lib.hid (Bw.sct_addi x m (show k < 12 by omega) h2)
        have HP := Lib.hid (Bw.pc_yes h2)
        have HLm := Lib.hid (fun w : World => h1 ▸ ml1Bit_any m k w (by omega) (by omega))
        obtain ⟨p, hp⟩ : ∃ p, Bw.pc m k = p := ⟨_, rfl⟩
        rw [hp] at HM HP hpk ⊢
        have HL := Lib.hid (fun w : World => ml1Bit_any x p w (by omega) (by omega))
        clear h1 h2 hp
        go_wp2_with (first | (go_at_call 44; ((with_reducible refine (HLm.out _).mono ?_); rintro e w' ⟨rfl, rfl⟩)) | (go_at_call 44; ((with_reducible refine (HL.out _).mono ?_); rintro e w' ⟨rfl, rfl⟩)))
        go_round
        case rel => exact ⟨k + 1, by omega, by go_num, by rw [HP.out]; go_num, by first | rw [HM.out] | (rw [← HM.out]; rfl)⟩
        case measure => simp [intOf]; omega
      · have HM := Lib.hid (Bw.sct_no x m h2)
        have HP := Lib.hid (Bw.pc_no h2)
        have HLm := Lib.hid (fun w : World => h1 ▸ ml1Bit_any m k w (by omega) (by omega))
        clear h1 h2
        go_wp2_with (go_at_call 44; ((with_reducible refine (HLm.out _).mono ?_); rintro e w' ⟨rfl, rfl⟩))
        go_round
        case rel => exact ⟨k + 1, by omega, by go_num, by rw [HP.out], by rw [HM.out]⟩
        case measure => simp [intOf]; omega
    · obtain rfl : k = n := by omega
      go_wp2_with fail
      go_ret
      exact ⟨rfl, rfl⟩

theorem spec_Scatter_yes (n x m : Nat) (w : World) (hx : Hid (WordOk n x)) (hm : Hid (WordOk n m)) :
    Calls Tryd.prog 29 #[.int .i64 n, .int .i64 x, .int .i64 m] w fun e w' => e = .returned (.int .i64 ((Bw.sct x m n : Nat) : Int)) ∧ Below w.heap.size w w' :=
  (spec_Scatter_same n x m w hx hm).mono fun _ _ ⟨h1, h2⟩ => ⟨h1, h2 ▸ Below.refl _ _⟩

theorem spec_Gather_no (n a b : Int) (w : World) (h : Hid (¬ WordOk n a ∨ (WordOk n a ∧ ¬ WordOk n b))) :
    Calls Tryd.prog 24 #[.int .i64 n, .int .i64 a, .int .i64 b] w fun e w' => e = .returned (.int .i64 (-1)) ∧ Below w.heap.size w w' := by
  go_enter Tryd.func24, Tryd.ntmps24
  go_wp2_with (go_at_call 32; ((with_reducible refine (l1Both_no n a b _ h).mono ?_); rintro e w' ⟨rfl, rfl⟩))
  go_ret
  exact ⟨rfl, Below.refl _ _⟩

theorem spec_Scatter_no (n a b : Int) (w : World) (h : Hid (¬ WordOk n a ∨ (WordOk n a ∧ ¬ WordOk n b))) :
    Calls Tryd.prog 29 #[.int .i64 n, .int .i64 a, .int .i64 b] w fun e w' => e = .returned (.int .i64 (-1)) ∧ Below w.heap.size w w' := by
  go_enter Tryd.func29, Tryd.ntmps29
  go_wp2_with (go_at_call 32; ((with_reducible refine (l1Both_no n a b _ h).mono ?_); rintro e w' ⟨rfl, rfl⟩))
  go_ret
  exact ⟨rfl, Below.refl _ _⟩

end Go.Proofs.YtbknmokoegembabDoor
