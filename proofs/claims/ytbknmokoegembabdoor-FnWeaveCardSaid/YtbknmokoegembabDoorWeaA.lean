/- Contracts: words taken apart and woven; the walks of the laws that hold them against the reference. -/
import Derived.Test.YtbknmokoegembabDoorGatC
import Derived.Test.YtbknmokoegembabDoorWeaPlain

namespace Bw
open Go Go.RowKit

theorem ev_addi (x : Nat) {k : Nat} (hk : k < 6) : wrap64 ((ev x k : Int) + wrap64 (bt x (2 * k) * 2 ^ k)) = (ev x (k + 1) : Int) := by
  have h1 := ev_lt x k
  have h2 : 2 ^ k ≤ 2 ^ 12 := Nat.pow_le_pow_right (by omega) (by omega)
  have h4 := bit_mul_le x (2 * k) (2 ^ k)
  rw [bt_pow_cast _ _ _ (by omega), ev_succ, w64 (by omega)]
  omega

theorem od_addi (x : Nat) {k : Nat} (hk : k < 6) : wrap64 ((od x k : Int) + wrap64 (bt x (2 * k + 1) * 2 ^ k)) = (od x (k + 1) : Int) := by
  have h1 := od_lt x k
  have h2 : 2 ^ k ≤ 2 ^ 12 := Nat.pow_le_pow_right (by omega) (by omega)
  have h4 := bit_mul_le x (2 * k + 1) (2 ^ k)
  rw [bt_pow_cast _ _ _ (by omega), od_succ, w64 (by omega)]
  omega

theorem wv_addi (a b : Nat) {k : Nat} (hk : k < 6) : wrap64 (wrap64 ((wv a b k : Int) + wrap64 (bt a k * 2 ^ (2 * k))) + wrap64 (bt b k * 2 ^ (2 * k + 1))) = (wv a b (k + 1) : Int) := by
  have h1 := wv_lt a b k
  have h2 : 2 ^ (2 * k) ≤ 2 ^ 12 := Nat.pow_le_pow_right (by omega) (by omega)
  have h3 : 2 ^ (2 * k + 1) ≤ 2 ^ 12 := Nat.pow_le_pow_right (by omega) (by omega)
  have h4 := bit_mul_le a k (2 ^ (2 * k))
  have h5 := bit_mul_le b k (2 ^ (2 * k + 1))
  rw [bt_pow_cast _ _ _ (by omega), bt_pow_cast _ _ _ (by omega), wv_succ]
  generalize a / 2 ^ k % 2 * 2 ^ (2 * k) = p at *
  generalize b / 2 ^ k % 2 * 2 ^ (2 * k + 1) = q at *
  rw [w64 (n := (wv a b k : Int) + (p : Int)) (by omega), w64 (by omega)]
  omega

end Bw

namespace Go.Proofs.YtbknmokoegembabDoor
open Go.RowKit
set_option linter.unusedVariables false

set_option maxHeartbeats 400000 in
theorem spec_Unweave_yes (n h x : Nat) (w : World) (hx : Hid (WordOk n x)) (hn : n = 2 * h) :
    Calls Tryd.prog 31 #[.int .i64 n, .int .i64 x] w fun e w' => e = .returned (.tuple #[.int .i64 ((Bw.ev x h : Nat) : Int), .int .i64 ((Bw.od x h : Nat) : Int), .bool true]) ∧ Below w.heap.size w w' := by
  have hw := hx.out.1
  have x1 := word_bd hx.out
  have hh : h ≤ 6 := by omega
  have e1 : (n : Int) % 2 = 0 := by omega
  have e2 : (n : Int).tmod 2 = 0 := by rw [Int.tmod_eq_emod_of_nonneg (by omega), e1]
  have e3 : (n : Int) / 2 = h := by omega
  have e4 : (n : Int).tdiv 2 = h := by rw [Int.tdiv_eq_ediv_of_nonneg (by omega), e3]
  clear hn
  go_enter Tryd.func31, Tryd.ntmps31
  go_wp2_with (go_at_call 54; ((with_reducible refine (spec_WordValid_yes n x _ hx).mono ?_); rintro e w' ⟨rfl, rfl⟩))
  go_loopw [7, 8, 9] (fun t p i wr => ∃ k : Nat, k ≤ h ∧ i = .int .i64 k ∧ p = .int .i64 ((Bw.od x k : Nat) : Int) ∧ t = .int .i64 ((Bw.ev x k : Nat) : Int) ∧ Hid (Below w.heap.size w wr)) (fun _ _ i _ => h - (intOf i).toNat)
  case atStart => exact ⟨0, by omega, rfl, rfl, rfl, Below.refl _ _⟩
  case round =>
    obtain ⟨k, hk, rfl, rfl, rfl, hb⟩ := hrel
    by_cases hl : k < h
    · have HE := Lib.hid (Bw.ev_addi x (show k < 6 by omega))
      have HO := Lib.hid (Bw.od_addi x (show k < 6 by omega))
      have HL := Lib.hid (fun w : World => (show ((2 * k : Nat) : Int) = 2 * (k : Int) by omega) ▸ ml1Bit_any x (2 * k) w (by omega) (by omega))
      have HL1 := Lib.hid (fun w : World => (show ((2 * k + 1 : Nat) : Int) = 2 * (k : Int) + 1 by omega) ▸ ml1Bit_any x (2 * k + 1) w (by omega) (by omega))
      go_wp2_with (first | (go_at_call 44; ((with_reducible refine (HL.out _).mono ?_); rintro e w' ⟨rfl, rfl⟩)) | (go_at_call 44; ((with_reducible refine (HL1.out _).mono ?_); rintro e w' ⟨rfl, rfl⟩)))
      go_roundw
      case rel => exact ⟨k + 1, by omega, by go_num, by first | rw [HO.out] | (rw [← HO.out]; rfl), by first | rw [HE.out] | (rw [← HE.out]; rfl), hb⟩
      case measure => simp [intOf]; omega
    · obtain rfl : k = h := by omega
      go_wp2_with fail
      go_ret3
      exact ⟨rfl, hb.out⟩

theorem spec_Unweave_no (n x : Int) (w : World) (h : Hid (¬ WordOk n x ∨ (WordOk n x ∧ n % 2 = 1))) :
    Calls Tryd.prog 31 #[.int .i64 n, .int .i64 x] w fun e w' => e = .returned (.tuple #[.int .i64 (-1), .int .i64 (-1), .bool false]) ∧ Below w.heap.size w w' := by
  rcases h.out with hx | ⟨hx, e1⟩
  · have hx := Lib.hid hx
    go_enter Tryd.func31, Tryd.ntmps31
    go_wp2_with (go_at_call 54; ((with_reducible refine (spec_WordValid_no n x _ hx).mono ?_); rintro e w' ⟨rfl, rfl⟩))
    go_ret3
    exact ⟨rfl, Below.refl _ _⟩
  · have hw := hx.1
    have hx := Lib.hid hx
    have e2 : n.tmod 2 = 1 := by rw [Int.tmod_eq_emod_of_nonneg (by omega), e1]
    go_enter Tryd.func31, Tryd.ntmps31
    go_wp2_with (go_at_call 54; ((with_reducible refine (spec_WordValid_yes n x _ hx).mono ?_); rintro e w' ⟨rfl, rfl⟩))
    go_ret3
    exact ⟨rfl, Below.refl _ _⟩

set_option maxHeartbeats 400000 in
theorem impl_Unweave_yes (n h x : Nat) (w : World) (hx : Hid (WordOk n x)) (hn : n = 2 * h) (hT : Hid (TabLies w)) :
    Calls Tryd.prog 15 #[.int .i64 n, .int .i64 x] w fun e w' => e = .returned (.tuple #[.int .i64 ((Bw.ev x h : Nat) : Int), .int .i64 ((Bw.od x h : Nat) : Int), .bool true]) ∧ Below w.heap.size w w' := by
  have hw := hx.out.1
  have x1 := word_bd hx.out
  have hh : h ≤ 6 := by omega
  have e1 : (n : Int) % 2 = 0 := by omega
  have e2 : (n : Int).tmod 2 = 0 := by rw [Int.tmod_eq_emod_of_nonneg (by omega), e1]
  have hlt : x < 2 ^ (2 * h) := by rw [← hn]; exact gword_lt hx.out
  have HG : Hid (∀ (w : World), Hid (TabLies w) → Calls Tryd.prog 47 #[.int .i64 x, .int .i64 1365] w fun e w' => e = .returned (.int .i64 ((Bw.ev x h : Nat) : Int)) ∧ Below w.heap.size w w') := fun w h => Bw.ev_six hlt hh ▸ gather_any x 1365 w (by omega) (by omega) h
  have HO : Hid (∀ (w : World), Hid (TabLies w) → Calls Tryd.prog 47 #[.int .i64 x, .int .i64 2730] w fun e w' => e = .returned (.int .i64 ((Bw.od x h : Nat) : Int)) ∧ Below w.heap.size w w') := fun w h => Bw.od_six hlt hh ▸ gather_any x 2730 w (by omega) (by omega) h
  obtain ⟨y, hy⟩ : ∃ y, Bw.ev x h = y := ⟨_, rfl⟩
  obtain ⟨z, hz⟩ : ∃ z, Bw.od x h = z := ⟨_, rfl⟩
  rw [hy] at HG ⊢
  rw [hz] at HO ⊢
  clear hy hz hn hlt
  go_enter Tryd.func15, Tryd.ntmps15
  go_wp2_with (go_at_call 16; ((with_reducible refine (impl_WordValid_yes n x _ hx).mono ?_); rintro e w' ⟨rfl, rfl⟩))
  (with_reducible refine (HG.out _ hT).mono ?_)
  rintro e w1 ⟨rfl, hb⟩
  have HB := Lib.hid hb
  have HT1 := Lib.hid (hT.out.below hb)
  clear hb
  go_wp2_with fail
  (with_reducible refine (HO.out _ HT1).mono ?_)
  rintro e w2 ⟨rfl, hb⟩
  have HB := Lib.hid (HB.out.trans (hb.mono HB.out.size))
  clear hb
  go_wp2_with fail
  go_ret3
  exact ⟨rfl, HB.out⟩

theorem impl_Unweave_no (n x : Int) (w : World) (h : Hid (¬ WordOk n x ∨ (WordOk n x ∧ n % 2 = 1))) :
    Calls Tryd.prog 15 #[.int .i64 n, .int .i64 x] w fun e w' => e = .returned (.tuple #[.int .i64 (-1), .int .i64 (-1), .bool false]) ∧ Below w.heap.size w w' := by
  rcases h.out with hx | ⟨hx, e1⟩
  · have hx := Lib.hid hx
    go_enter Tryd.func15, Tryd.ntmps15
    go_wp2_with (go_at_call 16; ((with_reducible refine (impl_WordValid_no n x _ hx).mono ?_); rintro e w' ⟨rfl, rfl⟩))
    go_ret3
    exact ⟨rfl, Below.refl _ _⟩
  · have hw := hx.1
    have hx := Lib.hid hx
    have e2 : n.tmod 2 = 1 := by rw [Int.tmod_eq_emod_of_nonneg (by omega), e1]
    go_enter Tryd.func15, Tryd.ntmps15
    go_wp2_with (go_at_call 16; ((with_reducible refine (impl_WordValid_yes n x _ hx).mono ?_); rintro e w' ⟨rfl, rfl⟩))
    go_ret3
    exact ⟨rfl, Below.refl _ _⟩

/-! woven -/
set_option maxHeartbeats 400000 in
theorem spec_Weave_yes (n a b : Nat) (w : World) (ha : Hid (WordOk n a)) (hb : Hid (WordOk n b)) (hn : n ≤ 6) :
    Calls Tryd.prog 13 #[.int .i64 n, .int .i64 a, .int .i64 b] w fun e w' => e = .returned (.int .i64 ((Bw.wv a b n : Nat) : Int)) ∧ Below w.heap.size w w' := by
  have hw := ha.out.1
  have a1 := word_bd ha.out
  have b1 := word_bd hb.out
  go_enter Tryd.func13, Tryd.ntmps13
  go_wp2_with (go_at_call 32; ((with_reducible refine (l1Both_yes n a b _ ha hb).mono ?_); rintro e w' ⟨rfl, rfl⟩))
  go_loopw [7, 8] (fun t i wr => ∃ k : Nat, k ≤ n ∧ i = .int .i64 k ∧ t = .int .i64 ((Bw.wv a b k : Nat) : Int) ∧ Hid (Below w.heap.size w wr)) (fun _ i _ => n - (intOf i).toNat)
  case atStart => exact ⟨0, by omega, rfl, rfl, Below.refl _ _⟩
  case round =>
    obtain ⟨k, hk, rfl, rfl, hbe⟩ := hrel
    by_cases hl : k < n
    · have HE := Lib.hid (Bw.wv_addi a b (show k < 6 by omega))
      have HL := Lib.hid (fun w : World => ml1Bit_any a k w (by omega) (by omega))
      have HL1 := Lib.hid (fun w : World => ml1Bit_any b k w (by omega) (by omega))
      go_wp2_with fail
      go_quiet ((go_at_call 44; first | (with_reducible exact quiet_eq (HL.out _)) | (with_reducible exact quiet_eq (HL1.out _))))
      go_wp2_with fail
      go_roundw
      case rel => exact ⟨k + 1, by omega, by go_num, by first | rw [HE.out] | (rw [← HE.out]; rfl), Go.below_drewN hbe.out _⟩
      case measure => simp [intOf]; omega
    · obtain rfl : k = n := by omega
      go_wp2_with fail
      go_ret
      exact ⟨rfl, hbe.out⟩

theorem spec_Weave_no (n a b : Int) (w : World) (h : Hid ((¬ WordOk n a ∨ (WordOk n a ∧ ¬ WordOk n b)) ∨ ((WordOk n a ∧ WordOk n b) ∧ 6 < n))) :
    Calls Tryd.prog 13 #[.int .i64 n, .int .i64 a, .int .i64 b] w fun e w' => e = .returned (.int .i64 (-1)) ∧ Below w.heap.size w w' := by
  rcases h.out with hx | ⟨⟨ha, hb⟩, h6⟩
  · have hx := Lib.hid hx
    go_enter Tryd.func13, Tryd.ntmps13
    go_wp2_with (go_at_call 32; ((with_reducible refine (l1Both_no n a b _ hx).mono ?_); rintro e w' ⟨rfl, rfl⟩))
    go_ret
    exact ⟨rfl, Below.refl _ _⟩
  · have hw := ha.1
    have ha := Lib.hid ha
    have hb := Lib.hid hb
    go_enter Tryd.func13, Tryd.ntmps13
    go_wp2_with (go_at_call 32; ((with_reducible refine (l1Both_yes n a b _ ha hb).mono ?_); rintro e w' ⟨rfl, rfl⟩))
    go_ret
    exact ⟨rfl, Below.refl _ _⟩

set_option maxHeartbeats 400000 in
theorem impl_Weave_yes (n a b : Nat) (w : World) (ha : Hid (WordOk n a)) (hb : Hid (WordOk n b)) (hn : n ≤ 6) (hT : Hid (TabLies w)) :
    Calls Tryd.prog 12 #[.int .i64 n, .int .i64 a, .int .i64 b] w fun e w' => e = .returned (.int .i64 ((Bw.wv a b n : Nat) : Int)) ∧ Below w.heap.size w w' := by
  have hw := ha.out.1
  have a1 := word_bd ha.out
  have b1 := word_bd hb.out
  have h1 := Bw.wv_or a b
  rw [Bw.wv_six (gword_lt ha.out) (gword_lt hb.out) hn] at h1
  have h2 := Bw.sct_lt a 1365 12
  have h3 := Bw.sct_lt b 2730 12
  have hor := Bw.i64_or (Bw.sct a 1365 12) (Bw.sct b 2730 12) (by omega) (by omega)
  rw [h1] at hor
  have HG : Hid (∀ (w : World), Hid (TabLies w) → Calls Tryd.prog 38 #[.int .i64 a, .int .i64 1365] w fun e w' => e = .returned (.int .i64 ((Bw.sct a 1365 12 : Nat) : Int)) ∧ Below w.heap.size w w') := fun w h => scatter_any a 1365 w (by omega) (by omega) h
  have HO : Hid (∀ (w : World), Hid (TabLies w) → Calls Tryd.prog 38 #[.int .i64 b, .int .i64 2730] w fun e w' => e = .returned (.int .i64 ((Bw.sct b 2730 12 : Nat) : Int)) ∧ Below w.heap.size w w') := fun w h => scatter_any b 2730 w (by omega) (by omega) h
  obtain ⟨y, hy⟩ : ∃ y, Bw.sct a 1365 12 = y := ⟨_, rfl⟩
  obtain ⟨z, hz⟩ : ∃ z, Bw.sct b 2730 12 = z := ⟨_, rfl⟩
  obtain ⟨v, hv⟩ : ∃ v, Bw.wv a b n = v := ⟨_, rfl⟩
  rw [hy] at HG hor
  rw [hz] at HO hor
  rw [hv] at hor ⊢
  have HOR := Lib.hid hor
  clear hy hz hv h1 h2 h3 hor
  have HB0 : Below w.heap.size w (w.alloc (.cells #[.int .i64 (a : Int), .int .i64 (b : Int)] 3)) := (Below.refl _ _).alloc (Nat.le_refl _) _
  have HT1 := Lib.hid (hT.out.below HB0)
  have HB0 := Lib.hid HB0
  go_enter Tryd.func12, Tryd.ntmps12
  go_wp2_with (first | (go_at_call 43; ((with_reducible refine (allValid_yes n a b _ _ hw (two_cells w _ _ _).1 (two_cells w _ _ _).2 ha hb).mono ?_); rintro e w' ⟨rfl, rfl⟩)))
  (with_reducible refine (HG.out _ HT1).mono ?_)
  rintro e w1 ⟨rfl, hb⟩
  have HB := Lib.hid (HB0.out.trans (hb.mono HB0.out.size))
  have HT1 := Lib.hid (HT1.out.below hb)
  clear hb
  go_wp2_with fail
  (with_reducible refine (HO.out _ HT1).mono ?_)
  rintro e w2 ⟨rfl, hb⟩
  have HB := Lib.hid (HB.out.trans (hb.mono HB.out.size))
  clear hb
  go_wp2_with fail
  go_ret
  exact ⟨ret_int HOR.out, HB.out⟩

theorem impl_Weave_no (n a b : Int) (w : World) (h : Hid ((¬ WordOk n a ∨ (WordOk n a ∧ ¬ WordOk n b)) ∨ ((WordOk n a ∧ WordOk n b) ∧ 6 < n))) :
    Calls Tryd.prog 12 #[.int .i64 n, .int .i64 a, .int .i64 b] w fun e w' => e = .returned (.int .i64 (-1)) ∧ Below w.heap.size w w' := by
  rcases h.out with hx | ⟨⟨ha, hb⟩, h6⟩
  · have hx := Lib.hid hx
    go_enter Tryd.func12, Tryd.ntmps12
    go_wp2_with (first | (go_at_call 43; ((with_reducible refine (allValid_no n a b _ _ (two_cells w _ _ _).1 (two_cells w _ _ _).2 hx).mono ?_); rintro e w' ⟨rfl, rfl⟩)))
    go_ret
    exact ⟨rfl, (Below.refl _ _).alloc (Nat.le_refl _) _⟩
  · have hw := ha.1
    have ha := Lib.hid ha
    have hb := Lib.hid hb
    go_enter Tryd.func12, Tryd.ntmps12
    go_wp2_with (first | (go_at_call 43; ((with_reducible refine (allValid_yes n a b _ _ hw (two_cells w _ _ _).1 (two_cells w _ _ _).2 ha hb).mono ?_); rintro e w' ⟨rfl, rfl⟩)))
    go_ret
    exact ⟨rfl, (Below.refl _ _).alloc (Nat.le_refl _) _⟩

end Go.Proofs.YtbknmokoegembabDoor
