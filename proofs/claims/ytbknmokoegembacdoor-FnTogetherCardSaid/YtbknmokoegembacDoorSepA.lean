/- Contracts: Separate and Together, of the program and of the reference; the walks of the laws that hold them against one another. -/
import Derived.Test.YtbknmokoegembacDoorGatC
import Derived.Test.YtbknmokoegembacDoorGatL

namespace Bw
open Go Go.RowKit

theorem i64_andNot (a b : Nat) (ha : a < 9223372036854775808) (hb : b < 9223372036854775808) : bits .andNot .i64 (a : Int) (b : Int) = ((a &&& (2 ^ 64 - 1 - b) : Nat) : Int) := by
  show IntKind.i64.wrap ((BitVec.ofInt 64 (a : Int) &&& ~~~BitVec.ofInt 64 (b : Int)).toNat : Int) = _
  rw [BitVec.toNat_and, BitVec.toNat_not, ofInt_u64 a (by omega), ofInt_u64 b (by omega)]
  exact wrap_i64_small _ (Nat.lt_of_le_of_lt Nat.and_le_left ha)

theorem and_oth {m n : Nat} (hm : m < 2 ^ n) (hn : n ≤ 12) : (2 ^ n - 1) &&& (2 ^ 64 - 1 - m) = oth m n := by
  have h64 : 2 ^ n ≤ 2 ^ 12 := Nat.pow_le_pow_right (by omega) hn
  apply Nat.eq_of_testBit_eq
  intro i
  rw [Nat.testBit_and, Nat.testBit_two_pow_sub_one, oth_bit hm, show 2 ^ 64 - 1 - m = 2 ^ 64 - (m + 1) by omega, Nat.testBit_two_pow_sub_succ (by omega)]
  by_cases hi : i < n
  · simp [hi]; omega
  · simp [hi]

theorem oth_int {m n : Nat} (hm : m < 2 ^ n) (hn : n ≤ 12) : bits .andNot .i64 ((2 ^ n - 1 : Nat) : Int) (m : Int) = ((oth m n : Nat) : Int) := by
  have h64 : 2 ^ n ≤ 2 ^ 12 := Nat.pow_le_pow_right (by omega) hn
  rw [i64_andNot _ _ (by omega) (by omega), and_oth hm hn]

end Bw

namespace Go.Proofs.YtbknmokoegembacDoor
open Go.RowKit
set_option linter.unusedVariables false

theorem cells_next (w : World) (o : Obj) (x y : Value) (t : TypeId) : ((w.alloc o).alloc (.cells #[x, y] t)).cell? ⟨w.heap.size + 1, 0, none⟩ = some x ∧ ((w.alloc o).alloc (.cells #[x, y] t)).cell? ⟨w.heap.size + 1, 1, none⟩ = some y := by
  have h := two_cells (w.alloc o) x y t
  have e : (w.alloc o).heap.size = w.heap.size + 1 := by simp
  rwa [e] at h

theorem pc_oth_twelve {m n : Nat} (hn : n ≤ 12) : Bw.pc (Bw.oth m n) 12 = Bw.pc (Bw.oth m n) n := by
  have := Bw.pc_more (Bw.oth_lt m n) (12 - n)
  rwa [Nat.add_sub_cancel' hn] at this

set_option maxHeartbeats 1000000 in
theorem sepF_any (n x m g : Nat) (w : World) (hn : n ≤ 12) (hx : Hid (x < 2 ^ n)) (hm : Hid (m < 2 ^ n)) (hc : w.cell? ⟨g, 0, none⟩ = some (.int .i64 n)) (hT : Hid (TabLies w)) :
    Calls Tryd.prog 40 #[.int .i64 x, .int .i64 m, .pointer (some ⟨g, 0, none⟩)] w fun e w' => e = .returned (.int .i64 ((Bw.sep x m n : Nat) : Int)) ∧ Below w.heap.size w w' := by
  have hq := wbd hn
  have ho := Bw.oth_lt m n
  have hnot := Bw.oth_int hm.out hn
  have hz := Bw.oth_pc hm.out n (Nat.le_refl _)
  have e1 := Bw.gth_twelve ho hn x
  have e2 := Bw.gth_twelve hm.out hn x
  have hs := Bw.sep_lt (x := x) hm.out
  have hsor := Bw.sep_or x m n
  have g1 := Bw.gth_lt2 x (Bw.oth m n) n
  have g2 := Bw.gth_lt x m n
  have hp2 : Bw.gth x m n * 2 ^ Bw.pc (Bw.oth m n) n ≤ 4096 := by
    have h1 := Nat.mul_le_mul_right (2 ^ Bw.pc (Bw.oth m n) n) (Nat.le_of_lt g2)
    rw [← Nat.pow_add, Nat.add_comm, hz] at h1
    omega
  have hx4 : x < 4096 := by have := hx.out; omega
  have hm4 : m < 4096 := by have := hm.out; omega
  have HGR := Lib.hid (fun w : World => greatest_any n w (by omega))
  have HG1 := Lib.hid (fun (w : World) (h : Hid (TabLies w)) => e1 ▸ gather_any x (Bw.oth m n) w hx4 (by omega) h)
  have HG2 := Lib.hid (fun (w : World) (h : Hid (TabLies w)) => e2 ▸ gather_any x m w hx4 hm4 h)
  have HOC := Lib.hid (fun (w : World) => pc_oth_twelve (m := m) hn ▸ OnesCount_any (Bw.oth m n) w (by omega))
  have hcv := Bw.wrap_u64_small (Bw.oth m n) (by omega)
  obtain ⟨o, hoo⟩ : ∃ o, Bw.oth m n = o := ⟨_, rfl⟩
  rw [hoo] at hnot hsor g1 hp2 HG1 HOC hcv hz
  obtain ⟨z, hzz⟩ : ∃ z, Bw.pc o n = z := ⟨_, rfl⟩
  rw [hzz] at hsor hp2 HOC hz
  obtain ⟨y1, hy1⟩ : ∃ y, Bw.gth x o n = y := ⟨_, rfl⟩
  obtain ⟨y2, hy2⟩ : ∃ y, Bw.gth x m n = y := ⟨_, rfl⟩
  rw [hy1] at hsor g1 HG1
  rw [hy2] at hsor hp2 HG2
  have hor : bits .or .i64 (y1 : Int) (wrap64 ((y2 : Int) * 2 ^ z)) = ((Bw.sep x m n : Nat) : Int) := by
    rw [Bw.two_pow_cast, ← Int.natCast_mul, Bw.w64n (by omega), Bw.i64_or _ _ (by omega) (by omega), hsor]
  obtain ⟨s, hss⟩ : ∃ s, Bw.sep x m n = s := ⟨_, rfl⟩
  obtain ⟨G, hG⟩ : ∃ G, 2 ^ n - 1 = G := ⟨_, rfl⟩
  rw [hss] at hor ⊢
  rw [hG] at hnot HGR
  have HOR := Lib.hid hor
  have hz12 : z ≤ 12 := by omega
  clear hoo hzz hy1 hy2 hss hG hor hsor hp2 g1 g2 hs e1 e2 ho hz hq
  go_enter Tryd.func40, Tryd.ntmps40
  go_wp2_with (go_at_call 31; ((with_reducible refine (HGR.out _).mono ?_); rintro e w' ⟨rfl, rfl⟩))
  (with_reducible refine (HG1.out _ hT).mono ?_)
  rintro e w1 ⟨rfl, hb⟩
  have HB := Lib.hid hb
  have HT1 := Lib.hid (hT.out.below hb)
  clear hb
  go_wp2_with fail
  (with_reducible refine (HG2.out _ HT1).mono ?_)
  rintro e w2 ⟨rfl, hb⟩
  have HB := Lib.hid (HB.out.trans (hb.mono HB.out.size))
  clear hb
  go_wp2_with (go_at_call 33; ((with_reducible refine (HOC.out _).mono ?_); rintro e w' ⟨rfl, rfl⟩))
  go_ret
  exact ⟨ret_int HOR.out, HB.out⟩

set_option maxHeartbeats 1000000 in
theorem togF_any (n x m g : Nat) (w : World) (hn : n ≤ 12) (hx : Hid (x < 2 ^ n)) (hm : Hid (m < 2 ^ n)) (hc : w.cell? ⟨g, 0, none⟩ = some (.int .i64 n)) (hT : Hid (TabLies w)) :
    Calls Tryd.prog 30 #[.int .i64 x, .int .i64 m, .pointer (some ⟨g, 0, none⟩)] w fun e w' => e = .returned (.int .i64 ((Bw.tog x m n : Nat) : Int)) ∧ Below w.heap.size w w' := by
  have hq := wbd hn
  have ho := Bw.oth_lt m n
  have hnot := Bw.oth_int hm.out hn
  have hz := Bw.oth_pc hm.out n (Nat.le_refl _)
  have hx4 : x < 4096 := by have := hx.out; omega
  have hm4 : m < 4096 := by have := hm.out; omega
  have hd4 : x / 2 ^ Bw.pc (Bw.oth m n) n < 4096 := Nat.lt_of_le_of_lt (Nat.div_le_self _ _) hx4
  have e1 := Bw.sct_twelve ho hn x
  have e2 := Bw.sct_twelve hm.out hn (x / 2 ^ Bw.pc (Bw.oth m n) n)
  have hsor := Bw.tog_or hm.out x
  have g1 := Bw.sct_lt x (Bw.oth m n) n
  have g2 := Bw.sct_lt (x / 2 ^ Bw.pc (Bw.oth m n) n) m n
  have ed : ((x / 2 ^ Bw.pc (Bw.oth m n) n : Nat) : Int) = (x : Int) / 2 ^ Bw.pc (Bw.oth m n) n := by simp
  have HGR := Lib.hid (fun w : World => greatest_any n w (by omega))
  have HG1 := Lib.hid (fun (w : World) (h : Hid (TabLies w)) => e1 ▸ scatter_any x (Bw.oth m n) w hx4 (by omega) h)
  have HG2 := Lib.hid (fun (w : World) (h : Hid (TabLies w)) => e2 ▸ scatter_any (x / 2 ^ Bw.pc (Bw.oth m n) n) m w hd4 hm4 h)
  rw [ed] at HG2
  have HOC := Lib.hid (fun (w : World) => pc_oth_twelve (m := m) hn ▸ OnesCount_any (Bw.oth m n) w (by omega))
  have hcv := Bw.wrap_u64_small (Bw.oth m n) (by omega)
  obtain ⟨o, hoo⟩ : ∃ o, Bw.oth m n = o := ⟨_, rfl⟩
  rw [hoo] at hnot hsor g1 g2 HG1 HG2 HOC hcv hz
  obtain ⟨z, hzz⟩ : ∃ z, Bw.pc o n = z := ⟨_, rfl⟩
  rw [hzz] at hsor g2 HOC HG2 hz
  obtain ⟨y1, hy1⟩ : ∃ y, Bw.sct x o n = y := ⟨_, rfl⟩
  obtain ⟨y2, hy2⟩ : ∃ y, Bw.sct (x / 2 ^ z) m n = y := ⟨_, rfl⟩
  rw [hy1] at hsor g1 HG1
  rw [hy2] at hsor g2 HG2
  have hor : bits .or .i64 (y1 : Int) (y2 : Int) = ((Bw.tog x m n : Nat) : Int) := by
    rw [Bw.i64_or _ _ (by omega) (by omega), hsor]
  obtain ⟨s, hss⟩ : ∃ s, Bw.tog x m n = s := ⟨_, rfl⟩
  obtain ⟨G, hG⟩ : ∃ G, 2 ^ n - 1 = G := ⟨_, rfl⟩
  rw [hss] at hor ⊢
  rw [hG] at hnot HGR
  have HOR := Lib.hid hor
  have hz12 : z ≤ 12 := by omega
  clear hoo hzz hy1 hy2 hss hG hor hsor g1 g2 e1 e2 ho hz hq ed hd4
  go_enter Tryd.func30, Tryd.ntmps30
  go_wp2_with (go_at_call 31; ((with_reducible refine (HGR.out _).mono ?_); rintro e w' ⟨rfl, rfl⟩))
  (with_reducible refine (HG1.out _ hT).mono ?_)
  rintro e w1 ⟨rfl, hb⟩
  have HB := Lib.hid hb
  have HT1 := Lib.hid (hT.out.below hb)
  clear hb
  go_wp2_with (go_at_call 33; ((with_reducible refine (HOC.out _).mono ?_); rintro e w' ⟨rfl, rfl⟩))
  (with_reducible refine (HG2.out _ HT1).mono ?_)
  rintro e w2 ⟨rfl, hb⟩
  have HB := Lib.hid (HB.out.trans (hb.mono HB.out.size))
  clear hb
  go_wp2_with fail
  go_ret
  exact ⟨ret_int HOR.out, HB.out⟩

theorem below_two {w : World} (o o2 : Obj) : Below w.heap.size w ((w.alloc o).alloc o2) :=
  ((Below.refl _ w).alloc (Nat.le_refl _) o).alloc (by simp) o2

set_option maxHeartbeats 400000 in
theorem impl_Separate_yes (n x m : Nat) (w : World) (hx : Hid (WordOk n x)) (hm : Hid (WordOk n m)) (hT : Hid (TabLies w)) :
    Calls Tryd.prog 11 #[.int .i64 n, .int .i64 x, .int .i64 m] w fun e w' => e = .returned (.int .i64 ((Bw.sep x m n : Nat) : Int)) ∧ Below w.heap.size w w' := by
  have hw := hx.out.1
  have hn : n ≤ 12 := by omega
  have hc := cells_next w (.cells #[.int .i64 (n : Int)] 3) (.int .i64 (x : Int)) (.int .i64 (m : Int)) 3
  have hb0 := below_two (w := w) (.cells #[.int .i64 (n : Int)] 3) (.cells #[.int .i64 (x : Int), .int .i64 (m : Int)] 3)
  have HT1 := Lib.hid (hT.out.below hb0)
  have HB0 := Lib.hid hb0
  have HX := Lib.hid (gword_lt hx.out)
  have HM := Lib.hid (gword_lt hm.out)
  have HK := Lib.hid (fun (w : World) => cut_same n (Bw.sep x m n) w (by omega) (Bw.sep_lt HM.out))
  have HCELL : Hid (((w.alloc (.cells #[.int .i64 (n : Int)] 3)).alloc (.cells #[.int .i64 (x : Int), .int .i64 (m : Int)] 3)).cell? ⟨w.heap.size, 0, none⟩ = some (.int .i64 n)) := by unfold Hid; simp
  clear hb0
  go_enter Tryd.func11, Tryd.ntmps11
  go_wp2_with (first | (go_at_call 29; go_in) | (go_at_call 61; ((with_reducible refine (allValid_yes n x m _ _ hw hc.1 hc.2 hx hm).mono ?_); rintro e w' ⟨rfl, rfl⟩)))
  (with_reducible refine (sepF_any n x m _ _ hn HX HM HCELL.out HT1).mono ?_)
  rintro e w1 ⟨rfl, hb⟩
  have HB := Lib.hid (HB0.out.trans (hb.mono HB0.out.size))
  clear hb
  go_wp2_with (go_at_call 62; ((with_reducible refine (HK.out _).mono ?_); rintro e w' ⟨rfl, rfl⟩))
  go_ret
  exact ⟨rfl, HB.out⟩

set_option maxHeartbeats 400000 in
theorem impl_Together_yes (n x m : Nat) (w : World) (hx : Hid (WordOk n x)) (hm : Hid (WordOk n m)) (hT : Hid (TabLies w)) :
    Calls Tryd.prog 8 #[.int .i64 n, .int .i64 x, .int .i64 m] w fun e w' => e = .returned (.int .i64 ((Bw.tog x m n : Nat) : Int)) ∧ Below w.heap.size w w' := by
  have hw := hx.out.1
  have hn : n ≤ 12 := by omega
  have hc := cells_next w (.cells #[.int .i64 (n : Int)] 3) (.int .i64 (x : Int)) (.int .i64 (m : Int)) 3
  have hb0 := below_two (w := w) (.cells #[.int .i64 (n : Int)] 3) (.cells #[.int .i64 (x : Int), .int .i64 (m : Int)] 3)
  have HT1 := Lib.hid (hT.out.below hb0)
  have HB0 := Lib.hid hb0
  have HX := Lib.hid (gword_lt hx.out)
  have HM := Lib.hid (gword_lt hm.out)
  have HK := Lib.hid (fun (w : World) => cut_same n (Bw.tog x m n) w (by omega) (Bw.tog_lt HM.out x))
  have HCELL : Hid (((w.alloc (.cells #[.int .i64 (n : Int)] 3)).alloc (.cells #[.int .i64 (x : Int), .int .i64 (m : Int)] 3)).cell? ⟨w.heap.size, 0, none⟩ = some (.int .i64 n)) := by unfold Hid; simp
  clear hb0
  go_enter Tryd.func8, Tryd.ntmps8
  go_wp2_with (first | (go_at_call 29; go_in) | (go_at_call 61; ((with_reducible refine (allValid_yes n x m _ _ hw hc.1 hc.2 hx hm).mono ?_); rintro e w' ⟨rfl, rfl⟩)))
  (with_reducible refine (togF_any n x m _ _ hn HX HM HCELL.out HT1).mono ?_)
  rintro e w1 ⟨rfl, hb⟩
  have HB := Lib.hid (HB0.out.trans (hb.mono HB0.out.size))
  clear hb
  go_wp2_with (go_at_call 62; ((with_reducible refine (HK.out _).mono ?_); rintro e w' ⟨rfl, rfl⟩))
  go_ret
  exact ⟨rfl, HB.out⟩

theorem impl_Separate_no (n a b : Int) (w : World) (h : Hid (¬ WordOk n a ∨ (WordOk n a ∧ ¬ WordOk n b))) :
    Calls Tryd.prog 11 #[.int .i64 n, .int .i64 a, .int .i64 b] w fun e w' => e = .returned (.int .i64 (-1)) ∧ Below w.heap.size w w' := by
  have hc := cells_next w (.cells #[.int .i64 n] 3) (.int .i64 a) (.int .i64 b) 3
  go_enter Tryd.func11, Tryd.ntmps11
  go_wp2_with (first | (go_at_call 29; go_in) | (go_at_call 61; ((with_reducible refine (allValid_no n a b _ _ hc.1 hc.2 h).mono ?_); rintro e w' ⟨rfl, rfl⟩)))
  go_ret
  exact ⟨rfl, below_two _ _⟩

theorem impl_Together_no (n a b : Int) (w : World) (h : Hid (¬ WordOk n a ∨ (WordOk n a ∧ ¬ WordOk n b))) :
    Calls Tryd.prog 8 #[.int .i64 n, .int .i64 a, .int .i64 b] w fun e w' => e = .returned (.int .i64 (-1)) ∧ Below w.heap.size w w' := by
  have hc := cells_next w (.cells #[.int .i64 n] 3) (.int .i64 a) (.int .i64 b) 3
  go_enter Tryd.func8, Tryd.ntmps8
  go_wp2_with (first | (go_at_call 29; go_in) | (go_at_call 61; ((with_reducible refine (allValid_no n a b _ _ hc.1 hc.2 h).mono ?_); rintro e w' ⟨rfl, rfl⟩)))
  go_ret
  exact ⟨rfl, below_two _ _⟩

/-! the reference -/
theorem pc_addi (x k : Nat) : ((Bw.pc x k : Nat) : Int) + Bw.bt x k = ((Bw.pc x (k + 1) : Nat) : Int) := by
  rw [Bw.pc_succ, ← Bw.bit_toNat]; unfold Bw.bt; omega

set_option maxHeartbeats 400000 in
theorem spec_OnesOf_yes (n x : Nat) (w : World) (hx : Hid (WordOk n x)) :
    Calls Tryd.prog 35 #[.int .i64 n, .int .i64 x] w fun e w' => e = .returned (.int .i64 ((Bw.pc x n : Nat) : Int)) ∧ w = w' := by
  have hw := hx.out.1
  have x1 := word_bd hx.out
  go_enter Tryd.func35, Tryd.ntmps35
  go_wp2_with (go_at_call 52; ((with_reducible refine (spec_WordValid_yes n x _ hx).mono ?_); rintro e w' ⟨rfl, rfl⟩))
  go_loop [5, 6] (fun t i => ∃ k : Nat, k ≤ n ∧ i = .int .i64 k ∧ t = .int .i64 ((Bw.pc x k : Nat) : Int)) (fun _ i => n - (intOf i).toNat)
  case atStart => exact ⟨0, by omega, rfl, rfl⟩
  case round =>
    obtain ⟨k, hk, rfl, rfl⟩ := hrel
    have hp := Bw.pc_le x k
    have hb := Bw.bt_bd x k
    by_cases hlt : k < n
    · have HM := Lib.hid (pc_addi x k)
      go_wp2_with (go_at_call 53; ((with_reducible refine (ml1Bit_any x k _ (by omega) (by omega)).mono ?_); rintro e w' ⟨rfl, rfl⟩))
      go_round
      case rel => exact ⟨k + 1, by omega, by go_num, by rw [← HM.out]⟩
      case measure => simp [intOf]; omega
    · obtain rfl : k = n := by omega
      go_wp2_with fail
      go_ret
      exact ⟨rfl, rfl⟩

theorem spec_WordNot_yes (n x : Nat) (w : World) (hx : Hid (WordOk n x)) :
    Calls Tryd.prog 37 #[.int .i64 n, .int .i64 x] w fun e w' => e = .returned (.int .i64 ((Bw.oth x n : Nat) : Int)) ∧ w = w' := by
  have hw := hx.out.1
  have x1 := word_bd hx.out
  have hlt := gword_lt hx.out
  have hq := wbd (show n ≤ 12 by omega)
  have hwq := wrap_pow (show n ≤ 12 by omega) rfl
  have HO : Hid (wrap64 (2 ^ n) - 1 - (x : Int) = ((Bw.oth x n : Nat) : Int)) := by
    unfold Hid
    rw [hwq]
    unfold Bw.oth
    omega
  have HB : Hid (1 ≤ wrap64 (2 ^ n) ∧ wrap64 (2 ^ n) ≤ 4096) := by unfold Hid; rw [hwq]; omega
  clear hlt hq hwq
  go_enter Tryd.func37, Tryd.ntmps37
  go_wp2_with (go_at_call 52; ((with_reducible refine (spec_WordValid_yes n x _ hx).mono ?_); rintro e w' ⟨rfl, rfl⟩))
  go_ret
  refine ⟨ret_int ?_, rfl⟩
  have h1 := HB.out
  rw [← HO.out]
  generalize wrap64 (2 ^ n) = W at *
  rw [Bw.w64 (n := W - 1) (by omega), Bw.w64 (n := W - 1 - (x : Int)) (by omega)]

theorem gword_oth {n m : Nat} (h0 : 1 ≤ n) (h1 : n ≤ 12) : WordOk (n : Int) ((Bw.oth m n : Nat) : Int) := gword_ok h0 h1 (Bw.oth_lt m n)

end Go.Proofs.YtbknmokoegembacDoor
