/- Contracts: sorted bits. -/
import Derived.Test.YtknchojfhpchiabMFnE

namespace Bw
open Go

theorem srow_bd {x p b : Nat} (h : x ≤ b) : ∀ j, (j = 0 ∨ p + 2 * j ≤ 13) → srow x p j ≤ b + 2048 * j
  | 0, _ => by simpa [srow] using h
  | j + 1, hj => by
    have ih := srow_bd (p := p) h j (by omega)
    have h2 := sstep_bd (k := p + 2 * j) ih (by omega)
    have e : srow x p (j + 1) = sstep (srow x p j) (p + 2 * j) := rfl
    rw [e, Nat.mul_add, Nat.mul_one, ← Nat.add_assoc]
    exact h2

theorem srounds_bd {n x : Nat} (hn : n ≤ 12) (hx : x < 4096) : ∀ r, srounds n x r ≤ 4096 + 12288 * r
  | 0 => by have e : srounds n x 0 = x := rfl
            omega
  | r + 1 => by
    have ih := srounds_bd hn hx r
    have h2 := srow_bd (p := r % 2) ih ((n - r % 2) / 2) (by omega)
    have e : srounds n x (r + 1) = srow (srounds n x r) (r % 2) ((n - r % 2) / 2) := rfl
    rw [← e] at h2
    have h3 : (n - r % 2) / 2 ≤ 6 := by omega
    generalize srounds n x (r + 1) = z at *
    omega

theorem sstep_yes {x k : Nat} (h1 : bt x k = 1) (h2 : bt x (k + 1) = 0) : sstep x k = x + 2 ^ k := by
  unfold sstep; rw [if_pos ⟨(bt_one x k).1 h1, (bt_zero x (k + 1)).1 h2⟩]

theorem sstep_no1 {x k : Nat} (h1 : bt x k = 0) : sstep x k = x := by
  unfold sstep; rw [if_neg]; intro h; have := (bt_zero x k).1 h1; omega

theorem sstep_no2 {x k : Nat} (h2 : bt x (k + 1) = 1) : sstep x k = x := by
  unfold sstep; rw [if_neg]; intro h; have := (bt_one x (k + 1)).1 h2; omega

end Bw

namespace Go.Proofs.Ytknchojfhpchiab
open Go.RowKit
set_option linter.unusedVariables false

set_option maxHeartbeats 1000000 in
theorem spec_BitsSorted_yes (n x : Nat) (w : World) (hx : Hid (WordOk n x)) :
    Calls Try.prog 11 #[.int .i64 n, .int .i64 x] w fun e w' => e = .returned (.int .i64 ((Bw.srounds n x n : Nat) : Int)) ∧ w = w' := by
  have hw := hx.out.1
  have x1 := word_bd hx.out
  have hn : n ≤ 12 := by omega
  have HB := Lib.hid (fun r => Bw.srounds_bd (n := n) (x := x) hn (by omega) r)
  go_enter Try.func11, Try.ntmps11
  go_wp2_with (go_at_call 34; ((with_reducible refine (spec_WordValid_yes n x _ hx).mono ?_); rintro e w' ⟨rfl, rfl⟩))
  go_loop [1, 5] (fun t i => ∃ r : Nat, r ≤ n ∧ i = .int .i64 r ∧ t = .int .i64 ((Bw.srounds n x r : Nat) : Int)) (fun _ i => n - (intOf i).toNat)
  case atStart => exact ⟨0, by omega, rfl, rfl⟩
  case round =>
    obtain ⟨r, hr, rfl, rfl⟩ := hrel
    have hb := HB.out r
    obtain ⟨y, hy⟩ : ∃ y, Bw.srounds n x r = y := ⟨_, rfl⟩
    rw [hy] at hb ⊢
    by_cases hlt : r < n
    · obtain ⟨p, hp⟩ : ∃ p, r % 2 = p := ⟨_, rfl⟩
      have hp1 : p ≤ 1 := by omega
      have ep : (r : Int) % 2 = (p : Int) := by omega
      have ht : (r : Int).tmod 2 = (p : Int) := by rw [Int.tmod_eq_emod_of_nonneg (by omega), ep]
      have HS : Hid (Bw.srounds n x (r + 1) = Bw.srow y p ((n - p) / 2)) := by
        show Bw.srow (Bw.srounds n x r) (r % 2) ((n - r % 2) / 2) = _
        rw [hy, hp]
      have HY := Lib.hid (fun j hj => Bw.srow_bd (x := y) (p := p) hb j hj)
      clear hp hy hb
      go_wp2_with fail
      go_loop [1, 6] (fun t i => ∃ j k : Nat, Hid (k = p + 2 * j) ∧ k ≤ n + 1 ∧ Hid (j = 0 ∨ k ≤ n) ∧ i = .int .i64 k ∧ t = .int .i64 ((Bw.srow y p j : Nat) : Int)) (fun _ i => n + 1 - (intOf i).toNat)
      case atStart => exact ⟨0, p, Lib.hid rfl, by omega, .inl rfl, rfl, rfl⟩
      case round =>
        obtain ⟨j, k, hk, hkn, hj0, rfl, rfl⟩ := hrel
        have hb := HY.out j (by have := hk.out; have := hj0.out; omega)
        have hj : j ≤ 7 := by have := hk.out; omega
        have HX : Hid (Bw.srow y p (j + 1) = Bw.sstep (Bw.srow y p j) k) := by
          show Bw.sstep (Bw.srow y p j) (p + 2 * j) = _
          rw [hk.out]
        obtain ⟨z, hz⟩ : ∃ z, Bw.srow y p j = z := ⟨_, rfl⟩
        rw [hz] at hb ⊢
        have HX2 := HX.out
        rw [hz] at HX2
        have HZ := Lib.hid hz
        clear hz HX
        have hzb : z < 1000000 := by omega
        by_cases hlk : k + 1 < n
        · have hq := wbd (show k ≤ 12 by omega)
          obtain ⟨q, hqq⟩ : ∃ q, 2 ^ k = q := ⟨_, rfl⟩
          have hwq := wrap_pow (show k ≤ 12 by omega) hqq
          rw [hqq] at hq
          have HQ := Lib.hid hqq
          have HWQ := Lib.hid hwq
          have hk11 : k ≤ 11 := by omega
          have HNN := Lib.hid hn
          have HJ := Lib.hid hj
          clear hqq hwq hw hn hj hkn hp1 hr hlt
          rcases Bw.bt_cases z k with h1 | h1
          · rw [Bw.sstep_no1 h1] at HX2
            have HX := Lib.hid HX2
            clear HX2
            go_wp2_with (go_at_call 35; ((with_reducible refine (ml1Bit_any z k _ (by omega) (by omega)).mono ?_); rintro e w' ⟨rfl, rfl⟩))
            go_round
            case rel => exact ⟨j + 1, k + 2, by have := hk.out; unfold Hid; omega, by omega, .inr (by omega), by go_num, by rw [HX.out]⟩
            case measure => simp [intOf]; omega
          · rcases Bw.bt_cases z (k + 1) with h2 | h2
            · rw [Bw.sstep_yes h1 h2] at HX2
              have HX := Lib.hid HX2
              clear HX2
              go_wp2_with (first | (go_at_call 35; ((with_reducible refine (ml1Bit_any z k _ (by omega) (by omega)).mono ?_); rintro e w' ⟨rfl, rfl⟩)) | (go_at_call 35; rw [show (k : Int) + 1 = ((k + 1 : Nat) : Int) from rfl]; ((with_reducible refine (ml1Bit_any z (k + 1) _ (by omega) (by omega)).mono ?_); rintro e w' ⟨rfl, rfl⟩)))
              go_round
              case rel => exact ⟨j + 1, k + 2, by have := hk.out; unfold Hid; omega, by omega, .inr (by omega), by go_num, by rw [HX.out, HQ.out, HWQ.out, Bw.w64 (by omega)]; go_num⟩
              case measure => simp [intOf]; omega
            · rw [Bw.sstep_no2 h2] at HX2
              have HX := Lib.hid HX2
              clear HX2
              go_wp2_with (first | (go_at_call 35; ((with_reducible refine (ml1Bit_any z k _ (by omega) (by omega)).mono ?_); rintro e w' ⟨rfl, rfl⟩)) | (go_at_call 35; rw [show (k : Int) + 1 = ((k + 1 : Nat) : Int) from rfl]; ((with_reducible refine (ml1Bit_any z (k + 1) _ (by omega) (by omega)).mono ?_); rintro e w' ⟨rfl, rfl⟩)))
              go_round
              case rel => exact ⟨j + 1, k + 2, by have := hk.out; unfold Hid; omega, by omega, .inr (by omega), by go_num, by rw [HX.out]⟩
              case measure => simp [intOf]; omega
        · have he : (n - p) / 2 = j := by have := hk.out; have := hj0.out; omega
          have HE : Hid (Bw.srounds n x (r + 1) = z) := by unfold Hid; rw [HS.out, he, HZ.out]
          clear he HX2 hn
          go_wp2_with fail
          go_round
          case rel => exact ⟨r + 1, by omega, by go_num, by rw [HE.out]⟩
          case measure => simp [intOf]; omega
    · obtain rfl : r = n := by omega
      have HY := Lib.hid hy
      clear hy
      go_wp2_with fail
      go_ret
      exact ⟨ret_int (by rw [HY.out]), rfl⟩

theorem spec_BitsSorted_no (n x : Int) (w : World) (hx : Hid (¬ WordOk n x)) :
    Calls Try.prog 11 #[.int .i64 n, .int .i64 x] w fun e w' => e = .returned (.int .i64 (-1)) ∧ w = w' := by
  go_enter Try.func11, Try.ntmps11
  go_wp2_with (go_at_call 34; ((with_reducible refine (spec_WordValid_no n x _ hx).mono ?_); rintro e w' ⟨rfl, rfl⟩))
  go_ret
  exact ⟨rfl, rfl⟩

theorem impl_BitsSorted_no (n x : Int) (w : World) (hx : Hid (¬ WordOk n x)) :
    Calls Try.prog 12 #[.int .i64 n, .int .i64 x] w fun e w' => e = .returned (.int .i64 (-1)) ∧ Below w.heap.size w w' := by
  go_enter Try.func12, Try.ntmps12
  go_wp2_with (first | (go_at_call 51; ((with_reducible refine (impl_WordValid_no n x _ hx).mono ?_); rintro e w' ⟨rfl, rfl⟩)) | go_in)
  go_ret
  exact ⟨rfl, (Below.refl _ _).alloc (Nat.le_refl _) _⟩

set_option maxHeartbeats 400000 in
theorem impl_BitsSorted_yes (n x : Nat) (w : World) (hx : Hid (WordOk n x)) :
    Calls Try.prog 12 #[.int .i64 n, .int .i64 x] w fun e w' => e = .returned (.int .i64 ((Bw.greatestOf n (Bw.pc x n) : Nat) : Int)) ∧ Below w.heap.size w w' := by
  have hw := hx.out.1
  have x1 := word_bd hx.out
  have hn : n ≤ 12 := by omega
  have hc := Bw.wrap_u64_small x (by omega)
  have hlt : x < 2 ^ n := by have := hx.out.2.2; rw [Int.toNat_natCast] at this; omega
  have hpc := Bw.pc_more hlt (12 - n)
  rw [Nat.add_sub_cancel' hn] at hpc
  have hle := Bw.pc_le x n
  have HC := Lib.hid (fun w : World => hpc ▸ OnesCount_any x w (by omega))
  obtain ⟨o, ho⟩ : ∃ o, Bw.pc x n = o := ⟨_, rfl⟩
  rw [ho] at hle HC ⊢
  have hg := Bw.greatestOf_lt hle
  have HP0 := Lib.hid (fun w : World => wpower_any o w (by omega))
  have hpb := wbd (show o ≤ 12 by omega)
  have hge : Bw.greatestOf n o = (2 ^ o - 1) * 2 ^ (n - o) := rfl
  obtain ⟨p, hp⟩ : ∃ p, 2 ^ o = p := ⟨_, rfl⟩
  rw [hp] at hpb hge HP0
  obtain ⟨d, hd⟩ : ∃ d, n - o = d := ⟨_, rfl⟩
  rw [hd] at hge
  have ed : (n : Int) - (o : Int) = (d : Int) := by omega
  have hd12 : d ≤ 12 := by omega
  have HG := Lib.hid hg
  have HGE := Lib.hid hge
  have HN := Lib.hid hn
  clear hlt hpc ho hg hge hp hd hle hw hn
  go_enter Try.func12, Try.ntmps12
  go_wp2_with (first | (go_at_call 51; ((with_reducible refine (impl_WordValid_yes n x _ hx).mono ?_); rintro e w' ⟨rfl, rfl⟩)) | (go_at_call 38; ((with_reducible refine (HC.out _).mono ?_); rintro e w' ⟨rfl, rfl⟩)) | go_in)
  go_quiet ((go_at_call 39; (with_reducible exact quiet_eq (HP0.out _))))
  go_wp2_with (go_at_call 55; ((with_reducible refine (cut_any n _ _ (by have := HN.out; omega)).mono ?_); rintro e w' ⟨rfl, rfl⟩))
  go_ret
  refine ⟨ret_int ?_, Go.below_drewN ((Below.refl _ _).alloc (Nat.le_refl _) _) _⟩
  have e1 : ((p : Int) - 1) * 2 ^ d = ((Bw.greatestOf n o : Nat) : Int) := by
    rw [HGE.out, Int.natCast_mul, ← Bw.two_pow_cast]; congr 1; omega
  have h2 := HG.out
  have h3 := wbd HN.out
  rw [e1, Bw.w64n (by omega), emod_cast]
  rw [Int.emod_eq_of_lt (by omega) (by omega)]

theorem law_FnExactBitsSorted (n : Int) (_ : (Lit.int .i64 n).wf = true) (x : Int) (_ : (Lit.int .i64 x).wf = true) (w : World) :
    Calls Try.prog 4 #[.int .i64 n, .int .i64 x] w fun e w' => e = .returned (.bool true) ∧ Below w.heap.size w w' := by
  by_cases h : WordOk n x
  · have hx : Hid (WordOk n x) := h
    obtain ⟨n, x, rfl, rfl⟩ := word_nat h
    have hlt : x < 2 ^ n := by have := h.2.2; rw [Int.toNat_natCast] at this; omega
    have hs := Bw.srounds_eq (by have := h.1; omega) hlt
    have HS := Lib.hid (fun w : World => hs ▸ spec_BitsSorted_yes n x w hx)
    clear h hlt hs
    go_enter Try.func4, Try.ntmps4
    go_wp2_with (first | (go_at_call 11; ((with_reducible refine (HS.out _).mono ?_); rintro e w' ⟨rfl, rfl⟩)) | (go_at_call 12; ((with_reducible refine (impl_BitsSorted_yes n x _ hx).mono ?_); rintro e w' ⟨rfl, hbel⟩)))
    go_ret
    exact ⟨rfl, hbel⟩
  · have hx : Hid (¬ WordOk n x) := h
    clear h
    go_enter Try.func4, Try.ntmps4
    go_wp2_with (first | (go_at_call 11; ((with_reducible refine (spec_BitsSorted_no n x _ hx).mono ?_); rintro e w' ⟨rfl, rfl⟩)) | (go_at_call 12; ((with_reducible refine (impl_BitsSorted_no n x _ hx).mono ?_); rintro e w' ⟨rfl, hbel⟩)))
    go_ret
    exact ⟨rfl, hbel⟩

end Go.Proofs.Ytknchojfhpchiab
