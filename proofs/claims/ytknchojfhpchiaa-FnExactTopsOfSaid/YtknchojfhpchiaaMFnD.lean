/- Contracts: the highest bits of all lanes. -/
import Derived.Test.YtknchojfhpchiaaMLawsA

namespace Bw
open Go Go.RowKit

theorem tops_bd {l c j : Nat} (hl : 1 ≤ l) (h : l * c ≤ 12) (hj : j ≤ c) : tops l j < 4096 := by
  have h1 := tops_lt hl j
  have h2 : j * l ≤ c * l := Nat.mul_le_mul_right l hj
  rw [Nat.mul_comm c] at h2
  have h3 : 2 ^ (j * l) ≤ 2 ^ 12 := Nat.pow_le_pow_right (by omega) (by omega)
  omega

theorem tops_add (l j k : Nat) (hk : k = l - 1 + j * l) (h : tops l (j + 1) < 4096) : wrap64 ((tops l j : Int) + wrap64 (2 ^ k)) = (tops l (j + 1) : Int) := by
  have e : tops l (j + 1) = tops l j + 2 ^ k := by rw [hk]; rfl
  rw [e] at h ⊢
  rw [two_pow_cast, w64n (n := 2 ^ k) (by omega), w64 (by omega)]
  omega

theorem tops_ori (l j m s : Nat) (hl : 1 ≤ l) (hm : l = m + 1) (hs : j * l = s) (h : tops l (j + 1) < 4096) : bits .or .i64 (tops l j : Int) (wrap64 (((2 ^ m : Nat) : Int) * 2 ^ s)) = (tops l (j + 1) : Int) := by
  have e : tops l (j + 1) = tops l j + 2 ^ (m + s) := by
    show tops l j + 2 ^ (l - 1 + j * l) = _
    rw [hs, hm]; rfl
  have e2 := tops_or hl j
  rw [hs, show l - 1 = m by omega] at e2
  rw [two_pow_cast, ← Int.natCast_mul, ← Nat.pow_add]
  rw [e] at h
  have hp := Nat.two_pow_pos (m + s)
  generalize 2 ^ (m + s) = q at *
  rw [w64n (by omega), i64_or _ _ (by omega) (by omega), e2]

end Bw

namespace Go.Proofs.Ytknchojfhpchiaa
open Go.RowKit
set_option linter.unusedVariables false

set_option maxHeartbeats 400000 in
theorem spec_TopsOf_yes (l c : Nat) (w : World) (hl : 1 ≤ l) (hc : 1 ≤ c) (h : l * c ≤ 12) (hv : Hid (∀ w : World, Calls Try.prog 9 #[.int .i64 ((l * c : Nat) : Int), .int .i64 l] w fun e w' => e = .returned (.bool true) ∧ w = w')) :
    Calls Try.prog 13 #[.int .i64 ((l * c : Nat) : Int), .int .i64 l] w fun e w' => e = .returned (.int .i64 ((Bw.tops l c : Nat) : Int)) ∧ w = w' := by
  have hl12 : l ≤ 12 := Nat.le_trans (Nat.le_mul_of_pos_right l hc) h
  have HB := Lib.hid (fun j hj => Bw.tops_bd (j := j) hl h hj)
  have hle : ∀ j, j ≤ c → j * l ≤ l * c := fun j hj => by rw [Nat.mul_comm l]; exact Nat.mul_le_mul_right l hj
  obtain ⟨n, hn⟩ : ∃ n, l * c = n := ⟨_, rfl⟩
  rw [hn] at hv h hle ⊢
  have HN := Lib.hid hn
  have HLE := Lib.hid hle
  clear hn hle
  go_enter Try.func13, Try.ntmps13
  go_wp2_with (go_at_call 9; ((with_reducible refine (hv.out _).mono ?_); rintro e w' ⟨rfl, rfl⟩))
  go_loop [5, 6] (fun t i => ∃ j k : Nat, j ≤ c ∧ Hid (k = l - 1 + j * l) ∧ k ≤ 24 ∧ i = .int .i64 k ∧ t = .int .i64 ((Bw.tops l j : Nat) : Int)) (fun _ i => 24 - (intOf i).toNat)
  case atStart => exact ⟨0, l - 1, by omega, by unfold Hid; omega, by omega, by go_num, rfl⟩
  case round =>
    obtain ⟨j, k, hj, hk, hk24, rfl, rfl⟩ := hrel
    by_cases hlt : j < c
    · have h1 := HLE.out (j + 1) (by omega)
      have hkn : k < n := by have := hk.out; rw [Nat.add_mul, Nat.one_mul] at h1; omega
      have hT := HB.out (j + 1) (by omega)
      have HT := Lib.hid hT
      clear hT h1
      go_wp2_with fail
      go_round
      case rel => exact ⟨j + 1, k + l, by omega, by have := hk.out; unfold Hid; rw [Nat.add_mul]; omega, by omega, by go_num, by rw [Bw.tops_add l j k hk.out HT.out]⟩
      case measure => simp [intOf]; omega
    · obtain rfl : j = c := by omega
      have hkn : ¬ k < n := by have := hk.out; have := HN.out; rw [Nat.mul_comm] at this; omega
      go_wp2_with fail
      go_ret
      exact ⟨rfl, rfl⟩

set_option maxHeartbeats 400000 in
theorem impl_TopsOf_yes (l c : Nat) (w : World) (hl : 1 ≤ l) (hc : 1 ≤ c) (h : l * c ≤ 12) (hv : Hid (∀ w : World, Calls Try.prog 10 #[.int .i64 ((l * c : Nat) : Int), .int .i64 l] w fun e w' => e = .returned (.bool true) ∧ w = w')) :
    Calls Try.prog 14 #[.int .i64 ((l * c : Nat) : Int), .int .i64 l] w fun e w' => e = .returned (.int .i64 ((Bw.tops l c : Nat) : Int)) ∧ Below w.heap.size w w' := by
  have hl12 : l ≤ 12 := Nat.le_trans (Nat.le_mul_of_pos_right l hc) h
  have hc12 : c ≤ 12 := Nat.le_trans (Nat.le_mul_of_pos_left c hl) h
  have HB := Lib.hid (fun j hj => Bw.tops_bd (j := j) hl h hj)
  have hle : ∀ j, j ≤ c → j * l ≤ l * c := fun j hj => by rw [Nat.mul_comm l]; exact Nat.mul_le_mul_right l hj
  have hdiv : ((l * c : Nat) : Int) / (l : Int) = (c : Int) := by
    rw [Int.natCast_mul, Int.mul_ediv_cancel_left _ (by omega)]
  obtain ⟨n, hn⟩ : ∃ n, l * c = n := ⟨_, rfl⟩
  rw [hn] at hv h hdiv hle ⊢
  obtain ⟨m, hm⟩ : ∃ m, l = m + 1 := ⟨l - 1, by omega⟩
  have em : (l : Int) - 1 = (m : Int) := by omega
  have hm11 : m ≤ 11 := by omega
  have HC : Hid (∀ w : World, Calls Try.prog 25 #[.int .i64 l, .int .i64 ((2 ^ m : Nat) : Int)] w fun e w' => e = .returned (.int .i64 ((2 ^ m : Nat) : Int)) ∧ w = w') := fun w => by
    have t := cut_any l ((2 ^ m : Nat) : Int) w (by omega)
    have hlt : 2 ^ m < 2 ^ l := Nat.pow_lt_pow_right (by omega) (by omega)
    rw [Int.emod_eq_of_lt (Int.natCast_nonneg _) (Int.ofNat_lt.2 hlt)] at t
    exact t
  have HP := Lib.hid (fun w : World => wpower_any m w (by omega))
  have hpb := wbd (show m ≤ 12 by omega)
  have HO := Lib.hid (fun j s (hs : j * l = s) h => Bw.tops_ori l j m s hl hm hs h)
  obtain ⟨p, hp⟩ : ∃ p, 2 ^ m = p := ⟨_, rfl⟩
  rw [hp] at HC HP hpb HO
  have HN := Lib.hid hn
  have HLE := Lib.hid hle
  clear hn hle hm hp
  go_enter Try.func14, Try.ntmps14
  go_wp2_with (first | (go_at_call 10; ((with_reducible refine (hv.out _).mono ?_); rintro e w' ⟨rfl, rfl⟩)) | go_in)
  go_loop [7, 12] (fun t i => ∃ j : Nat, j ≤ c ∧ i = .int .i64 j ∧ t = .int .i64 ((Bw.tops l j : Nat) : Int)) (fun _ i => c - (intOf i).toNat)
  case atStart => exact ⟨0, by omega, rfl, rfl⟩
  case round =>
    obtain ⟨j, hj, rfl, rfl⟩ := hrel
    by_cases hlt : j < c
    · have h1 := HLE.out j (by omega)
      obtain ⟨s, hs⟩ : ∃ s, j * l = s := ⟨_, rfl⟩
      have es : (j : Int) * (l : Int) = (s : Int) := by rw [← hs]; simp
      rw [hs] at h1
      have hs12 : s ≤ 12 := by omega
      have hT := HB.out (j + 1) (by omega)
      have ho := HO.out j s hs hT
      have HT := Lib.hid ho
      clear hT h1 hs ho
      go_wp2_with (first | (go_at_call 28; ((with_reducible refine (HP.out _).mono ?_); rintro e w' ⟨rfl, rfl⟩)) | (go_at_call 25; ((with_reducible refine (HC.out _).mono ?_); rintro e w' ⟨rfl, rfl⟩)) | go_in)
      go_round
      case rel => exact ⟨j + 1, by omega, by go_num, by rw [HT.out]⟩
      case measure => simp [intOf]; omega
    · obtain rfl : j = c := by omega
      go_wp2_with fail
      go_ret
      exact ⟨rfl, (Below.refl _ _).alloc (Nat.le_refl _) _⟩

theorem spec_TopsOf_no (n l : Int) (w : World) (hv : Hid (∀ w : World, Calls Try.prog 9 #[.int .i64 n, .int .i64 l] w fun e w' => e = .returned (.bool false) ∧ w = w')) :
    Calls Try.prog 13 #[.int .i64 n, .int .i64 l] w fun e w' => e = .returned (.int .i64 (-1)) ∧ w = w' := by
  go_enter Try.func13, Try.ntmps13
  go_wp2_with (go_at_call 9; ((with_reducible refine (hv.out _).mono ?_); rintro e w' ⟨rfl, rfl⟩))
  go_ret
  exact ⟨rfl, rfl⟩

theorem impl_TopsOf_no (n l : Int) (w : World) (hv : Hid (∀ w : World, Calls Try.prog 10 #[.int .i64 n, .int .i64 l] w fun e w' => e = .returned (.bool false) ∧ w = w')) :
    Calls Try.prog 14 #[.int .i64 n, .int .i64 l] w fun e w' => e = .returned (.int .i64 (-1)) ∧ Below w.heap.size w w' := by
  go_enter Try.func14, Try.ntmps14
  go_wp2_with (go_at_call 10; ((with_reducible refine (hv.out _).mono ?_); rintro e w' ⟨rfl, rfl⟩))
  go_ret
  exact ⟨rfl, (Below.refl _ _).alloc (Nat.le_refl _) _⟩

theorem law_FnExactTopsOf (n : Int) (_ : (Lit.int .i64 n).wf = true) (l : Int) (_ : (Lit.int .i64 l).wf = true) (w : World) :
    Calls Try.prog 5 #[.int .i64 n, .int .i64 l] w fun e w' => e = .returned (.bool true) ∧ Below w.heap.size w w' := by
  by_cases h : (1 ≤ n ∧ n ≤ 12) ∧ (1 ≤ l ∧ l ≤ n) ∧ n % l = 0
  · have HS := Lib.hid (fun w : World => spec_LanesValid_any n l w true ⟨fun _ => h, fun _ => rfl⟩)
    have HI := Lib.hid (fun w : World => impl_LanesValid_any n l w true ⟨fun _ => h, fun _ => rfl⟩)
    obtain ⟨⟨n0, n1⟩, ⟨l0, l1⟩, hd⟩ := h
    obtain ⟨c, rfl⟩ := Int.dvd_of_emod_eq_zero hd
    obtain ⟨l, rfl⟩ := Int.eq_ofNat_of_zero_le (show 0 ≤ l by omega)
    have hc0 : 0 < c := by
      rcases Int.lt_or_le 0 c with h | h
      · exact h
      · have := Int.mul_nonpos_of_nonneg_of_nonpos (Int.natCast_nonneg l) h; omega
    obtain ⟨c, rfl⟩ := Int.eq_ofNat_of_zero_le (show 0 ≤ c by omega)
    rw [← Int.natCast_mul] at HS HI n0 n1 ⊢
    have T1 := Lib.hid (fun w : World => spec_TopsOf_yes l c w (by omega) (by omega) (by omega) HS)
    have T2 := Lib.hid (fun w : World => impl_TopsOf_yes l c w (by omega) (by omega) (by omega) HI)
    obtain ⟨n, hn⟩ : ∃ n, l * c = n := ⟨_, rfl⟩
    rw [hn] at T1 T2 ⊢
    clear hd l1 n0 n1 HS HI hn
    go_enter Try.func5, Try.ntmps5
    go_wp2_with (first | (go_at_call 13; ((with_reducible refine (T1.out _).mono ?_); rintro e w' ⟨rfl, rfl⟩)) | (go_at_call 14; ((with_reducible refine (T2.out _).mono ?_); rintro e w' ⟨rfl, hbel⟩)))
    go_ret
    exact ⟨rfl, hbel⟩
  · have HS := Lib.hid (fun w : World => spec_LanesValid_any n l w false ⟨(fun h => by cases h), fun h2 => absurd h2 h⟩)
    have HI := Lib.hid (fun w : World => impl_LanesValid_any n l w false ⟨(fun h => by cases h), fun h2 => absurd h2 h⟩)
    clear h
    go_enter Try.func5, Try.ntmps5
    go_wp2_with (first | (go_at_call 13; ((with_reducible refine (spec_TopsOf_no n l _ HS).mono ?_); rintro e w' ⟨rfl, rfl⟩)) | (go_at_call 14; ((with_reducible refine (impl_TopsOf_no n l _ HI).mono ?_); rintro e w' ⟨rfl, hbel⟩)))
    go_ret
    exact ⟨rfl, hbel⟩

end Go.Proofs.Ytknchojfhpchiaa
