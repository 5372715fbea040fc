/- Contracts: masks, lanes, means, and words in the other order. -/
import Derived.Test.YtknchojfhpchiaaMWord
import Derived.Test.YtknchojfhpchiaaWord2

namespace Go.Proofs.Ytknchojfhpchiaa
open Go.RowKit
set_option linter.unusedVariables false

theorem quiet_eq {P : Program} {f : FuncId} {args : Array Value} {w : World} {n : Nat} {v : Value} (h : Calls P f args (w.drewN n) fun e w' => e = .returned v ∧ w.drewN n = w') :
    Calls P f args (w.drewN n) fun e w'' => e = .returned v ∧ ∃ m, w'' = w.drewN m := h.mono fun _ _ ⟨he, hm⟩ => ⟨he, n, hm.symm⟩

/-! LanesValid -/
theorem spec_LanesValid_any (n l : Int) (w : World) (r : Bool) (hr : Hid (r = true ↔ (1 ≤ n ∧ n ≤ 12) ∧ (1 ≤ l ∧ l ≤ n) ∧ n % l = 0)) :
    Calls Try.prog 9 #[.int .i64 n, .int .i64 l] w fun e w' => e = .returned (.bool r) ∧ w = w' := by
  by_cases hn : 1 ≤ n ∧ n ≤ 12
  · by_cases hl : 1 ≤ l ∧ l ≤ n
    · have hn0 := hn.1
      have hn1 := hn.2
      have hl0 := hl.1
      have hl1 := hl.2
      have hl2 : l ≠ 0 := by omega
      have ht : n.tmod l = n % l := Int.tmod_eq_emod_of_nonneg (by omega)
      obtain ⟨m, hm⟩ : ∃ m, n % l = m := ⟨_, rfl⟩
      rw [hm] at ht
      have HM := Lib.hid hm
      clear hm hn hl
      by_cases hm0 : m = 0
      · subst hm0
        have e : r = true := hr.out.2 ⟨⟨hn0, hn1⟩, ⟨hl0, hl1⟩, HM.out⟩
        subst e
        clear hr
        go_enter Try.func9, Try.ntmps9
        go_wp2_with (go_at_call 21; ((with_reducible refine (l1In_yes _ _ _ _ (by omega) (by omega)).mono ?_); rintro e w' ⟨rfl, rfl⟩))
        go_ret
        exact ⟨rfl, rfl⟩
      · have e : r = false := by
          cases r with
          | false => rfl
          | true => exact absurd (HM.out.symm.trans (hr.out.1 rfl).2.2) hm0
        subst e
        have hm1 : (m == 0) = false := by simpa using hm0
        clear hr hm0
        go_enter Try.func9, Try.ntmps9
        go_wp2_with (go_at_call 21; ((with_reducible refine (l1In_yes _ _ _ _ (by omega) (by omega)).mono ?_); rintro e w' ⟨rfl, rfl⟩))
        go_ret
        exact ⟨rfl, rfl⟩
    · have e : r = false := by
        cases r with
        | false => rfl
        | true => exact absurd (hr.out.1 rfl).2.1 hl
      subst e
      have hn0 := hn.1
      have hn1 := hn.2
      have hl2 : l < 1 ∨ n < l := by omega
      clear hr hl hn
      go_enter Try.func9, Try.ntmps9
      go_wp2_with (first | (go_at_call 21; ((with_reducible refine (l1In_yes n 1 12 _ hn0 hn1).mono ?_); rintro e w' ⟨rfl, rfl⟩)) | (go_at_call 21; ((with_reducible refine (l1In_no l 1 n _ hl2).mono ?_); rintro e w' ⟨rfl, rfl⟩)))
      go_ret
      exact ⟨rfl, rfl⟩
  · have e : r = false := by
      cases r with
      | false => rfl
      | true => exact absurd (hr.out.1 rfl).1 hn
    subst e
    have hn2 : n < 1 ∨ 12 < n := by omega
    clear hr hn
    go_enter Try.func9, Try.ntmps9
    go_wp2_with (go_at_call 21; ((with_reducible refine (l1In_no n 1 12 _ hn2).mono ?_); rintro e w' ⟨rfl, rfl⟩))
    go_ret
    exact ⟨rfl, rfl⟩

theorem impl_LanesValid_any (n l : Int) (w : World) (r : Bool) (hr : Hid (r = true ↔ (1 ≤ n ∧ n ≤ 12) ∧ (1 ≤ l ∧ l ≤ n) ∧ n % l = 0)) :
    Calls Try.prog 10 #[.int .i64 n, .int .i64 l] w fun e w' => e = .returned (.bool r) ∧ w = w' := by
  by_cases hn : 1 ≤ n ∧ n ≤ 12
  · by_cases hl : 1 ≤ l
    · have hn0 := hn.1
      have hn1 := hn.2
      have hl2 : l ≠ 0 := by omega
      have ht : n.tmod l = n % l := Int.tmod_eq_emod_of_nonneg (by omega)
      have hle : n % l = 0 → l ≤ n := fun h => by
        rcases Int.lt_or_le n l with h' | h'
        · rw [Int.emod_eq_of_lt (by omega) h'] at h; omega
        · exact h'
      obtain ⟨m, hm⟩ : ∃ m, n % l = m := ⟨_, rfl⟩
      rw [hm] at ht hle
      have HM := Lib.hid hm
      have HLE := Lib.hid hle
      clear hm hn hle
      by_cases hm0 : m = 0
      · subst hm0
        have e : r = true := hr.out.2 ⟨⟨hn0, hn1⟩, ⟨hl, HLE.out rfl⟩, HM.out⟩
        subst e
        clear hr
        go_enter Try.func10, Try.ntmps10
        go_wp2_with (go_at_call 22; ((with_reducible refine (isWidth_yes _ _ (by omega) (by omega)).mono ?_); rintro e w' ⟨rfl, rfl⟩))
        go_ret
        exact ⟨rfl, rfl⟩
      · have e : r = false := by
          cases r with
          | false => rfl
          | true => exact absurd (HM.out.symm.trans (hr.out.1 rfl).2.2) hm0
        subst e
        have hm1 : (m == 0) = false := by simpa using hm0
        clear hr hm0
        go_enter Try.func10, Try.ntmps10
        go_wp2_with (go_at_call 22; ((with_reducible refine (isWidth_yes _ _ (by omega) (by omega)).mono ?_); rintro e w' ⟨rfl, rfl⟩))
        go_ret
        exact ⟨rfl, rfl⟩
    · have e : r = false := by
        cases r with
        | false => rfl
        | true => exact absurd (hr.out.1 rfl).2.1.1 hl
      subst e
      have hn0 := hn.1
      have hn1 := hn.2
      have hl2 : l < 1 := by omega
      clear hr hl hn
      go_enter Try.func10, Try.ntmps10
      go_wp2_with (go_at_call 22; ((with_reducible refine (isWidth_yes _ _ (by omega) (by omega)).mono ?_); rintro e w' ⟨rfl, rfl⟩))
      go_ret
      exact ⟨rfl, rfl⟩
  · have e : r = false := by
      cases r with
      | false => rfl
      | true => exact absurd (hr.out.1 rfl).1 hn
    subst e
    have hn2 : n < 1 ∨ 12 < n := by omega
    clear hr hn
    go_enter Try.func10, Try.ntmps10
    go_wp2_with (go_at_call 22; ((with_reducible refine (isWidth_no _ _ hn2).mono ?_); rintro e w' ⟨rfl, rfl⟩))
    go_ret
    exact ⟨rfl, rfl⟩

/-! MaskOf -/
theorem spec_MaskOf_yes (n b : Nat) (w : World) (h0 : 1 ≤ n) (h1 : n ≤ 12) (hb : b ≤ 1) :
    Calls Try.prog 11 #[.int .i64 n, .int .i64 b] w fun e w' => e = .returned (.int .i64 ((-(b : Int)) % ((2 ^ n : Nat) : Int))) ∧ w = w' := by
  go_enter Try.func11, Try.ntmps11
  go_wp2_with (first | (go_at_call 21; ((with_reducible refine (l1In_yes _ _ _ _ (by omega) (by omega)).mono ?_); rintro e w' ⟨rfl, rfl⟩)) | (go_at_call 23; ((with_reducible refine (l1Mod_neg n b _ h0 h1 hb).mono ?_); rintro e w' ⟨rfl, rfl⟩)))
  go_ret
  exact ⟨rfl, rfl⟩

theorem impl_MaskOf_yes (n b : Nat) (w : World) (h0 : 1 ≤ n) (h1 : n ≤ 12) (hb : b ≤ 1) :
    Calls Try.prog 12 #[.int .i64 n, .int .i64 b] w fun e w' => e = .returned (.int .i64 ((-(b : Int)) % ((2 ^ n : Nat) : Int))) ∧ w = w' := by
  go_enter Try.func12, Try.ntmps12
  go_wp2_with (first | (go_at_call 22; ((with_reducible refine (isWidth_yes _ _ (by omega) (by omega)).mono ?_); rintro e w' ⟨rfl, rfl⟩)) | (go_at_call 24; ((with_reducible refine (isBit_mask_yes _ _ (by omega)).mono ?_); rintro e w' ⟨rfl, rfl⟩)) | (go_at_call 25; ((with_reducible refine (cut_any n _ _ (by omega)).mono ?_); rintro e w' ⟨rfl, rfl⟩)))
  go_ret
  exact ⟨rfl, rfl⟩

theorem spec_MaskOf_no (n b : Int) (w : World) (h : Hid (¬ ((1 ≤ n ∧ n ≤ 12) ∧ 0 ≤ b ∧ b ≤ 1))) :
    Calls Try.prog 11 #[.int .i64 n, .int .i64 b] w fun e w' => e = .returned (.int .i64 (-1)) ∧ w = w' := by
  by_cases hn : 1 ≤ n ∧ n ≤ 12
  · have hb : b < 0 ∨ 1 < b := by have := h.out; omega
    have hn0 := hn.1
    have hn1 := hn.2
    clear h hn
    go_enter Try.func11, Try.ntmps11
    go_wp2_with (first | (go_at_call 21; ((with_reducible refine (l1In_yes n 1 12 _ hn0 hn1).mono ?_); rintro e w' ⟨rfl, rfl⟩)) | (go_at_call 21; ((with_reducible refine (l1In_no b 0 1 _ hb).mono ?_); rintro e w' ⟨rfl, rfl⟩)))
    go_ret
    exact ⟨rfl, rfl⟩
  · have hn2 : n < 1 ∨ 12 < n := by omega
    clear h hn
    go_enter Try.func11, Try.ntmps11
    go_wp2_with (go_at_call 21; ((with_reducible refine (l1In_no n 1 12 _ hn2).mono ?_); rintro e w' ⟨rfl, rfl⟩))
    go_ret
    exact ⟨rfl, rfl⟩

theorem impl_MaskOf_no (n b : Int) (w : World) (h : Hid (¬ ((1 ≤ n ∧ n ≤ 12) ∧ 0 ≤ b ∧ b ≤ 1))) :
    Calls Try.prog 12 #[.int .i64 n, .int .i64 b] w fun e w' => e = .returned (.int .i64 (-1)) ∧ w = w' := by
  by_cases hn : 1 ≤ n ∧ n ≤ 12
  · have hb : b < 0 ∨ 1 < b := by have := h.out; omega
    have hn0 := hn.1
    have hn1 := hn.2
    clear h hn
    go_enter Try.func12, Try.ntmps12
    go_wp2_with (first | (go_at_call 22; ((with_reducible refine (isWidth_yes _ _ hn0 hn1).mono ?_); rintro e w' ⟨rfl, rfl⟩)) | (go_at_call 24; ((with_reducible refine (isBit_mask_no _ _ (by omega)).mono ?_); rintro e w' ⟨rfl, rfl⟩)))
    go_ret
    exact ⟨rfl, rfl⟩
  · have hn2 : n < 1 ∨ 12 < n := by omega
    clear h hn
    go_enter Try.func12, Try.ntmps12
    go_wp2_with (go_at_call 22; ((with_reducible refine (isWidth_no _ _ hn2).mono ?_); rintro e w' ⟨rfl, rfl⟩))
    go_ret
    exact ⟨rfl, rfl⟩

/-! means -/
theorem spec_MeanDown_yes (n a b : Nat) (w : World) (ha : Hid (WordOk n a)) (hb : Hid (WordOk n b)) :
    Calls Try.prog 17 #[.int .i64 n, .int .i64 a, .int .i64 b] w fun e w' => e = .returned (.int .i64 (((a + b) / 2 : Nat) : Int)) ∧ w = w' := by
  have a1 := word_bd ha.out
  have b1 := word_bd hb.out
  have hm := Bw.mean_down a b
  have hx : a ^^^ b < 4096 := Nat.xor_lt_two_pow (n := 12) (by omega) (by omega)
  have hl : a &&& b ≤ a := Nat.and_le_left
  obtain ⟨x, hxx⟩ : ∃ x, a ^^^ b = x := ⟨_, rfl⟩
  obtain ⟨y, hyy⟩ : ∃ y, a &&& b = y := ⟨_, rfl⟩
  have HX := Lib.hid (fun w : World => hxx ▸ l1Xor_any a b w (by omega) (by omega))
  have HY := Lib.hid (fun w : World => hyy ▸ l1And_any a b w (by omega) (by omega))
  rw [hxx] at hm hx
  rw [hyy] at hm hl
  have HM := Lib.hid hm
  clear hm hxx hyy
  go_enter Try.func17, Try.ntmps17
  go_wp2_with (first | (go_at_call 34; ((with_reducible refine (l1Both_yes n a b _ ha hb).mono ?_); rintro e w' ⟨rfl, rfl⟩)) | (go_at_call 35; ((with_reducible refine (HY.out _).mono ?_); rintro e w' ⟨rfl, rfl⟩)) | (go_at_call 36; ((with_reducible refine (HX.out _).mono ?_); rintro e w' ⟨rfl, rfl⟩)))
  go_ret
  exact ⟨ret_int (by rw [HM.out]; omega), rfl⟩

theorem impl_MeanDown_yes (n a b : Nat) (w : World) (ha : Hid (WordOk n a)) (hb : Hid (WordOk n b)) :
    Calls Try.prog 18 #[.int .i64 n, .int .i64 a, .int .i64 b] w fun e w' => e = .returned (.int .i64 (((a + b) / 2 : Nat) : Int)) ∧ Below w.heap.size w w' := by
  have hw := ha.out.1
  have a1 := word_bd ha.out
  have b1 := word_bd hb.out
  have hc : (((a : Int) + b) / 2) % ((2 ^ n : Nat) : Int) = (((a + b) / 2 : Nat) : Int) := by
    have h1 := ha.out.2.2
    have h2 := hb.out.2.2
    rw [Int.toNat_natCast] at h1 h2
    rw [show ((a : Int) + b) / 2 = (((a + b) / 2 : Nat) : Int) by omega, Int.emod_eq_of_lt (by omega) (by omega)]
  have HC := Lib.hid hc
  clear hc
  go_enter Try.func18, Try.ntmps18
  go_wp2_with (first | (go_at_call 43; ((with_reducible refine (allValid_yes n a b _ _ hw (two_cells w _ _ _).1 (two_cells w _ _ _).2 ha hb).mono ?_); rintro e w' ⟨rfl, rfl⟩)) | (go_at_call 25; ((with_reducible refine (cut_any n _ _ (by omega)).mono ?_); rintro e w' ⟨rfl, rfl⟩)) | go_in)
  go_ret
  exact ⟨ret_int HC.out, (Below.refl _ _).alloc (Nat.le_refl _) _⟩

theorem spec_MeanDown_no (n a b : Int) (w : World) (h : Hid (¬ WordOk n a ∨ (WordOk n a ∧ ¬ WordOk n b))) :
    Calls Try.prog 17 #[.int .i64 n, .int .i64 a, .int .i64 b] w fun e w' => e = .returned (.int .i64 (-1)) ∧ w = w' := by
  go_enter Try.func17, Try.ntmps17
  go_wp2_with (go_at_call 34; ((with_reducible refine (l1Both_no n a b _ h).mono ?_); rintro e w' ⟨rfl, rfl⟩))
  go_ret
  exact ⟨rfl, rfl⟩

theorem impl_MeanDown_no (n a b : Int) (w : World) (h : Hid (¬ WordOk n a ∨ (WordOk n a ∧ ¬ WordOk n b))) :
    Calls Try.prog 18 #[.int .i64 n, .int .i64 a, .int .i64 b] w fun e w' => e = .returned (.int .i64 (-1)) ∧ Below w.heap.size w w' := by
  go_enter Try.func18, Try.ntmps18
  go_wp2_with (first | (go_at_call 43; ((with_reducible refine (allValid_no n a b _ _ (two_cells w _ _ _).1 (two_cells w _ _ _).2 h).mono ?_); rintro e w' ⟨rfl, rfl⟩)) | go_in)
  go_ret
  exact ⟨rfl, (Below.refl _ _).alloc (Nat.le_refl _) _⟩

end Go.Proofs.Ytknchojfhpchiaa
