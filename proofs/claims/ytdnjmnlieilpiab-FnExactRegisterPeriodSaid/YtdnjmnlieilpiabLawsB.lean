/- The walks of the exact laws on products, divisions, divisors, primes, registers, fields. -/
import Derived.Test.YtdnjmnlieilpiabPoly6

namespace Go.Proofs.Ytdnjmnlieilpiab
open Go.RowKit
set_option linter.unusedVariables false

theorem law_FnExactPolyDivide (a : Int) (_ : (Lit.int .i64 a).wf = true) (b : Int) (_ : (Lit.int .i64 b).wf = true) (w : World) :
    Calls Try.prog 3 #[.int .i64 a, .int .i64 b] w fun e w' => e = .returned (.bool true) ∧ Below w.heap.size w w' := by
  by_cases h : (0 ≤ a ∧ a ≤ 65535) ∧ (0 < b ∧ b ≤ 65535)
  · obtain ⟨⟨a0, a1⟩, b0, b1⟩ := h
    obtain ⟨a, rfl⟩ := Int.eq_ofNat_of_zero_le a0
    obtain ⟨b, rfl⟩ := Int.eq_ofNat_of_zero_le (show 0 ≤ b by omega)
    go_enter Try.func3, Try.ntmps3
    go_wp2_with (first | (go_at_call 9; ((with_reducible refine (spec_PolyDivide_yes a b _ (by omega) (by omega) (by omega)).mono ?_); rintro e w' ⟨rfl, rfl⟩)) | (go_at_call 10; ((with_reducible refine (impl_PolyDivide_yes a b _ (by omega) (by omega) (by omega)).mono ?_); rintro e w' ⟨rfl, rfl⟩)))
    go_ret
    exact ⟨rfl, Below.refl _ _⟩
  · go_enter Try.func3, Try.ntmps3
    go_wp2_with (first | (go_at_call 9; ((with_reducible refine (spec_PolyDivide_no a b _ (by omega)).mono ?_); rintro e w' ⟨rfl, rfl⟩)) | (go_at_call 10; ((with_reducible refine (impl_PolyDivide_no a b _ (by omega)).mono ?_); rintro e w' ⟨rfl, rfl⟩)))
    go_ret
    exact ⟨rfl, Below.refl _ _⟩

theorem law_FnExactPolyCommon (a : Int) (_ : (Lit.int .i64 a).wf = true) (b : Int) (_ : (Lit.int .i64 b).wf = true) (w : World) :
    Calls Try.prog 4 #[.int .i64 a, .int .i64 b] w fun e w' => e = .returned (.bool true) ∧ Below w.heap.size w w' := by
  by_cases h : (0 ≤ a ∧ a ≤ 65535) ∧ (0 ≤ b ∧ b ≤ 65535)
  · obtain ⟨⟨a0, a1⟩, b0, b1⟩ := h
    obtain ⟨a, rfl⟩ := Int.eq_ofNat_of_zero_le a0
    obtain ⟨b, rfl⟩ := Int.eq_ofNat_of_zero_le b0
    go_enter Try.func4, Try.ntmps4
    go_wp2_with (first | (go_at_call 11; ((with_reducible refine (spec_PolyCommon_yes a b _ (by omega) (by omega)).mono ?_); rintro e w' ⟨rfl, rfl⟩)) | (go_at_call 12; ((with_reducible refine (impl_PolyCommon_yes a b _ (by omega) (by omega)).mono ?_); rintro e w' ⟨rfl, rfl⟩)))
    go_ret
    exact ⟨rfl, Below.refl _ _⟩
  · go_enter Try.func4, Try.ntmps4
    go_wp2_with (first | (go_at_call 11; ((with_reducible refine (spec_PolyCommon_no a b _ (by omega)).mono ?_); rintro e w' ⟨rfl, rfl⟩)) | (go_at_call 12; ((with_reducible refine (impl_PolyCommon_no a b _ (by omega)).mono ?_); rintro e w' ⟨rfl, rfl⟩)))
    go_ret
    exact ⟨rfl, Below.refl _ _⟩

theorem law_FnExactPolyPrime (p : Int) (_ : (Lit.int .i64 p).wf = true) (w : World) :
    Calls Try.prog 6 #[.int .i64 p] w fun e w' => e = .returned (.bool true) ∧ Below w.heap.size w w' := by
  by_cases h : 0 ≤ p ∧ p ≤ 511 ∧ Bw.Prime p.toNat
  · obtain ⟨p, rfl⟩ := Int.eq_ofNat_of_zero_le h.1
    have hp : Bw.Prime p := by simpa using h.2.2
    have h1 : p ≤ 511 := by omega
    have HP := Lib.hid hp
    clear h hp
    go_enter Try.func6, Try.ntmps6
    go_wp2_with (first | (go_at_call 15; ((with_reducible refine (spec_PolyPrime_yes p _ h1 HP).mono ?_); rintro e w' ⟨rfl, rfl⟩)) | (go_at_call 16; ((with_reducible refine (impl_PolyPrime_yes p _ h1 HP).mono ?_); rintro e w' ⟨rfl, rfl⟩)))
    go_ret
    exact ⟨rfl, Below.refl _ _⟩
  · have HP := Lib.hid h
    clear h
    go_enter Try.func6, Try.ntmps6
    go_wp2_with (first | (go_at_call 15; ((with_reducible refine (spec_PolyPrime_no p _ HP).mono ?_); rintro e w' ⟨rfl, rfl⟩)) | (go_at_call 16; ((with_reducible refine (impl_PolyPrime_no p _ HP).mono ?_); rintro e w' ⟨rfl, rfl⟩)))
    go_ret
    exact ⟨rfl, Below.refl _ _⟩

theorem law_FnExactRegisterNext (s : Int) (_ : (Lit.int .i64 s).wf = true) (p : Int) (_ : (Lit.int .i64 p).wf = true) (w : World) :
    Calls Try.prog 5 #[.int .i64 s, .int .i64 p] w fun e w' => e = .returned (.bool true) ∧ Below w.heap.size w w' := by
  by_cases h : (p < 2 ∨ 511 < p) ∨ (s < 0 ∨ ((2 ^ p.toNat.log2 : Nat) : Int) ≤ s)
  · have HS := Lib.hid (fun w : World => spec_RegisterNext_no s p w h)
    have HI := Lib.hid (fun w : World => impl_RegisterNext_no s p w h)
    clear h
    go_enter Try.func5, Try.ntmps5
    go_wp2_with (first | (go_at_call 13; ((with_reducible refine (HS.out _).mono ?_); rintro e w' ⟨rfl, rfl⟩)) | (go_at_call 14; ((with_reducible refine (HI.out _).mono ?_); rintro e w' ⟨rfl, rfl⟩)))
    go_ret
    exact ⟨rfl, Below.refl _ _⟩
  · obtain ⟨p, rfl⟩ := Int.eq_ofNat_of_zero_le (show 0 ≤ p by omega)
    obtain ⟨s, rfl⟩ := Int.eq_ofNat_of_zero_le (show 0 ≤ s by omega)
    rw [Int.toNat_natCast] at h
    have HS := Lib.hid (fun w : World => spec_RegisterNext_yes s p w (by omega) (by omega) (by omega))
    have HI := Lib.hid (fun w : World => impl_RegisterNext_yes s p w (by omega) (by omega) (by omega))
    clear h
    go_enter Try.func5, Try.ntmps5
    go_wp2_with (first | (go_at_call 13; ((with_reducible refine (HS.out _).mono ?_); rintro e w' ⟨rfl, rfl⟩)) | (go_at_call 14; ((with_reducible refine (HI.out _).mono ?_); rintro e w' ⟨rfl, rfl⟩)))
    go_ret
    exact ⟨rfl, Below.refl _ _⟩

theorem law_FnExactRegisterPeriod (p : Int) (_ : (Lit.int .i64 p).wf = true) (w : World) :
    Calls Try.prog 7 #[.int .i64 p] w fun e w' => e = .returned (.bool true) ∧ Below w.heap.size w w' := by
  by_cases h : p < 2 ∨ 511 < p
  · go_enter Try.func7, Try.ntmps7
    go_wp2_with (first | (go_at_call 17; ((with_reducible refine (spec_RegisterPeriod_no p _ h).mono ?_); rintro e w' ⟨rfl, rfl⟩)) | (go_at_call 18; ((with_reducible refine (impl_RegisterPeriod_no p _ h).mono ?_); rintro e w' ⟨rfl, rfl⟩)))
    go_ret
    exact ⟨rfl, Below.refl _ _⟩
  · obtain ⟨p, rfl⟩ := Int.eq_ofNat_of_zero_le (show 0 ≤ p by omega)
    have h0 : 2 ≤ p := by omega
    have h1 : p ≤ 511 := by omega
    clear h
    go_enter Try.func7, Try.ntmps7
    go_wp2_with (first | (go_at_call 17; ((with_reducible refine (spec_RegisterPeriod_yes p _ h0 h1).mono ?_); rintro e w' ⟨rfl, rfl⟩)) | (go_at_call 18; ((with_reducible refine (impl_RegisterPeriod_yes p _ h0 h1).mono ?_); rintro e w' ⟨rfl, rfl⟩)))
    go_ret
    exact ⟨rfl, Below.refl _ _⟩

theorem fieldOk_nat {a b p : Int} (h : FieldOk a b p) : ∃ x y q : Nat, a = x ∧ b = y ∧ p = q ∧ q ≤ 511 ∧ Bw.Prime q ∧ x < 2 ^ q.log2 ∧ y < 2 ^ q.log2 := by
  obtain ⟨⟨p0, p1, hp⟩, ⟨a0, a1⟩, b0, b1⟩ := h
  obtain ⟨q, rfl⟩ := Int.eq_ofNat_of_zero_le p0
  obtain ⟨x, rfl⟩ := Int.eq_ofNat_of_zero_le a0
  obtain ⟨y, rfl⟩ := Int.eq_ofNat_of_zero_le b0
  rw [Int.toNat_natCast] at hp a1 b1
  exact ⟨x, y, q, rfl, rfl, rfl, by omega, hp, by omega, by omega⟩

theorem inverseOk_nat {a p : Int} (h : InverseOk a p) : ∃ x q : Nat, a = x ∧ p = q ∧ q ≤ 511 ∧ Bw.Prime q ∧ 0 < x ∧ x < 2 ^ q.log2 := by
  obtain ⟨⟨p0, p1, hp⟩, a0, a1⟩ := h
  obtain ⟨q, rfl⟩ := Int.eq_ofNat_of_zero_le p0
  obtain ⟨x, rfl⟩ := Int.eq_ofNat_of_zero_le (show 0 ≤ a by omega)
  rw [Int.toNat_natCast] at hp a1
  exact ⟨x, q, rfl, rfl, by omega, hp, by omega, by omega⟩

end Go.Proofs.Ytdnjmnlieilpiab
