/- The walks of the exact laws on products, divisions, divisors, primes, registers, fields. -/
import Derived.Test.YtdnjmnlieilpiacPoly6

namespace Go.Proofs.Ytdnjmnlieilpiac
open Go.RowKit
set_option linter.unusedVariables false

theorem fieldOk_nat {a b p : Int} (h : FieldOk a b p) : ∃ x y q : Nat, a = x ∧ b = y ∧ p = q ∧ q ≤ 511 ∧ Bw.Prime q ∧ x < 2 ^ q.log2 ∧ y < 2 ^ q.log2 := by
  obtain ⟨⟨p0, p1, hp⟩, ⟨a0, a1⟩, b0, b1⟩ := h
  obtain ⟨q, rfl⟩ := Int.eq_ofNat_of_zero_le p0
  obtain ⟨x, rfl⟩ := Int.eq_ofNat_of_zero_le a0
  obtain ⟨y, rfl⟩ := Int.eq_ofNat_of_zero_le b0
  rw [Int.toNat_natCast] at hp a1 b1
  exact ⟨x, y, q, rfl, rfl, rfl, by omega, hp, by omega, by omega⟩

theorem inverseOk_nat {a p : Int} (h : InverseOk a p) : ∃ x q : Nat, a = x ∧ p = q ∧ q ≤ 511 ∧ Bw.Prime q ∧ 0 < x ∧ x < 2 ^ q.log2 := by
  obtain ⟨⟨p0, p1, hp⟩, a0, a1⟩ := h
  obtain ⟨q, rfl⟩ := Int.eq_ofNat_of_zero_le p0
  obtain ⟨x, rfl⟩ := Int.eq_ofNat_of_zero_le (show 0 ≤ a by omega)
  rw [Int.toNat_natCast] at hp a1
  exact ⟨x, q, rfl, rfl, by omega, hp, by omega, by omega⟩

theorem law_FnExactFieldTimes (a : Int) (_ : (Lit.int .i64 a).wf = true) (b : Int) (_ : (Lit.int .i64 b).wf = true) (p : Int) (_ : (Lit.int .i64 p).wf = true) (w : World) :
    Calls Try.prog 7 #[.int .i64 a, .int .i64 b, .int .i64 p] w fun e w' => e = .returned (.bool true) ∧ Below w.heap.size w w' := by
  by_cases h : FieldOk a b p
  · obtain ⟨x, y, q, rfl, rfl, rfl, h1, hp, ha, hb⟩ := fieldOk_nat h
    have HS := Lib.hid (fun w : World => spec_FieldTimes_yes x y q w h1 hp ha hb)
    have HI := Lib.hid (fun w : World => impl_FieldTimes_yes x y q w h1 hp ha hb)
    clear h hp ha hb
    go_enter Try.func7, Try.ntmps7
    go_wp2_with (first | (go_at_call 24; ((with_reducible refine (HS.out _).mono ?_); rintro e w' ⟨rfl, rfl⟩)) | (go_at_call 25; ((with_reducible refine (HI.out _).mono ?_); rintro e w' ⟨rfl, rfl⟩)))
    go_ret
    exact ⟨rfl, Below.refl _ _⟩
  · have H := Lib.hid h
    clear h
    go_enter Try.func7, Try.ntmps7
    go_wp2_with (first | (go_at_call 24; ((with_reducible refine (spec_FieldTimes_no a b p _ H).mono ?_); rintro e w' ⟨rfl, rfl⟩)) | (go_at_call 25; ((with_reducible refine (impl_FieldTimes_no a b p _ H).mono ?_); rintro e w' ⟨rfl, rfl⟩)))
    go_ret
    exact ⟨rfl, Below.refl _ _⟩

theorem law_FnExactFieldInverse (a : Int) (_ : (Lit.int .i64 a).wf = true) (p : Int) (_ : (Lit.int .i64 p).wf = true) (w : World) :
    Calls Try.prog 8 #[.int .i64 a, .int .i64 p] w fun e w' => e = .returned (.bool true) ∧ Below w.heap.size w w' := by
  by_cases h : InverseOk a p
  · obtain ⟨x, q, rfl, rfl, h1, hp, h0, ha⟩ := inverseOk_nat h
    have HS := Lib.hid (fun w : World => spec_FieldInverse_yes x q w h1 hp h0 ha)
    have HI := Lib.hid (fun w : World => impl_FieldInverse_yes x q w h1 hp h0 ha)
    clear h hp ha
    go_enter Try.func8, Try.ntmps8
    go_wp2_with (first | (go_at_call 26; ((with_reducible refine (HS.out _).mono ?_); rintro e w' ⟨rfl, rfl⟩)) | (go_at_call 27; ((with_reducible refine (HI.out _).mono ?_); rintro e w' ⟨rfl, rfl⟩)))
    go_ret
    exact ⟨rfl, Below.refl _ _⟩
  · have H := Lib.hid h
    clear h
    go_enter Try.func8, Try.ntmps8
    go_wp2_with (first | (go_at_call 26; ((with_reducible refine (spec_FieldInverse_no a p _ H).mono ?_); rintro e w' ⟨rfl, rfl⟩)) | (go_at_call 27; ((with_reducible refine (impl_FieldInverse_no a p _ H).mono ?_); rintro e w' ⟨rfl, rfl⟩)))
    go_ret
    exact ⟨rfl, Below.refl _ _⟩

end Go.Proofs.Ytdnjmnlieilpiac
