/- The walks of the exact laws on products, divisions, divisors, primes, registers, fields. -/
import Derived.Test.YtdnjmnlieilpiaaPoly6

namespace Go.Proofs.Ytdnjmnlieilpiaa
open Go.RowKit
set_option linter.unusedVariables false

theorem law_FnExactPolyTimes (a : Int) (_ : (Lit.int .i64 a).wf = true) (b : Int) (_ : (Lit.int .i64 b).wf = true) (w : World) :
    Calls Try.prog 7 #[.int .i64 a, .int .i64 b] w fun e w' => e = .returned (.bool true) ∧ Below w.heap.size w w' := by
  by_cases h : (0 ≤ a ∧ a ≤ 65535) ∧ (0 ≤ b ∧ b ≤ 65535)
  · obtain ⟨⟨a0, a1⟩, b0, b1⟩ := h
    obtain ⟨a, rfl⟩ := Int.eq_ofNat_of_zero_le a0
    obtain ⟨b, rfl⟩ := Int.eq_ofNat_of_zero_le b0
    by_cases hs : Bw.dg a + Bw.dg b ≤ 15
    · have hm := Bw.mul_small hs
      go_enter Try.func7, Try.ntmps7
      go_wp2_with (first | (go_at_call 20; ((with_reducible refine (spec_PolyTimes_yes a b _ (by omega) (by omega) hs).mono ?_); rintro e w' ⟨rfl, rfl⟩)) | (go_at_call 21; ((with_reducible refine (impl_PolyTimes_yes a b _ (by omega) (by omega) hm).mono ?_); rintro e w' ⟨rfl, rfl⟩)))
      go_ret
      exact ⟨rfl, Below.refl _ _⟩
    · have hs2 : 15 < Bw.dg a + Bw.dg b := by omega
      have hm := (Bw.mul_big (by omega) (by omega) hs2).1
      go_enter Try.func7, Try.ntmps7
      go_wp2_with (first | (go_at_call 20; ((with_reducible refine (spec_PolyTimes_big a b _ (by omega) (by omega) hs2).mono ?_); rintro e w' ⟨rfl, rfl⟩)) | (go_at_call 21; ((with_reducible refine (impl_PolyTimes_big a b _ (by omega) (by omega) hm).mono ?_); rintro e w' ⟨rfl, rfl⟩)))
      go_ret
      exact ⟨rfl, Below.refl _ _⟩
  · go_enter Try.func7, Try.ntmps7
    go_wp2_with (first | (go_at_call 20; ((with_reducible refine (spec_PolyTimes_no a b _ (by omega)).mono ?_); rintro e w' ⟨rfl, rfl⟩)) | (go_at_call 21; ((with_reducible refine (impl_PolyTimes_no a b _ (by omega)).mono ?_); rintro e w' ⟨rfl, rfl⟩)))
    go_ret
    exact ⟨rfl, Below.refl _ _⟩

theorem fieldOk_nat {a b p : Int} (h : FieldOk a b p) : ∃ x y q : Nat, a = x ∧ b = y ∧ p = q ∧ q ≤ 511 ∧ Bw.Prime q ∧ x < 2 ^ q.log2 ∧ y < 2 ^ q.log2 := by
  obtain ⟨⟨p0, p1, hp⟩, ⟨a0, a1⟩, b0, b1⟩ := h
  obtain ⟨q, rfl⟩ := Int.eq_ofNat_of_zero_le p0
  obtain ⟨x, rfl⟩ := Int.eq_ofNat_of_zero_le a0
  obtain ⟨y, rfl⟩ := Int.eq_ofNat_of_zero_le b0
  rw [Int.toNat_natCast] at hp a1 b1
  exact ⟨x, y, q, rfl, rfl, rfl, by omega, hp, by omega, by omega⟩

theorem inverseOk_nat {a p : Int} (h : InverseOk a p) : ∃ x q : Nat, a = x ∧ p = q ∧ q ≤ 511 ∧ Bw.Prime q ∧ 0 < x ∧ x < 2 ^ q.log2 := by
  obtain ⟨⟨p0, p1, hp⟩, a0, a1⟩ := h
  obtain ⟨q, rfl⟩ := Int.eq_ofNat_of_zero_le p0
  obtain ⟨x, rfl⟩ := Int.eq_ofNat_of_zero_le (show 0 ≤ a by omega)
  rw [Int.toNat_natCast] at hp a1
  exact ⟨x, q, rfl, rfl, by omega, hp, by omega, by omega⟩

end Go.Proofs.Ytdnjmnlieilpiaa
