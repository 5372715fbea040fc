/- The walks of the laws on masks, lanes and means. -/
import Derived.Test.YtknchojfhpchiaaMFnA

namespace Go.Proofs.Ytknchojfhpchiaa
open Go.RowKit
set_option linter.unusedVariables false

theorem law_FnExactLanesValid (a : Int) (_ : (Lit.int .i64 a).wf = true) (b : Int) (_ : (Lit.int .i64 b).wf = true) (w : World) :
    Calls Try.prog 3 #[.int .i64 a, .int .i64 b] w fun e w' => e = .returned (.bool true) ∧ Below w.heap.size w w' := by
  obtain ⟨r, hr⟩ : ∃ r : Bool, r = true ↔ (1 ≤ a ∧ a ≤ 12) ∧ (1 ≤ b ∧ b ≤ a) ∧ a % b = 0 := ⟨decide ((1 ≤ a ∧ a ≤ 12) ∧ (1 ≤ b ∧ b ≤ a) ∧ a % b = 0), by simp⟩
  have HR := Lib.hid hr
  clear hr
  go_enter Try.func3, Try.ntmps3
  go_wp2_with (first | (go_at_call 9; ((with_reducible refine (spec_LanesValid_any a b _ r HR).mono ?_); rintro e w' ⟨rfl, rfl⟩)) | (go_at_call 10; ((with_reducible refine (impl_LanesValid_any a b _ r HR).mono ?_); rintro e w' ⟨rfl, rfl⟩)))
  go_ret
  exact ⟨rfl, Below.refl _ _⟩

theorem law_FnExactMaskOf (a : Int) (_ : (Lit.int .i64 a).wf = true) (b : Int) (_ : (Lit.int .i64 b).wf = true) (w : World) :
    Calls Try.prog 4 #[.int .i64 a, .int .i64 b] w fun e w' => e = .returned (.bool true) ∧ Below w.heap.size w w' := by
  by_cases h : (1 ≤ a ∧ a ≤ 12) ∧ 0 ≤ b ∧ b ≤ 1
  · obtain ⟨⟨a0, a1⟩, b0, b1⟩ := h
    obtain ⟨a, rfl⟩ := Int.eq_ofNat_of_zero_le (show 0 ≤ a by omega)
    obtain ⟨b, rfl⟩ := Int.eq_ofNat_of_zero_le b0
    obtain ⟨m, hm⟩ : ∃ m, (-(b : Int)) % ((2 ^ a : Nat) : Int) = m := ⟨_, rfl⟩
    have HS := Lib.hid (fun w : World => hm ▸ spec_MaskOf_yes a b w (by omega) (by omega) (by omega))
    have HI := Lib.hid (fun w : World => hm ▸ impl_MaskOf_yes a b w (by omega) (by omega) (by omega))
    clear hm
    go_enter Try.func4, Try.ntmps4
    go_wp2_with (first | (go_at_call 11; ((with_reducible refine (HS.out _).mono ?_); rintro e w' ⟨rfl, rfl⟩)) | (go_at_call 12; ((with_reducible refine (HI.out _).mono ?_); rintro e w' ⟨rfl, rfl⟩)))
    go_ret
    exact ⟨rfl, Below.refl _ _⟩
  · have H := Lib.hid h
    clear h
    go_enter Try.func4, Try.ntmps4
    go_wp2_with (first | (go_at_call 11; ((with_reducible refine (spec_MaskOf_no a b _ H).mono ?_); rintro e w' ⟨rfl, rfl⟩)) | (go_at_call 12; ((with_reducible refine (impl_MaskOf_no a b _ H).mono ?_); rintro e w' ⟨rfl, rfl⟩)))
    go_ret
    exact ⟨rfl, Below.refl _ _⟩

/-- two words, or not -/
theorem two_words (n a b : Int) : (Hid (WordOk n a) ∧ Hid (WordOk n b)) ∨ Hid (¬ WordOk n a ∨ (WordOk n a ∧ ¬ WordOk n b)) := by
  by_cases ha : WordOk n a
  · by_cases hb : WordOk n b
    · exact .inl ⟨ha, hb⟩
    · exact .inr (.inr ⟨ha, hb⟩)
  · exact .inr (.inl ha)

theorem word_nat {n a : Int} (h : WordOk n a) : ∃ m x : Nat, n = m ∧ a = x := by
  obtain ⟨⟨h0, _⟩, h2, _⟩ := h
  exact ⟨n.toNat, a.toNat, by omega, by omega⟩

theorem law_FnExactMeanDown (n : Int) (_ : (Lit.int .i64 n).wf = true) (a : Int) (_ : (Lit.int .i64 a).wf = true) (b : Int) (_ : (Lit.int .i64 b).wf = true) (w : World) :
    Calls Try.prog 7 #[.int .i64 n, .int .i64 a, .int .i64 b] w fun e w' => e = .returned (.bool true) ∧ Below w.heap.size w w' := by
  rcases two_words n a b with ⟨ha, hb⟩ | h
  · obtain ⟨n, a, rfl, rfl⟩ := word_nat ha.out
    obtain ⟨b, rfl⟩ := Int.eq_ofNat_of_zero_le hb.out.2.1
    go_enter Try.func7, Try.ntmps7
    go_wp2_with (first | (go_at_call 17; ((with_reducible refine (spec_MeanDown_yes n a b _ ha hb).mono ?_); rintro e w' ⟨rfl, rfl⟩)) | (go_at_call 18; ((with_reducible refine (impl_MeanDown_yes n a b _ ha hb).mono ?_); rintro e w' ⟨rfl, hbel⟩)))
    go_ret
    exact ⟨rfl, hbel⟩
  · go_enter Try.func7, Try.ntmps7
    go_wp2_with (first | (go_at_call 17; ((with_reducible refine (spec_MeanDown_no n a b _ h).mono ?_); rintro e w' ⟨rfl, rfl⟩)) | (go_at_call 18; ((with_reducible refine (impl_MeanDown_no n a b _ h).mono ?_); rintro e w' ⟨rfl, hbel⟩)))
    go_ret
    exact ⟨rfl, hbel⟩

end Go.Proofs.Ytknchojfhpchiaa
