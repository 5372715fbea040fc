/- The walks of the laws on masks, lanes and means. -/
import Derived.Test.YtknchojfhpchiabMFnA

namespace Go.Proofs.Ytknchojfhpchiab
open Go.RowKit
set_option linter.unusedVariables false

/-- two words, or not -/
theorem two_words (n a b : Int) : (Hid (WordOk n a) ∧ Hid (WordOk n b)) ∨ Hid (¬ WordOk n a ∨ (WordOk n a ∧ ¬ WordOk n b)) := by
  by_cases ha : WordOk n a
  · by_cases hb : WordOk n b
    · exact .inl ⟨ha, hb⟩
    · exact .inr (.inr ⟨ha, hb⟩)
  · exact .inr (.inl ha)

theorem word_nat {n a : Int} (h : WordOk n a) : ∃ m x : Nat, n = m ∧ a = x := by
  obtain ⟨⟨h0, _⟩, h2, _⟩ := h
  exact ⟨n.toNat, a.toNat, by omega, by omega⟩

theorem law_FnExactMeanUp (n : Int) (_ : (Lit.int .i64 n).wf = true) (a : Int) (_ : (Lit.int .i64 a).wf = true) (b : Int) (_ : (Lit.int .i64 b).wf = true) (w : World) :
    Calls Try.prog 3 #[.int .i64 n, .int .i64 a, .int .i64 b] w fun e w' => e = .returned (.bool true) ∧ Below w.heap.size w w' := by
  rcases two_words n a b with ⟨ha, hb⟩ | h
  · obtain ⟨n, a, rfl, rfl⟩ := word_nat ha.out
    obtain ⟨b, rfl⟩ := Int.eq_ofNat_of_zero_le hb.out.2.1
    go_enter Try.func3, Try.ntmps3
    go_wp2_with (first | (go_at_call 9; ((with_reducible refine (spec_MeanUp_yes n a b _ ha hb).mono ?_); rintro e w' ⟨rfl, rfl⟩)) | (go_at_call 10; ((with_reducible refine (impl_MeanUp_yes n a b _ ha hb).mono ?_); rintro e w' ⟨rfl, hbel⟩)))
    go_ret
    exact ⟨rfl, hbel⟩
  · go_enter Try.func3, Try.ntmps3
    go_wp2_with (first | (go_at_call 9; ((with_reducible refine (spec_MeanUp_no n a b _ h).mono ?_); rintro e w' ⟨rfl, rfl⟩)) | (go_at_call 10; ((with_reducible refine (impl_MeanUp_no n a b _ h).mono ?_); rintro e w' ⟨rfl, hbel⟩)))
    go_ret
    exact ⟨rfl, hbel⟩

end Go.Proofs.Ytknchojfhpchiab
