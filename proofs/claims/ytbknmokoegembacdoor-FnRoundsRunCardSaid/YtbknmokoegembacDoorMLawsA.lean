/- The walks of the laws on masks, lanes and means. -/
import Derived.Test.YtbknmokoegembacDoorMFnA

namespace Go.Proofs.YtbknmokoegembacDoor
open Go.RowKit
set_option linter.unusedVariables false

/-- two words, or not -/
theorem two_words (n a b : Int) : (Hid (WordOk n a) ∧ Hid (WordOk n b)) ∨ Hid (¬ WordOk n a ∨ (WordOk n a ∧ ¬ WordOk n b)) := by
  by_cases ha : WordOk n a
  · by_cases hb : WordOk n b
    · exact .inl ⟨ha, hb⟩
    · exact .inr (.inr ⟨ha, hb⟩)
  · exact .inr (.inl ha)

theorem word_nat {n a : Int} (h : WordOk n a) : ∃ m x : Nat, n = m ∧ a = x := by
  obtain ⟨⟨h0, _⟩, h2, _⟩ := h
  exact ⟨n.toNat, a.toNat, by omega, by omega⟩

end Go.Proofs.YtbknmokoegembacDoor
