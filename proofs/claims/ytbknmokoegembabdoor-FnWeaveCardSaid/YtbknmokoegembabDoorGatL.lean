/- The walks of the laws that hold Gather and Scatter against the reference. -/
import Derived.Test.YtbknmokoegembabDoorGatC

namespace Go.Proofs.YtbknmokoegembabDoor
open Go.RowKit
set_option linter.unusedVariables false

theorem words_nat {n x m : Int} (hx : WordOk n x) (hm : WordOk n m) : ∃ n' x' m' : Nat, n = n' ∧ x = x' ∧ m = m' := by
  obtain ⟨n', rfl⟩ := Int.eq_ofNat_of_zero_le (show 0 ≤ n by have := hx.1; omega)
  obtain ⟨x', rfl⟩ := Int.eq_ofNat_of_zero_le hx.2.1
  obtain ⟨m', rfl⟩ := Int.eq_ofNat_of_zero_le hm.2.1
  exact ⟨n', x', m', rfl, rfl, rfl⟩

theorem not_two {n x m : Int} (h : ¬ (WordOk n x ∧ WordOk n m)) : Hid (¬ WordOk n x ∨ (WordOk n x ∧ ¬ WordOk n m)) := by
  by_cases hx : WordOk n x
  · exact .inr ⟨hx, fun hm => h ⟨hx, hm⟩⟩
  · exact .inl hx

end Go.Proofs.YtbknmokoegembabDoor
