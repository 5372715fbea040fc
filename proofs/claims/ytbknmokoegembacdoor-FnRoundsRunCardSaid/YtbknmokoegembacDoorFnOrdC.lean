/- Contracts: orders one after the other. -/
import Derived.Test.YtbknmokoegembacDoorFnOrdA
import Derived.Test.YtbknmokoegembacDoorOwn

namespace Bw
open Go Go.RowKit

theorem own_made (t : TypeId) (w : World) : Own t w.heap.size (w.alloc (.cells #[] t)) (.slice (some ⟨w.heap.size, 0, none⟩) 0 0) [] :=
  World.ownsRow_made w #[] 0 (Nat.le_refl _) (by unfold maxLen; omega) rfl

/-- what both answer: the one order after the other, or nothing -/
def ThenIs (a b out : List Int) : Prop :=
  (OrderOk a ∧ OrderOk b ∧ a.length = b.length → out = thn a b) ∧ (¬ (OrderOk a ∧ OrderOk b ∧ a.length = b.length) → out = [])

theorem thenIs_some (a b : List Int) : ∃ out, ThenIs a b out := by
  by_cases h : OrderOk a ∧ OrderOk b ∧ a.length = b.length
  · exact ⟨_, fun _ => rfl, fun h2 => absurd h h2⟩
  · exact ⟨[], fun h2 => absurd h2 h, fun _ => rfl⟩

theorem ThenIs.len {a b out : List Int} (h : ThenIs a b out) : out.length ≤ 12 := by
  by_cases h2 : OrderOk a ∧ OrderOk b ∧ a.length = b.length
  · rw [h.1 h2, thn_length]; exact h2.1.1.2
  · rw [h.2 h2]; simp

end Bw

namespace Go.Proofs.YtbknmokoegembacDoor
open Go.RowKit Go.Maps
set_option linter.unusedVariables false

theorem grown_belowN {B : Nat} {w0 w1 w2 : World} {row : Option Nat} (hb : Below B w0 w1) (hB : B ≤ w1.heap.size) (hg : w1.grownBy w2 row) (hr : ∀ k, row = some k → B ≤ k) : Below B w0 w2 := hb.grown hg hB hr

end Go.Proofs.YtbknmokoegembacDoor
