/- What the door lays: the library's table, read off the rows' condition; the door's own heap meets it. -/
import Derived.Test.YtbknmokoegembacDoorGatA
import Derived.ProofKit
import Derived.LaidMore
import Derived.Lib.LaidTab
import Derived.Stop.Joined

namespace Go.Proofs.YtbknmokoegembacDoor
open Go.ChangeShapes Go.WideShapes Go.ChangeAt Go.RowKit
set_option linter.unusedVariables false

def laidTwo : List (String × DataW Unit) := [("math/bits.deBruijn32tab", Rows.laid_math_bits_deBruijn32tab), ("math/bits.deBruijn64tab", Rows.laid_math_bits_deBruijn64tab)]

theorem g64 : Tryd.prog.globalNamed "math/bits.deBruijn64tab" = some 1 := by kernel_rfl

theorem t64 : (Tryd.prog.globals[1]?).map (·.type) = some 68 := by kernel_rfl

theorem dat64 : (Rows.laid_math_bits_deBruijn64tab : DataW Unit) = Lib.tabData .u8 (Lib.deBruijn64tab.map fun n : Nat => (n : Int)) := by kernel_rfl

set_option maxRecDepth 100000 in
theorem door_met (os : Os) (args : Array Value) : laidMetH Tryd.prog laidTwo ((World.doorLaid Tryd.prog 400 os).forCall (fun _ _ => 0) ⟨#[], args, []⟩).memory :=
  laidMetH_of_parts3 (fuel := 8) (laidMet_of_run' 8 (by kernel_rfl) (by kernel_rfl)) (by kernel_rfl) (by kernel_rfl)

theorem of_laid {W : World} (h : laidMetH Tryd.prog laidTwo W) : TabLies W := by
  rw [MakeChecks.laidMetH_plain _ _ _ (by kernel_rfl)] at h
  obtain ⟨ps, ⟨g0, t0, cs0, f0, p0, q0, hg0, ht0, hv0, hd0, ⟨g1, t1, cs1, f1, p1, q1, hg1, ht1, hv1, hd1, _, _⟩, _⟩, _, _⟩ := h
  obtain rfl := Option.some.inj (g64.symm.trans hg1)
  obtain rfl := Option.some.inj (t64.symm.trans ht1)
  rw [dat64] at hd1
  have hT : Lib.TabIs Tryd.prog W "math/bits.deBruijn64tab" .u8 (Lib.deBruijn64tab.map fun n : Nat => (n : Int)) := by
    unfold Lib.TabIs
    rw [hv1, ← Lib.cells_of_tab Tryd.underlying68 Tryd.underlying5 (by kernel_rfl) (by kernel_rfl) hd1]
  have hc : ∀ j, j < 64 → W.cell? ⟨1, j, none⟩ = some (.int .u8 (Lib.deBruijn64tab.getD j 0)) := fun j hj => by
    have hl : Lib.deBruijn64tab.length = 64 := by decide
    have := hT.cell g64 j (by rw [List.length_map, hl]; exact hj)
    rw [this]
    simp [List.getD, hl, hj]
  refine ⟨?_, hc⟩
  have h0 := hc 0 (by omega)
  rcases Nat.lt_or_ge 1 W.heap.size with h | h
  · exact h
  · exfalso
    have e : W.heap[1]? = none := Array.getElem?_eq_none h
    simp [World.cell?, e] at h0

end Go.Proofs.YtbknmokoegembacDoor
