/- Contracts: drawn polynomials. -/
import Derived.Test.YtbknmokoegembacDoorDraw
import Derived.Test.YtbknmokoegembacDoorSlicePlain

namespace Go.Proofs.YtbknmokoegembacDoor
open Go.RowKit
set_option linter.unusedVariables false

/-- what a drawing function that hands back an integer does -/
def DrewInt (g lim : Nat) (P : Int → Prop) (w : World) (e : Ending) (w' : World) : Prop :=
  ∃ x, e = .returned (.int .i64 x) ∧ P x ∧ Bw.Rd 59 w' g lim ∧ w.grownBy w' (some g)

theorem lit_cell {w w' : World} {cs : Array Value} {t : TypeId} {g : Nat} (h : (w.alloc (.cells cs t)).grownBy w' (some g)) (hg : g < w.heap.size) (j : Nat) (v : Value) (hv : cs[j]? = some v) : w'.cell? ⟨w.heap.size, j, none⟩ = some v := by
  refine h.cell ?_ ?_
  · rw [cell_of_row _ _ j cs t (0, 0) (heap_alloc_new w _)]; exact hv
  · show some w.heap.size ≠ some g
    intro e; injection e with e; omega

theorem grown_of_alloc {w w' : World} {o : Obj} {row : Option Nat} (h : (w.alloc o).grownBy w' row) : w.grownBy w' row := Bw.grown_trans (World.grownBy_alloc w o row) h

theorem rd_alloc {t : TypeId} {w : World} {g lim : Nat} (h : Bw.Rd t w g lim) (o : Obj) : Bw.Rd t (w.alloc o) g lim := h.below ((Below.refl _ _).alloc (Nat.le_refl _) _)

theorem lit_at (zs : List Int) {j : Nat} (hj : j < zs.length) : ((zs.map (Value.int .i64)).toArray)[j]? = some (.int .i64 (Bw.nth zs j)) := by
  rw [List.getElem?_toArray, List.getElem?_map, Bw.nth_lt hj]; rfl

theorem nth_mem {zs : List Int} {j : Nat} (hj : j < zs.length) : Bw.nth zs j ∈ zs := by rw [Bw.nth_eq hj]; exact List.getElem_mem hj

def divisors : List Int := [3, 7, 11, 13, 19, 25, 37, 67, 131, 283, 285, 299]

def fieldPolys : List Int := [3, 7, 11, 13, 19, 25, 31, 37, 283]

end Go.Proofs.YtbknmokoegembacDoor
