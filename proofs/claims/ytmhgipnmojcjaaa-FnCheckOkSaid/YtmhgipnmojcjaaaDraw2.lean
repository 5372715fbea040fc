/- Contracts: drawn polynomials. -/
import Derived.Test.YtmhgipnmojcjaaaDraw
import Derived.Test.YtmhgipnmojcjaaaSlicePlain

namespace Go.Proofs.Ytmhgipnmojcjaaa
open Go.RowKit
set_option linter.unusedVariables false

/-- what a drawing function that hands back an integer does -/
def DrewInt (g lim : Nat) (P : Int → Prop) (w : World) (e : Ending) (w' : World) : Prop :=
  ∃ x, e = .returned (.int .i64 x) ∧ P x ∧ Bw.Rd 47 w' g lim ∧ w.grownBy w' (some g)

theorem lit_cell {w w' : World} {cs : Array Value} {t : TypeId} {g : Nat} (h : (w.alloc (.cells cs t)).grownBy w' (some g)) (hg : g < w.heap.size) (j : Nat) (v : Value) (hv : cs[j]? = some v) : w'.cell? ⟨w.heap.size, j, none⟩ = some v := by
  refine h.cell ?_ ?_
  · rw [cell_of_row _ _ j cs t (0, 0) (heap_alloc_new w _)]; exact hv
  · show some w.heap.size ≠ some g
    intro e; injection e with e; omega

theorem grown_of_alloc {w w' : World} {o : Obj} {row : Option Nat} (h : (w.alloc o).grownBy w' row) : w.grownBy w' row := Bw.grown_trans (World.grownBy_alloc w o row) h

theorem rd_alloc {t : TypeId} {w : World} {g lim : Nat} (h : Bw.Rd t w g lim) (o : Obj) : Bw.Rd t (w.alloc o) g lim := h.below ((Below.refl _ _).alloc (Nat.le_refl _) _)

theorem lit_at (zs : List Int) {j : Nat} (hj : j < zs.length) : ((zs.map (Value.int .i64)).toArray)[j]? = some (.int .i64 (Bw.nth zs j)) := by
  rw [List.getElem?_toArray, List.getElem?_map, Bw.nth_lt hj]; rfl

theorem nth_mem {zs : List Int} {j : Nat} (hj : j < zs.length) : Bw.nth zs j ∈ zs := by rw [Bw.nth_eq hj]; exact List.getElem_mem hj

def divisors : List Int := [3, 7, 11, 13, 19, 25, 37, 67, 131, 283, 285, 299]

set_option maxHeartbeats 1000000 in
theorem l20Divisor_any (g lim : Nat) (w : World) (hr : Bw.Rd 47 w g lim) (hl : lim ≤ 10000) :
    Calls Try.prog 17 #[.pointer (some ⟨g, 0, none⟩)] w (DrewInt g (lim + 8) (fun x => -40 ≤ x ∧ x ≤ 1000) w) := by
  have hlt := hr.lt
  have H0 := Lib.hid hr
  have G0 := Lib.hid (World.grownBy.refl w (some g))
  clear hr
  go_enter Try.func17, Try.ntmps17
  go_wp2_with fail
  refine (pick_any g _ 3 _ H0.out (by omega)).mono ?_
  rintro e w1 ⟨x, rfl, hp, hr1, hg1⟩
  have x0 := hp.1
  have x1 := hp.2.1 (by omega)
  have H1 := Lib.hid hr1
  have G1 := Lib.hid (Bw.grown_trans G0.out hg1)
  clear hr1 hg1 hp
  have hlt1 := H1.out.lt
  by_cases hx : x = 0
  · subst hx
    go_wp2_with fail
    refine (pick_any g _ 12 _ (rd_alloc H1.out _) (by omega)).mono ?_
    rintro e w2 ⟨y, rfl, hp, hr2, hg2⟩
    have hy := hp.1
    have hy2 := hp.2.1 (by omega)
    have H2 := Lib.hid hr2
    have G2 := Lib.hid (Bw.grown_trans G1.out (grown_of_alloc hg2))
    obtain ⟨j, rfl⟩ := Int.eq_ofNat_of_zero_le hy
    have hj : j < divisors.length := by show j < 12; omega
    have hc := lit_cell hg2 hlt1 j _ (lit_at divisors hj)
    have hb : ∀ v ∈ divisors, -40 ≤ v ∧ v ≤ 1000 := by decide
    have hv := hb _ (nth_mem hj)
    clear hr2 hg2 hp hb
    go_wp2_with fail
    go_ret
    exact ⟨_, rfl, hv, H2.out.more (by omega), G2.out⟩
  · have hx2 : (x == 0) = false := by simpa using hx
    clear hx
    go_wp2_with fail
    refine (pick_any g _ 31 _ H1.out (by omega)).mono ?_
    rintro e w2 ⟨a, rfl, hp, hr2, hg2⟩
    have a0 := hp.1
    have a1 := hp.2.1 (by omega)
    have H2 := Lib.hid hr2
    have G2 := Lib.hid (Bw.grown_trans G1.out hg2)
    clear hr2 hg2 hp
    go_wp2_with fail
    refine (pick_any g _ 12 _ H2.out (by omega)).mono ?_
    rintro e w3 ⟨b, rfl, hp, hr3, hg3⟩
    have b0 := hp.1
    have b1 := hp.2.1 (by omega)
    have H3 := Lib.hid hr3
    have G3 := Lib.hid (Bw.grown_trans G2.out hg3)
    clear hr3 hg3 hp
    rcases (show b / 11 = 0 ∨ b / 11 = 1 from by omega) with hb | hb
    all_goals
      go_wp2_with fail
      refine (pick_any g _ 256 _ H3.out (by omega)).mono ?_
      rintro e w4 ⟨c, rfl, hp, hr4, hg4⟩
      have c0 := hp.1
      have c1 := hp.2.1 (by omega)
      have H4 := Lib.hid hr4
      have G4 := Lib.hid (Bw.grown_trans G3.out hg4)
      clear hr4 hg4 hp
      go_wp2_with fail
      refine (pick_any g _ 40 _ H4.out (by omega)).mono ?_
      rintro e w5 ⟨d, rfl, hp, hr5, hg5⟩
      have d0 := hp.1
      have d1 := hp.2.1 (by omega)
      have H5 := Lib.hid hr5
      have G5 := Lib.hid (Bw.grown_trans G4.out hg5)
      clear hr5 hg5 hp
      go_wp2_with fail
      go_ret
      exact ⟨_, rfl, by omega, H5.out.more (by omega), G5.out⟩

def fieldPolys : List Int := [3, 7, 11, 13, 19, 25, 31, 37, 283]

end Go.Proofs.Ytmhgipnmojcjaaa
