/- Contracts: the reader that draws. -/
import Derived.Test.YtbknmokoegembacDoorLeaf
import Derived.Deep.QuietTactic
import Derived.BigQuiet

namespace Bw
open Go Go.RowKit

theorem grown_trans {a b c : World} {row : Option Nat} (h : a.grownBy b row) (k : b.grownBy c row) : a.grownBy c row :=
  ⟨k.os.trans h.os, k.tape.trans h.tape, k.output.trans h.output, Nat.le_trans h.size k.size, fun i hi hr => (k.block i (Nat.lt_of_lt_of_le hi h.size) hr).trans (h.block i hi hr)⟩

theorem grown_of_below {a b : World} {row : Option Nat} (h : Below a.heap.size a b) : a.grownBy b row := ⟨h.os, h.tape, h.output, h.size, fun i hi _ => h.block i hi⟩

theorem grown_drewN {a b : World} {row : Option Nat} (h : a.grownBy b row) (n : Nat) : a.grownBy (b.drewN n) row := ⟨h.os, h.tape, h.output, h.size, h.block⟩

theorem grown_alloc {a b : World} {row : Option Nat} (h : a.grownBy b row) (o : Obj) : a.grownBy (b.alloc o) row := grown_trans h (World.grownBy_alloc b o row)

/-- what the row's block was not among, stays below it -/
theorem below_of_grown {B g : Nat} {w0 w w' : World} (h : Below B w0 w) (hg : w.grownBy w' (some g)) (hB : B ≤ w.heap.size) (hgB : B ≤ g) : Below B w0 w' :=
  h.grown hg hB (fun k e => by cases e; exact hgB)

/-- THE READER: its struct lies in block g; its bytes lie before it; it has drawn at most lim times -/
def Rd (t : TypeId) (w : World) (g lim : Nat) : Prop :=
  ∃ (a : Option Addr) (n cap k : Nat) (bs : Nat → Int), w.heap[g]? = some (.cells #[.slice a n cap, .int .i64 k] t (0, 0)) ∧ k ≤ lim ∧ n ≤ 2000 ∧
    (n = 0 ∨ ∃ b off, a = some ⟨b, off, none⟩ ∧ b < g ∧ ∀ i, i < n → (0 ≤ bs i ∧ bs i < 256) ∧ w.cell? ⟨b, off + i, none⟩ = some (.int .u8 (bs i)))

theorem Rd.lt {t : TypeId} {w : World} {g lim : Nat} (h : Rd t w g lim) : g < w.heap.size := by
  obtain ⟨a, n, cap, k, bs, hg, _⟩ := h
  exact (Array.getElem?_eq_some_iff.1 hg).1

theorem Rd.below {t : TypeId} {w w' : World} {g lim : Nat} (h : Rd t w g lim) (hb : Below w.heap.size w w') : Rd t w' g lim := by
  have hlt := h.lt
  obtain ⟨a, n, cap, k, bs, hg, hk, hn, hb2⟩ := h
  refine ⟨a, n, cap, k, bs, (hb.block g hlt).trans hg, hk, hn, ?_⟩
  rcases hb2 with h | ⟨b, off, ha, hbg, hc⟩
  · exact .inl h
  · exact .inr ⟨b, off, ha, hbg, fun i hi => ⟨(hc i hi).1, (hb.cell (p := ⟨b, off + i, none⟩) (by show b < _; omega)).trans (hc i hi).2⟩⟩

theorem Rd.more {t : TypeId} {w : World} {g lim lim' : Nat} (h : Rd t w g lim) (hl : lim ≤ lim') : Rd t w g lim' := by
  obtain ⟨a, n, cap, k, bs, hg, hk, r⟩ := h
  exact ⟨a, n, cap, k, bs, hg, Nat.le_trans hk hl, r⟩

/-- one number more has been drawn -/
theorem rd_step {t : TypeId} {w : World} {g lim : Nat} {a : Option Addr} {n cap k : Nat} {bs : Nat → Int} (hg : w.heap[g]? = some (.cells #[.slice a n cap, .int .i64 k] t (0, 0))) (hk : k ≤ lim) (hn : n ≤ 2000)
    (hb : n = 0 ∨ ∃ b off, a = some ⟨b, off, none⟩ ∧ b < g ∧ ∀ i, i < n → (0 ≤ bs i ∧ bs i < 256) ∧ w.cell? ⟨b, off + i, none⟩ = some (.int .u8 (bs i))) (j : Nat) :
    Rd t ((w.setCell ⟨g, 1, none⟩ (.int .i64 ((k : Int) + 1))).drewN j) g (lim + 1) ∧ w.grownBy ((w.setCell ⟨g, 1, none⟩ (.int .i64 ((k : Int) + 1))).drewN j) (some g) := by
  refine ⟨⟨a, n, cap, k + 1, bs, ?_, by omega, hn, ?_⟩, ⟨rfl, rfl, rfl, by simp [World.drewN], fun i _ hi => heap_setCell_other w ⟨g, 1, none⟩ i _ (fun e => hi (by simp [e]))⟩⟩
  · show (w.setCell ⟨g, 1, none⟩ _).heap[g]? = _
    rw [heap_setCell_same w g 1 _ t _ hg]
    simp
  · rcases hb with h | ⟨b, off, ha, hbg, hc⟩
    · exact .inl h
    · refine .inr ⟨b, off, ha, hbg, fun i hi => ⟨(hc i hi).1, ?_⟩⟩
      show (w.setCell ⟨g, 1, none⟩ _).cell? _ = _
      rw [World.cell?_of_block (w := w) (heap_setCell_other w ⟨g, 1, none⟩ b _ (by show b ≠ g; omega))]
      exact (hc i hi).2

theorem tmod_bd {x n : Int} (h : 0 ≤ x) (hn : 1 ≤ n) : 0 ≤ x.tmod n ∧ x.tmod n < n := by
  rw [Int.tmod_eq_emod_of_nonneg h]
  exact ⟨Int.emod_nonneg _ (by omega), Int.emod_lt_of_pos _ (by omega)⟩

theorem xor_nonneg {x y : Int} (h0 : 0 ≤ x) (h1 : x < 4611686018427387904) (h2 : 0 ≤ y) (h3 : y < 4611686018427387904) : 0 ≤ bits .xor .i64 x y := by
  obtain ⟨a, rfl⟩ := Int.eq_ofNat_of_zero_le h0
  obtain ⟨b, rfl⟩ := Int.eq_ofNat_of_zero_le h2
  rw [i64_xor _ _ (by omega) (by omega)]
  omega
end Bw

namespace Go.Proofs.YtbknmokoegembacDoor
open Go.RowKit
set_option linter.unusedVariables false

/-- a number that pick may give -/
def Picked (n x : Int) : Prop := 0 ≤ x ∧ (1 ≤ n → x < n) ∧ (n < 1 → x = 0)

set_option maxHeartbeats 1000000 in
theorem pick_any (g lim : Nat) (n : Int) (w : World) (hr : Bw.Rd 59 w g lim) (hl : lim ≤ 100000) :
    Calls Tryd.prog 46 #[.pointer (some ⟨g, 0, none⟩), .int .i64 n] w fun e w' => ∃ x, e = .returned (.int .i64 x) ∧ Picked n x ∧ Bw.Rd 59 w' g (lim + 1) ∧ w.grownBy w' (some g) := by
  obtain ⟨a, m, cap, k, bs, hg, hk, hm, hb⟩ := hr
  have c0 : w.cell? ⟨g, 0, none⟩ = some (.slice a m cap) := by rw [cell_of_row w g 0 _ _ _ hg]; rfl
  have c1 : w.cell? ⟨g, 1, none⟩ = some (.int .i64 k) := by rw [cell_of_row w g 1 _ _ _ hg]; rfl
  have f1 : w.frozen? ⟨g, 1, none⟩ = false := frozen_of_row w g 1 _ _ hg
  have HS := Lib.hid (fun j => Bw.rd_step hg hk hm hb j)
  have h0 := HS.out 0
  rw [show ∀ w : World, w.drewN 0 = w from fun w => rfl] at h0
  have H0 := Lib.hid h0
  clear hg h0
  by_cases hn : n < 1
  · clear hb
    go_enter Tryd.func46, Tryd.ntmps46
    go_wp2
    go_ret
    exact ⟨0, rfl, ⟨by omega, by omega, fun _ => rfl⟩, H0.out.1, H0.out.2⟩
  · have hn1 : 1 ≤ n := by omega
    clear hn
    by_cases hm0 : m = 0
    · subst hm0
      clear hb
      go_enter Tryd.func46, Tryd.ntmps46
      go_wp2
      go_ret
      exact ⟨0, rfl, ⟨by omega, by omega, fun h => by omega⟩, H0.out.1, H0.out.2⟩
    · obtain ⟨b, off, rfl, hbg, hc⟩ : ∃ b off, a = some ⟨b, off, none⟩ ∧ b < g ∧ ∀ i, i < m → (0 ≤ bs i ∧ bs i < 256) ∧ w.cell? ⟨b, off + i, none⟩ = some (.int .u8 (bs i)) := by
        rcases hb with h | h
        · exact absurd h hm0
        · exact h
      have hm1 : 0 < m := by omega
      have hme : ((m : Int) == 0) = false := by rw [beq_eq_false_iff_ne]; omega
      clear hb hm0
      by_cases hlt : k < m
      · obtain ⟨hx, hcell⟩ := hc k hlt
        clear hc
        go_enter Tryd.func46, Tryd.ntmps46
        go_wp2
        go_ret
        exact ⟨_, rfl, ⟨Int.emod_nonneg _ (by omega), fun _ => Int.emod_lt_of_pos _ (by omega), fun h => by omega⟩, H0.out.1, H0.out.2⟩
      · have hge : m ≤ k := by omega
        have hq1 : k % m < m := Nat.mod_lt _ hm1
        have hq2 : (k * 7 + 3) % m < m := Nat.mod_lt _ hm1
        have e1 : ((k : Int)).tmod (m : Int) = ((k % m : Nat) : Int) := by rw [Int.tmod_eq_emod_of_nonneg (by omega)]; simp
        have e4 : ((k : Int) * 7 + 3).tmod (m : Int) = (((k * 7 + 3) % m : Nat) : Int) := by rw [Int.tmod_eq_emod_of_nonneg (by omega)]; simp
        obtain ⟨i1, hi1⟩ : ∃ i, k % m = i := ⟨_, rfl⟩
        obtain ⟨i2, hi2⟩ : ∃ i, (k * 7 + 3) % m = i := ⟨_, rfl⟩
        rw [hi1] at e1 hq1
        rw [hi2] at e4 hq2
        obtain ⟨hx, hcell⟩ := hc i1 hq1
        obtain ⟨hy, hcell2⟩ := hc i2 hq2
        have e5 : ((k : Int)).tdiv (m : Int) = ((k / m : Nat) : Int) := by rw [Int.tdiv_eq_ediv_of_nonneg (by omega)]; simp
        have hkm : k / m ≤ k := Nat.div_le_self _ _
        obtain ⟨i3, hi3⟩ : ∃ i, k / m = i := ⟨_, rfl⟩
        rw [hi3] at e5 hkm
        clear hc hlt hi1 hi2 hi3
        go_enter Tryd.func46, Tryd.ntmps46
        go_wp2
        have z1 : ¬ ((m : Int) = 0) := by omega
        have z2 : ¬ m = 0 := by omega
        have e2 : IntKind.i64.wrap ((k : Int) * 7) = (k : Int) * 7 := IntWalk.i64_in _ (by omega)
        have e3 : IntKind.i64.wrap ((k : Int) * 7 + 3) = (k : Int) * 7 + 3 := IntWalk.i64_in _ (by omega)
        go_quiet (fail)
        obtain ⟨X, hX⟩ : ∃ X, bs i1 * 131 + bs i2 * 1117 + (k : Int) * 29 + (i3 : Int) * 53 = X := ⟨_, rfl⟩
        have hX0 : 0 ≤ X ∧ X < 100000000 := by omega
        rw [hX]
        clear hX e1 e2 e3 e4 e5 hcell hcell2
        have hY0 := Bw.xor_nonneg (x := X) (y := X / 64) (by omega) (by omega) (by omega) (by omega)
        obtain ⟨Y, hY⟩ : ∃ Y, bits .xor .i64 X (X / 64) = Y := ⟨_, rfl⟩
        rw [hY] at hY0
        go_wp2
        go_ret
        exact ⟨_, rfl, ⟨Int.emod_nonneg _ (by omega), fun _ => Int.emod_lt_of_pos _ (by omega), fun h => by omega⟩, (HS.out nq).1, (HS.out nq).2⟩

set_option maxHeartbeats 400000 in
theorem odd_any (g lim : Nat) (n : Int) (w : World) (hr : Bw.Rd 59 w g lim) (hl : lim ≤ 100000) (hn : 1 ≤ n) (hn2 : n ≤ 1000) :
    Calls Tryd.prog 48 #[.pointer (some ⟨g, 0, none⟩), .int .i64 n] w fun e w' => ∃ x, e = .returned (.bool x) ∧ Bw.Rd 59 w' g (lim + 1) ∧ w.grownBy w' (some g) := by
  have HR := Lib.hid hr
  clear hr
  go_enter Tryd.func48, Tryd.ntmps48
  go_wp2_with fail
  refine (pick_any g lim n _ HR.out hl).mono ?_
  rintro e w1 ⟨x, rfl, hp, hr1, hg1⟩
  have H1 := Lib.hid hr1
  have H2 := Lib.hid hg1
  clear hp hr1 hg1
  go_wp2_with fail
  go_ret
  exact ⟨_, rfl, H1.out, H2.out⟩

theorem odd_zero (g lim : Nat) (w : World) (hr : Bw.Rd 59 w g lim) :
    Calls Tryd.prog 48 #[.pointer (some ⟨g, 0, none⟩), .int .i64 0] w fun e w' => e = .returned (.bool false) ∧ w = w' := by
  go_enter Tryd.func48, Tryd.ntmps48
  go_wp2_with fail
  go_ret
  exact ⟨rfl, rfl⟩

/-- what is known of the bytes that come in -/
def Bytes (w : World) (a : Option Addr) (n : Nat) : Prop :=
  n = 0 ∨ ∃ (b off : Nat) (bs : Nat → Int), a = some ⟨b, off, none⟩ ∧ b < w.heap.size ∧ ∀ i, i < n → (0 ≤ bs i ∧ bs i < 256) ∧ w.cell? ⟨b, off + i, none⟩ = some (.int .u8 (bs i))

set_option maxHeartbeats 400000 in
theorem open_any (a : Option Addr) (n cap : Nat) (w : World) (hb : Bytes w a n) (hc : n ≤ cap) (hm : cap ≤ 9223372036854775807) :
    Calls Tryd.prog 28 #[.slice a n cap] w fun e w' => ∃ g, e = .returned (.pointer (some ⟨g, 0, none⟩)) ∧ w.heap.size ≤ g ∧ Bw.Rd 59 w' g 0 ∧ Below w.heap.size w w' := by
  by_cases hn : 2000 < n
  · obtain ⟨b, off, bs, rfl, hlt, hcell⟩ : ∃ (b off : Nat) (bs : Nat → Int), a = some ⟨b, off, none⟩ ∧ b < w.heap.size ∧ ∀ i, i < n → (0 ≤ bs i ∧ bs i < 256) ∧ w.cell? ⟨b, off + i, none⟩ = some (.int .u8 (bs i)) := by
      rcases hb with h | h
      · omega
      · exact h
    have HC := Lib.hid hcell
    clear hcell hb
    go_enter Tryd.func28, Tryd.ntmps28
    go_wp2
    go_ret
    refine ⟨w.heap.size, rfl, Nat.le_refl _, ⟨_, 2000, _, 0, bs, by rw [heap_alloc_new]; rfl, by omega, by omega, .inr ⟨b, off, rfl, hlt, fun i hi => ⟨(HC.out i (by omega)).1, ?_⟩⟩⟩, (Below.refl _ _).alloc (Nat.le_refl _) _⟩
    rw [World.cell?_of_block (w := w) (Below.heap_alloc w _ b hlt)]
    exact (HC.out i (by omega)).2
  · have hn2 : n ≤ 2000 := by omega
    have HB := Lib.hid hb
    clear hb hn
    go_enter Tryd.func28, Tryd.ntmps28
    go_wp2
    go_ret
    rcases HB.out with h | ⟨b, off, bs, rfl, hlt, hcell⟩
    · exact ⟨w.heap.size, rfl, Nat.le_refl _, ⟨_, n, _, 0, fun _ => 0, by rw [heap_alloc_new]; rfl, by omega, hn2, .inl h⟩, (Below.refl _ _).alloc (Nat.le_refl _) _⟩
    · refine ⟨w.heap.size, rfl, Nat.le_refl _, ⟨_, n, _, 0, bs, by rw [heap_alloc_new]; rfl, by omega, hn2, .inr ⟨b, off, rfl, hlt, fun i hi => ⟨(hcell i hi).1, ?_⟩⟩⟩, (Below.refl _ _).alloc (Nat.le_refl _) _⟩
      rw [World.cell?_of_block (w := w) (Below.heap_alloc w _ b hlt)]
      exact (hcell i hi).2

end Go.Proofs.YtbknmokoegembacDoor
