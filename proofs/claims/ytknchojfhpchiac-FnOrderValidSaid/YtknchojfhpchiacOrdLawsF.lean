/- The walk of the law on valid orders. -/
import Derived.Test.YtknchojfhpchiacMDrawC
import Derived.Test.YtknchojfhpchiacFnOrdE
import Derived.Test.YtknchojfhpchiacWord2

namespace Bw
open Go Go.RowKit

theorem swap_ok {zs : List Int} (h : OrderOk zs) (h2 : 2 ≤ zs.length) : OrderOk ((zs.set 0 (nth zs 1)).set 1 (nth zs 0)) := by
  have e : ∀ i, i < zs.length → nth ((zs.set 0 (nth zs 1)).set 1 (nth zs 0)) i = nth zs (if i = 1 then 0 else if i = 0 then 1 else i) := fun i hi => by
    rw [nth_put (by rw [List.length_set]; omega), nth_put (by omega)]
    by_cases h1 : i = 1
    · rw [if_pos h1, if_pos h1]
    · rw [if_neg h1, if_neg h1]
      by_cases h0 : i = 0
      · rw [if_pos h0, if_pos h0]
      · rw [if_neg h0, if_neg h0]
  refine ⟨by simpa using h.1, fun j hj => ?_⟩
  simp only [List.length_set] at hj ⊢
  have hlt : ∀ i, i < zs.length → (if i = 1 then 0 else if i = 0 then 1 else i) < zs.length := fun i hi => by split; omega; split <;> omega
  refine ⟨by rw [e j hj]; exact (h.2 _ (hlt j hj)).1, fun i hi => ?_⟩
  rw [e j hj, e i (by omega)]
  have hne := h.pl_ne (hlt i (by omega)) (hlt j hj) (by split <;> split <;> (try split) <;> (try split) <;> omega)
  rw [h.pl_cast (hlt i (by omega)), h.pl_cast (hlt j hj)]
  omega

theorem twice_not_ok {zs : List Int} (h2 : 2 ≤ zs.length) : ¬ OrderOk (zs.set 1 (nth zs 0)) := by
  intro h
  have := (h.2 1 (by rw [List.length_set]; omega)).2 0 (by omega)
  rw [nth_put (by omega), nth_put (by omega)] at this
  simp at this

end Bw

namespace Go.Proofs.Ytknchojfhpchiac
open Go.RowKit
set_option linter.unusedVariables false

set_option maxRecDepth 100000 in
set_option maxHeartbeats 1000000 in
theorem law_FnOrderValid (w : World) (a : Option Addr) (n cap : Nat) (zs : List Int) (h : Bw.IsRow .u8 w a n cap zs) :
    Calls Try.prog 6 #[.slice a n cap] w fun e w' => e = .returned (.bool true) ∧ Below w.heap.size w w' := by
  have hc := code_of_row h
  have hlen := h.len.2
  have HC := Lib.hid hc
  clear h hc
  by_cases hbig : 1048576 < n
  · go_enter Try.func6, Try.ntmps6
    go_wp2_with fail
    go_ret
    exact ⟨rfl, Below.refl _ _⟩
  have hs : n ≤ 1048576 := by omega
  clear hbig
  go_enter Try.func6, Try.ntmps6
  go_wp2_with fail
  refine (DrawOrderValid_any a n cap _ HC.out).mono ?_
  rintro e w1 ⟨v, xs, rfl, ho, hl14, hb⟩
  have HB := Lib.hid hb
  have HO := Lib.hid ho
  clear hb ho
  by_cases hok : Bw.OrderOk xs
  · have ha : Hid (Bw.OrderOk xs) := hok
    have hn := hok.1
    clear hok
    obtain ⟨b, cap, rfl, hb0, hb1⟩ := HO.out.some (by intro e; subst e; exact absurd hn.1 (by simp))
    go_wp2_with fail
    (with_reducible refine (impl_OrderValid_yes _ xs _ HO.out.reads ha).mono ?_)
    rintro e w2 ⟨rfl, hb⟩
    have HB := Lib.hid (HB.out.trans (hb.mono HB.out.size))
    have HO := Lib.hid (HO.out.below hb)
    clear hb
    go_wp2_with fail
    (with_reducible refine (spec_OrderValid_yes _ xs _ HO.out.reads ha).mono ?_)
    rintro e w3 ⟨rfl, hb⟩
    have HB := Lib.hid (HB.out.trans (hb.mono HB.out.size))
    have HO := Lib.hid (HO.out.below hb)
    clear hb
    by_cases h2 : 2 ≤ xs.length
    · obtain ⟨i0, hi, hz0, hz1, hz2⟩ := info_parts infoInt
      have hsz3 := HB.out.size
      have hrow := Bw.Own.row HO.out
      have hb3 := HO.out.ge b rfl
      have hnews := Lib.hid ((hrow.alloc (.cells #[] 3)).cells rfl)
      obtain ⟨n, hxn⟩ : ∃ n, xs.length = n := ⟨_, rfl⟩
      rw [hxn] at hrow h2 hn hl14 ⊢
      have HXN := Lib.hid hxn
      have ht2 : decide ((n : Int) < 2) = false := by simp; omega
      have HROW := Lib.hid hrow
      clear hrow hxn
      go_wp2_with (at_builtin; refine wpList_append_own _ rfl _ _ 22 rfl w3.heap.size 3 i0 (.int .i64 0) 1 8 Try.underlying22 hi hz0 hz1 hz2 rfl (by decide) _ 0 [] rfl (World.ownsRow_made w3 #[] 0 (Nat.le_refl _) (by unfold maxLen; omega) rfl) ⟨b, 0, none⟩ n cap (xs.map (Value.int .i64)) rfl (by rw [List.length_map, HXN.out]; omega) hnews.out (ints_oneCell .i64 xs) (by unfold maxLen; omega) (by omega) (by simp) ?_)
      intro v4 w4 hown4 hgrow4 hnil4
      obtain ⟨d, dc, rfl⟩ := Bw.own_some hown4 hnil4
      replace hown4 : w4.ownsRow w3.heap.size 3 1 (.slice (some ⟨d, 0, none⟩) n dc) n (xs.map (Value.int .i64)) := by simpa using hown4
      have hd := hown4.lt d rfl
      have hsz4 : w3.heap.size < w4.heap.size := by have := hgrow4.size; simp at this; omega
      have HB4 := Lib.hid ((HB.out.alloc hsz3 (.cells #[] 3)).grown hgrow4 (by simp; omega) (fun k e => by have e : some w3.heap.size = some k := e; injection e with e; omega))
      have hrow4 := (HROW.out.alloc (.cells #[] 3)).kept hgrow4 (.inr (by show some b ≠ some w3.heap.size; intro e; injection e with e; omega))
      have c0 := hrow4.cellAt 0 (by omega)
      have c1 := hrow4.cellAt 1 (by omega)
      rw [List.getElem?_map, Bw.nth_lt (show 0 < xs.length by rw [HXN.out]; omega)] at c0
      rw [List.getElem?_map, Bw.nth_lt (show 1 < xs.length by rw [HXN.out]; omega)] at c1
      have d0 := hown4.cellAt 0 (by omega)
      have d1 := hown4.cellAt 1 (by omega)
      rw [List.getElem?_map, Bw.nth_lt (show 0 < xs.length by rw [HXN.out]; omega)] at d0
      rw [List.getElem?_map, Bw.nth_lt (show 1 < xs.length by rw [HXN.out]; omega)] at d1
      have f0 := hown4.frozenAt 0
      have f1 := hown4.frozenAt 1
      have hst := hown4.stored 0 (.int .i64 (Bw.nth xs 1))
      have hst2 := hst.1.stored 1 (.int .i64 (Bw.nth xs 0))
      obtain ⟨x, hx⟩ : ∃ x, Bw.nth xs 0 = x := ⟨_, rfl⟩
      obtain ⟨y, hy⟩ : ∃ y, Bw.nth xs 1 = y := ⟨_, rfl⟩
      rw [hx] at c0 d0 hst2
      rw [hy] at c1 d1 hst hst2
      replace c0 : w4.cell? ⟨b, 0, none⟩ = some (.int .i64 x) := c0
      replace c1 : w4.cell? ⟨b, 1, none⟩ = some (.int .i64 y) := c1
      replace d0 : w4.cell? ⟨d, 0, none⟩ = some (.int .i64 x) := d0
      replace d1 : w4.cell? ⟨d, 1, none⟩ = some (.int .i64 y) := d1
      have HXY : Hid (Bw.nth xs 0 = x ∧ Bw.nth xs 1 = y) := ⟨hx, hy⟩
      have hdb : ¬ d = b := by omega
      have HROW4 := Lib.hid hrow4
      have HST := Lib.hid (And.intro hst2.1 (Bw.grown_transN hst.2 hst2.2))
      clear hx hy hst hst2 hown4 hgrow4 hnil4 hrow4 hnews
      obtain ⟨w5, hw5⟩ : ∃ w5, (w4.setCell ⟨d, 0, none⟩ (.int .i64 y)).setCell ⟨d, 1, none⟩ (.int .i64 x) = w5 := ⟨_, rfl⟩
      rw [hw5] at HST
      have HB5 := Lib.hid (HB4.out.grown HST.out.2 HB4.out.size (fun k e => by have e : some d = some k := e; injection e with e; omega))
      have hrow5 := HROW4.out.kept HST.out.2 (.inr (by show some b ≠ some d; intro e; injection e with e; omega))
      have hsz5 : w4.heap.size ≤ w5.heap.size := HST.out.2.size
      have OX5 : Hid (Bw.Own 3 w.heap.size w5 (.slice (some ⟨d, 0, none⟩) n dc) ((xs.set 0 y).set 1 x)) := by
        have h := World.ownsRow.mono HST.out.1 hsz3
        unfold Hid Bw.Own
        rw [List.length_set, List.length_set, HXN.out, List.map_set, List.map_set]
        exact h
      have hnews5 := Lib.hid ((hrow5.alloc (.cells #[] 3)).cells rfl)
      have HROW5 := Lib.hid hrow5
      clear hrow5
      go_wp2_with (at_builtin; refine wpList_append_own _ rfl _ _ 22 rfl w5.heap.size 3 i0 (.int .i64 0) 1 8 Try.underlying22 hi hz0 hz1 hz2 rfl (by decide) _ 0 [] rfl (World.ownsRow_made w5 #[] 0 (Nat.le_refl _) (by unfold maxLen; omega) rfl) ⟨b, 0, none⟩ n cap (xs.map (Value.int .i64)) rfl (by rw [List.length_map, HXN.out]; omega) hnews5.out (ints_oneCell .i64 xs) (by unfold maxLen; omega) (by omega) (by simp) ?_)
      intro v6 w6 hown6 hgrow6 hnil6
      obtain ⟨f, fc, rfl⟩ := Bw.own_some hown6 hnil6
      replace hown6 : w6.ownsRow w5.heap.size 3 1 (.slice (some ⟨f, 0, none⟩) n fc) n (xs.map (Value.int .i64)) := by simpa using hown6
      have hf := hown6.lt f rfl
      have hsz6 : w5.heap.size < w6.heap.size := by have := hgrow6.size; simp at this; omega
      have HB6 := Lib.hid ((HB5.out.alloc (by omega) (.cells #[] 3)).grown hgrow6 (by simp; omega) (fun k e => by have e : some w5.heap.size = some k := e; injection e with e; omega))
      have hrow6 := (HROW5.out.alloc (.cells #[] 3)).kept hgrow6 (.inr (by show some b ≠ some w5.heap.size; intro e; injection e with e; omega))
      have OX6 : Hid (Bw.Own 3 w.heap.size w6 (.slice (some ⟨d, 0, none⟩) n dc) ((xs.set 0 y).set 1 x)) :=
        ((Bw.Own.row OX5.out).alloc (.cells #[] 3)).kept hgrow6 (.inr (by show some d ≠ some w5.heap.size; intro e; injection e with e; omega))
      have g0 := hrow6.cellAt 0 (by omega)
      rw [List.getElem?_map, Bw.nth_lt (show 0 < xs.length by rw [HXN.out]; omega), HXY.out.1] at g0
      replace g0 : w6.cell? ⟨b, 0, none⟩ = some (.int .i64 x) := g0
      have g1 := hown6.cellAt 1 (by omega)
      rw [List.getElem?_map, Bw.nth_lt (show 1 < xs.length by rw [HXN.out]; omega), HXY.out.2] at g1
      replace g1 : w6.cell? ⟨f, 1, none⟩ = some (.int .i64 y) := g1
      have gf := hown6.frozenAt 1
      have hst := hown6.stored 1 (.int .i64 x)
      have HSY := Lib.hid hst
      obtain ⟨w7, hw7⟩ : ∃ w7, w6.setCell ⟨f, 1, none⟩ (.int .i64 x) = w7 := ⟨_, rfl⟩
      rw [hw7] at HSY
      have HB7 := Lib.hid (HB6.out.grown HSY.out.2 HB6.out.size (fun k e => by have e : some f = some k := e; injection e with e; omega))
      have OX7 : Hid (Bw.Own 3 w.heap.size w7 (.slice (some ⟨d, 0, none⟩) n dc) ((xs.set 0 y).set 1 x)) := OX6.out.grown HSY.out.2 (.inr (by show some d ≠ some f; intro e; injection e with e; omega))
      have OY7 : Hid (Bw.Own 3 w.heap.size w7 (.slice (some ⟨f, 0, none⟩) n fc) (xs.set 1 x)) := by
        have h := World.ownsRow.mono HSY.out.1 (show w.heap.size ≤ w5.heap.size by omega)
        unfold Hid Bw.Own
        rw [List.length_set, HXN.out, List.map_set]
        exact h
      have hxok : Hid (Bw.OrderOk ((xs.set 0 y).set 1 x)) := by
        have := Bw.swap_ok ha.out (by rw [HXN.out]; exact h2)
        rw [HXY.out.1, HXY.out.2] at this
        exact this
      have hyno : Hid (¬ Bw.OrderOk (xs.set 1 x)) := by
        have := Bw.twice_not_ok (zs := xs) (by rw [HXN.out]; exact h2)
        rw [HXY.out.1] at this
        exact this
      have HLY : Hid ((xs.set 1 x).length ≤ 1048576) := by unfold Hid; rw [List.length_set, HXN.out]; omega
      clear hst hown6 hgrow6 hnil6 hrow6 c0 c1 d0 d1 f0 f1 hw5
      go_wp2_with fail
      (with_reducible refine (impl_OrderValid_yes _ _ _ OX7.out.reads hxok).mono ?_)
      rintro e w8 ⟨rfl, hb⟩
      have HB8 := Lib.hid (HB7.out.trans (hb.mono HB7.out.size))
      have OY8 := Lib.hid (OY7.out.below hb)
      clear hb
      go_wp2_with fail
      (with_reducible refine (impl_OrderValid_no _ _ _ OY8.out.reads HLY.out hyno).mono ?_)
      rintro e w9 ⟨rfl, hb⟩
      have HB9 := Lib.hid (HB8.out.trans (hb.mono HB8.out.size))
      clear hb
      go_wp2_with fail
      go_ret
      exact ⟨rfl, HB9.out⟩
    · have h1 : xs.length < 2 := by omega
      have ht2 : decide ((xs.length : Int) < 2) = true := by simp; omega
      have HN : Hid (∀ w : World, Calls Try.prog 20 #[.slice none 0 0] w fun e w' => e = .returned (.bool false) ∧ Below w.heap.size w w') := fun w =>
        impl_OrderValid_no _ [] w (Bw.Reads.nil _ _ _) (by simp) (Lib.hid (fun h => absurd h.1.1 (by simp)))
      go_wp2_with fail
      (with_reducible refine (HN.out _).mono ?_)
      rintro e w4 ⟨rfl, hb⟩
      have HB := Lib.hid (HB.out.trans (hb.mono HB.out.size))
      clear hb
      go_wp2_with fail
      refine (alive_any _).mono ?_
      rintro e w2 ⟨rfl, hb2⟩
      have HB2 := Lib.hid hb2
      clear hb2
      go_wp2_with fail
      go_ret
      exact ⟨rfl, HB.out.trans (HB2.out.mono HB.out.size)⟩
  · have ha : Hid (¬ Bw.OrderOk xs) := hok
    clear hok
    go_wp2_with fail
    (with_reducible refine (impl_OrderValid_no _ xs _ HO.out.reads (by omega) ha).mono ?_)
    rintro e w2 ⟨rfl, hb⟩
    have HB := Lib.hid (HB.out.trans (hb.mono HB.out.size))
    have HO := Lib.hid (HO.out.below hb)
    clear hb
    go_wp2_with fail
    (with_reducible refine (spec_OrderValid_no _ xs _ HO.out.reads (by omega) ha).mono ?_)
    rintro e w3 ⟨rfl, hb⟩
    have HB := Lib.hid (HB.out.trans (hb.mono HB.out.size))
    clear hb
    have HN : Hid (∀ w : World, Calls Try.prog 20 #[.slice none 0 0] w fun e w' => e = .returned (.bool false) ∧ Below w.heap.size w w') := fun w =>
      impl_OrderValid_no _ [] w (Bw.Reads.nil _ _ _) (by simp) (Lib.hid (fun h => absurd h.1.1 (by simp)))
    go_wp2_with fail
    (with_reducible refine (HN.out _).mono ?_)
    rintro e w4 ⟨rfl, hb⟩
    have HB := Lib.hid (HB.out.trans (hb.mono HB.out.size))
    clear hb
    go_wp2_with fail
    refine (alive_any _).mono ?_
    rintro e w2 ⟨rfl, hb2⟩
    have HB2 := Lib.hid hb2
    clear hb2
    go_wp2_with fail
    go_ret
    exact ⟨rfl, HB.out.trans (HB2.out.mono HB.out.size)⟩

end Go.Proofs.Ytknchojfhpchiac
