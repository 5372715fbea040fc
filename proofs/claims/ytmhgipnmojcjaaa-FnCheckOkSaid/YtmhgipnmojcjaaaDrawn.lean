/- Contracts: drawn lists of bits. -/
import Derived.Test.YtmhgipnmojcjaaaDraws
import Derived.Test.YtmhgipnmojcjaaaCheck
import Derived.Maps.AppendAt
import Derived.OwnWalk

namespace Go.Proofs.Ytmhgipnmojcjaaa
open Go.RowKit
set_option linter.unusedVariables false

/-- what a drawn list is: a slice that is not nil, of at most 17 numbers from 0 on and at most 2 -/
def DrewRow (g : Nat) (w : World) (v : Value) (zs : List Int) : Prop :=
  Bw.Reads w v zs ∧ zs.length ≤ 17 ∧ (∀ j, j < zs.length → 0 ≤ Bw.nth zs j ∧ Bw.nth zs j ≤ 2) ∧ ∃ b cap, v = .slice (some ⟨b, 0, none⟩) zs.length cap ∧ b ≠ g

theorem DrewRow.reads {g : Nat} {w : World} {v : Value} {zs : List Int} (h : DrewRow g w v zs) : Bw.Reads w v zs := And.left h

theorem DrewRow.grown {g : Nat} {w w' : World} {v : Value} {zs : List Int} (h : DrewRow g w v zs) (hg : w.grownBy w' (some g)) : DrewRow g w' v zs := by
  obtain ⟨h1, h2, h3, b, cap, rfl, hb⟩ := h
  refine ⟨?_, h2, h3, b, cap, rfl, hb⟩
  rcases h1 with ⟨h0, _⟩ | ⟨h0, b2, off, cap2, e, hc, hlt, hcell⟩
  · subst h0; exact Bw.Reads.nil _ _ _
  · injection e with e1 e2 e3
    injection e1 with e1
    injection e1 with e4 e5
    subst e4; subst e5; subst e3
    exact .inr ⟨h0, b, 0, cap, rfl, hc, Nat.lt_of_lt_of_le hlt hg.size, fun i hi => hg.cell (hcell i hi) (by show some b ≠ some g; intro e; injection e with e; exact hb e)⟩

theorem nth_snoc {zs : List Int} {x : Int} {j : Nat} (hj : j < (zs ++ [x]).length) : (j < zs.length ∧ Bw.nth (zs ++ [x]) j = Bw.nth zs j) ∨ (j = zs.length ∧ Bw.nth (zs ++ [x]) j = x) := by
  rcases Nat.lt_or_ge j zs.length with h | h
  · exact .inl ⟨h, by unfold Bw.nth; rw [List.getD_eq_getElem?_getD, List.getD_eq_getElem?_getD, List.getElem?_append_left h]⟩
  · have : j = zs.length := by simp at hj; omega
    subst this
    exact .inr ⟨rfl, by unfold Bw.nth; rw [List.getD_eq_getElem?_getD, List.getElem?_append_right (Nat.le_refl _)]; simp⟩

theorem snoc_bd {zs : List Int} {x hi : Int} (h : ∀ j, j < zs.length → 0 ≤ Bw.nth zs j ∧ Bw.nth zs j ≤ hi) (hx : 0 ≤ x ∧ x ≤ hi) : ∀ j, j < (zs ++ [x]).length → 0 ≤ Bw.nth (zs ++ [x]) j ∧ Bw.nth (zs ++ [x]) j ≤ hi := by
  intro j hj
  rcases nth_snoc hj with ⟨h1, e⟩ | ⟨h1, e⟩ <;> rw [e]
  · exact h j h1
  · exact hx

/-- a row of the call's own that is not nil -/
theorem own_some {w : World} {base e : Nat} {v : Value} {n : Nat} {xs : List Value} (h : w.ownsRow base e 1 v n xs) (hv : v ≠ .slice none 0 0) : ∃ b cap, v = .slice (some ⟨b, 0, none⟩) n cap := by
  rcases h.2 with ⟨rfl, _⟩ | ⟨b, cap, cur, rfl, _⟩
  · exact absurd rfl hv
  · exact ⟨b, cap, rfl⟩

/-- a write to a block that the call owns leaves the reader -/
theorem rd_own {t : TypeId} {w w' : World} {g lim : Nat} {row : Option Nat} (h : Bw.Rd t w g lim) (hg : w.grownBy w' row) (hr : ∀ k, row = some k → g < k) : Bw.Rd t w' g lim := by
  have hlt := h.lt
  obtain ⟨a, n, cap, k, bs, hc, hk, hn, hb⟩ := h
  refine ⟨a, n, cap, k, bs, (hg.block g hlt (by intro e; exact Nat.lt_irrefl _ (hr g e.symm))).trans hc, hk, hn, ?_⟩
  rcases hb with h | ⟨b, off, ha, hbg, hcs⟩
  · exact .inl h
  · refine .inr ⟨b, off, ha, hbg, fun i hi => ⟨(hcs i hi).1, hg.cell (hcs i hi).2 ?_⟩⟩
    show some b ≠ row
    intro e
    have := hr b e.symm
    omega

/-- .. and what was there before -/
theorem grown_own {a b c : World} {row row2 : Option Nat} (h : a.grownBy b row) (k : b.grownBy c row2) (hr : ∀ j, row2 = some j → a.heap.size ≤ j) : a.grownBy c row :=
  ⟨k.os.trans h.os, k.tape.trans h.tape, k.output.trans h.output, Nat.le_trans h.size k.size, fun i hi hne => (k.block i (Nat.lt_of_lt_of_le hi h.size) (by intro e; have := hr i e.symm; omega)).trans (h.block i hi hne)⟩

theorem own_ge {w : World} {base e : Nat} {v : Value} {n : Nat} {xs : List Value} (h : w.ownsRow base e 1 v n xs) : ∀ k, v.ownBlock = some k → base ≤ k := fun k e => (h.lt k e).1

theorem drew_own {w : World} {g base : Nat} {v : Value} {zs : List Int} (h : w.ownsRow base 3 1 v zs.length (zs.map (Value.int .i64))) (hb : g < base) (hv : v ≠ .slice none 0 0) (hl : zs.length ≤ 17) (ha : ∀ j, j < zs.length → 0 ≤ Bw.nth zs j ∧ Bw.nth zs j ≤ 2) : DrewRow g w v zs :=
  ⟨(Bw.Reads.of_owns h).1, hl, ha, by obtain ⟨b, cap, rfl⟩ := own_some h hv; exact ⟨b, cap, rfl, by have := own_ge h b rfl; omega⟩⟩

theorem made17 : (Go.madeCells #[Value.int .i64 0] 17).toList = (List.replicate 17 (0 : Int)).map (Value.int .i64) := by
  have h := Bw.filled_start (zs := List.replicate 17 (0 : Int))
  simpa [Bw.filled] using h

set_option maxHeartbeats 1000000 in
theorem l20Bits_any (g lim : Nat) (n : Int) (w : World) (hr : Bw.Rd 47 w g lim) (hl : lim ≤ 9000) (hn : 1 ≤ n) (hn2 : n ≤ 1000) :
    Calls Try.prog 16 #[.pointer (some ⟨g, 0, none⟩), .int .i64 n] w fun e w' => ∃ v zs, e = .returned v ∧ DrewRow g w' v zs ∧ Bw.Rd 47 w' g (lim + 16) ∧ w.grownBy w' (some g) := by
  obtain ⟨i0, hi, hz0, hz1, hz2⟩ := info_parts infoInt
  have hlt := hr.lt
  have H0 := Lib.hid hr
  have G0 := Lib.hid (World.grownBy.refl w (some g))
  clear hr
  go_enter Try.func16, Try.ntmps16
  go_wp2_with fail
  refine (pick_any g lim 13 _ (rd_alloc H0.out _) (by omega)).mono ?_
  rintro e w1 ⟨c, rfl, hp, hr1, hg1⟩
  obtain ⟨c, rfl⟩ := Int.eq_ofNat_of_zero_le hp.1
  have hc13 := hp.2.1 (by omega)
  have hsz := hg1.size
  have hown0 : w1.ownsRow w.heap.size 3 1 (.slice (some ⟨w.heap.size, 0, none⟩) 0 0) 0 [] :=
    (World.ownsRow_made w #[] 0 (Nat.le_refl _) (by unfold maxLen; omega) rfl).kept hg1 (.inr (by show some w.heap.size ≠ some g; intro e; injection e with e; omega))
  have H1 := Lib.hid hr1
  have G1 := Lib.hid (grown_of_alloc hg1)
  have hown1 := Lib.hid hown0
  clear hr1 hg1 hp hown0 hsz
  go_wp2_with fail
  go_loopw [5, 6] (fun v i wr => ∃ (zs : List Int) (c : Nat), i = .int .i64 c ∧ zs.length + c ≤ 12 ∧ v ≠ .slice none 0 0 ∧ Hid (wr.ownsRow w.heap.size 3 1 v zs.length (zs.map (Value.int .i64))) ∧ Hid (Bw.Rd 47 wr g (lim + 1 + zs.length)) ∧ Hid (w.grownBy wr (some g)) ∧ Hid (∀ j, j < zs.length → 0 ≤ Bw.nth zs j ∧ Bw.nth zs j ≤ 1)) (fun _ i _ => (intOf i).toNat)
  case atStart => exact ⟨[], c, rfl, by simp; omega, by simp, by simpa using hown1, by simpa using H1, G1, Lib.hid (fun j h => absurd h (by simp))⟩
  case round =>
    obtain ⟨zs, c, rfl, hzc, hv, ho, hr, hg, hall⟩ := hrel
    by_cases hl : 0 < c
    · go_wp2_with fail
      (with_reducible refine (pick_any g _ 2 _ hr.out (by omega)).mono ?_)
      rintro e w2 ⟨x, rfl, hp, hr2, hg2⟩
      have hx0 := hp.1
      have hx1 := hp.2.1 (by omega)
      have hbase : w.heap.size ≤ w2.heap.size := Nat.le_trans hg.out.size hg2.size
      have hown := (ho.out.kept hg2 (.inr (by have := ho.out.lt; intro e; have := (this g e).1; omega))).alloc (.cells #[.int .i64 x] 3)
      have H2 := Lib.hid hr2
      have G2 := Lib.hid (Bw.grown_trans hg.out hg2)
      clear hr2 hg2 hp
      go_wp2_with (at_builtin; refine wpList_append_own _ rfl _ _ 23 rfl w.heap.size 3 i0 (.int .i64 0) 1 8 Try.underlying23 hi hz0 hz1 hz2 rfl (by decide) _ zs.length _ rfl hown ⟨w2.heap.size, 0, none⟩ 1 1 [.int .i64 x] rfl rfl (cell_one_new _ _ _) (ints_oneCell .i64 [x]) (by unfold maxLen; omega) (by omega) (by simp; omega) ?_)
      intro v' w3 hown3 hgrow hnil
      have hlen : (zs ++ [x]).length = zs.length + 1 := by simp
      have hge := own_ge ho.out
      have HO : Hid (w3.ownsRow w.heap.size 3 1 v' (zs ++ [x]).length ((zs ++ [x]).map (Value.int .i64))) := by rw [hlen, List.map_append]; exact hown3
      have HR : Hid (Bw.Rd 47 w3 g (lim + 1 + (zs ++ [x]).length)) := by rw [hlen]; exact rd_own (rd_alloc H2.out _) hgrow (fun k e => by have := hge k e; omega)
      have HG : Hid (w.grownBy w3 (some g)) := grown_own (Bw.grown_alloc G2.out _) hgrow hge
      have HA : Hid (∀ j, j < (zs ++ [x]).length → 0 ≤ Bw.nth (zs ++ [x]) j ∧ Bw.nth (zs ++ [x]) j ≤ 1) := snoc_bd hall.out ⟨hx0, by omega⟩
      have hv' : v' ≠ .slice none 0 0 := hnil
      clear hown hown3 hgrow hnil hge
      go_wp2
      go_roundw
      case rel => exact ⟨zs ++ [x], c - 1, by go_num, by omega, hv', HO, HR, HG, HA⟩
      case measure => simp [intOf]; omega
    · obtain rfl : c = 0 := by omega
      go_wp2_with fail
      (with_reducible refine (odd_any g _ n _ hr.out (by omega) hn hn2).mono ?_)
      rintro e w2 ⟨x, rfl, hr2, hg2⟩
      have hbase : w.heap.size ≤ w2.heap.size := Nat.le_trans hg.out.size hg2.size
      have hown := Lib.hid (ho.out.kept hg2 (.inr (by have := ho.out.lt; intro e; have := (this g e).1; omega)))
      have H2 := Lib.hid hr2
      have G2 := Lib.hid (Bw.grown_trans hg.out hg2)
      have hge := Lib.hid (own_ge ho.out)
      clear hr2 hg2 hr hg ho
      cases x
      · go_wp2_with fail
        go_ret
        exact ⟨_, zs, rfl, drew_own hown.out hlt hv (by omega) (fun j hj => ⟨(hall.out j hj).1, by have := (hall.out j hj).2; omega⟩), H2.out.more (by omega), G2.out⟩
      · go_wp2_with fail
        (with_reducible refine (pick_any g _ 2 _ H2.out (by omega)).mono ?_)
        rintro e w3 ⟨y, rfl, hp, hr3, hg3⟩
        have hy0 := hp.1
        have hy1 := hp.2.1 (by omega)
        have hbase3 : w.heap.size ≤ w3.heap.size := Nat.le_trans hbase hg3.size
        have hown3 := (hown.out.kept hg3 (.inr (by have := hown.out.lt; intro e; have := (this g e).1; omega))).alloc (.cells #[.int .i64 2] 3)
        have H3 := Lib.hid hr3
        have G3 := Lib.hid (Bw.grown_trans G2.out hg3)
        clear hr3 hg3 hp
        rcases (show y = 0 ∨ y = 1 by omega) with rfl | rfl
        · have hge3 := hge.out
          clear hown3
          go_wp2_with (at_make; refine wpList_make_full _ rfl _ _ 23 rfl w.heap.size 3 i0 (.int .i64 0) 1 Try.underlying23 hi hz0 hz1 _ _ _ _ 17 rfl rfl rfl rfl (by rw [hz2]; omega) (by unfold maxLen; omega) hbase3 ?_)
          intro w4 hown4 hgrow4
          have HO : Hid (w4.ownsRow w.heap.size 3 1 (.slice (some ⟨w3.heap.size, 0, none⟩) 17 17) (List.replicate 17 (0 : Int)).length ((List.replicate 17 (0 : Int)).map (Value.int .i64))) := by rw [← made17]; exact hown4
          have HR : Hid (Bw.Rd 47 w4 g (lim + 16)) := (rd_own H3.out hgrow4 (fun k e => by cases e)).more (by omega)
          have HG : Hid (w.grownBy w4 (some g)) := grown_own G3.out hgrow4 (fun k e => by cases e)
          clear hown4 hgrow4
          go_wp2_with fail
          go_ret
          exact ⟨_, List.replicate 17 0, rfl, drew_own HO.out hlt (by simp) (by simp) (by decide), HR.out, HG.out⟩
        · go_wp2_with (at_builtin; refine wpList_append_own _ rfl _ _ 23 rfl w.heap.size 3 i0 (.int .i64 0) 1 8 Try.underlying23 hi hz0 hz1 hz2 rfl (by decide) _ zs.length _ rfl hown3 ⟨w3.heap.size, 0, none⟩ 1 1 [.int .i64 2] rfl rfl (cell_one_new _ _ _) (ints_oneCell .i64 [2]) (by unfold maxLen; omega) (by omega) (by simp; omega) ?_)
          intro v' w4 hown4 hgrow hnil
          have hlen : (zs ++ [2]).length = zs.length + 1 := by simp
          have HO : Hid (w4.ownsRow w.heap.size 3 1 v' (zs ++ [2]).length ((zs ++ [2]).map (Value.int .i64))) := by rw [hlen, List.map_append]; exact hown4
          have HR : Hid (Bw.Rd 47 w4 g (lim + 16)) := (rd_own (rd_alloc H3.out _) hgrow (fun k e => by have := hge.out k e; omega)).more (by omega)
          have HG : Hid (w.grownBy w4 (some g)) := grown_own (Bw.grown_alloc G3.out _) hgrow hge.out
          have HA : Hid (∀ j, j < (zs ++ [2]).length → 0 ≤ Bw.nth (zs ++ [2]) j ∧ Bw.nth (zs ++ [2]) j ≤ 2) := snoc_bd (fun j hj => ⟨(hall.out j hj).1, by have := (hall.out j hj).2; omega⟩) ⟨by omega, by omega⟩
          have hv' : v' ≠ .slice none 0 0 := hnil
          clear hown3 hown4 hgrow hnil
          go_wp2_with fail
          go_ret
          exact ⟨_, zs ++ [2], rfl, drew_own HO.out hlt hv' (by omega) HA.out, HR.out, HG.out⟩

set_option maxHeartbeats 1000000 in
theorem DrawCheckOf_any (a : Option Addr) (n cap : Nat) (w : World) (hc : CodeIs w a n cap) :
    Calls Try.prog 5 #[.slice a n cap] w fun e w' => ∃ v zs x g, e = .returned (.tuple #[v, .int .i64 x]) ∧ DrewRow g w' v zs ∧ Below w.heap.size w w' := by
  have HC := Lib.hid hc
  clear hc
  go_enter Try.func5, Try.ntmps5
  go_wp2_with fail
  refine (open_any a n cap _ HC.out.1 HC.out.2.1 HC.out.2.2).mono ?_
  rintro e w0 ⟨g, rfl, hgB, hr0, hb0⟩
  have H0 := Lib.hid hr0
  have B0 := Lib.hid hb0
  have G0 := Lib.hid (World.grownBy.refl w0 (some g))
  clear hr0 hb0
  go_wp2_with fail
  (with_reducible refine (l20Bits_any g 0 9 _ H0.out (by omega) (by omega) (by omega)).mono ?_)
  rintro e w1 ⟨v, zs, rfl, hd, hr1, hg1⟩
  have D1 := Lib.hid hd
  have H1 := Lib.hid hr1
  have G1 := Lib.hid hg1
  clear hd hr1 hg1
  go_wp2_with fail
  (with_reducible refine (l20Divisor_any g _ _ H1.out (by omega)).mono ?_)
  rintro e w2 ⟨x, rfl, hx, hr2, hg2⟩
  have D2 := Lib.hid (D1.out.grown hg2)
  have G2 := Lib.hid (Bw.grown_trans G1.out hg2)
  clear hr2 hg2
  go_wp2_with fail
  go_ret2
  exact ⟨v, zs, x, g, rfl, D2.out, Bw.below_of_grown B0.out G2.out B0.out.size hgB⟩

set_option maxHeartbeats 1000000 in
theorem DrawCheckOk_any (a : Option Addr) (n cap : Nat) (w : World) (hc : CodeIs w a n cap) :
    Calls Try.prog 11 #[.slice a n cap] w fun e w' => ∃ v zs x y g, e = .returned (.tuple #[v, .int .i64 x, .int .i64 y]) ∧ DrewRow g w' v zs ∧ Below w.heap.size w w' := by
  have HC := Lib.hid hc
  clear hc
  go_enter Try.func11, Try.ntmps11
  go_wp2_with fail
  refine (open_any a n cap _ HC.out.1 HC.out.2.1 HC.out.2.2).mono ?_
  rintro e w0 ⟨g, rfl, hgB, hr0, hb0⟩
  have H0 := Lib.hid hr0
  have B0 := Lib.hid hb0
  have G0 := Lib.hid (World.grownBy.refl w0 (some g))
  clear hr0 hb0
  go_wp2_with fail
  (with_reducible refine (l20Bits_any g 0 12 _ H0.out (by omega) (by omega) (by omega)).mono ?_)
  rintro e w1 ⟨v, zs, rfl, hd, hr1, hg1⟩
  have D1 := Lib.hid hd
  have H1 := Lib.hid hr1
  have G1 := Lib.hid hg1
  clear hd hr1 hg1
  go_wp2_with fail
  (with_reducible refine (l20Divisor_any g _ _ H1.out (by omega)).mono ?_)
  rintro e w2 ⟨x, rfl, hx, hr2, hg2⟩
  have D2 := Lib.hid (D1.out.grown hg2)
  have H2 := Lib.hid hr2
  have G2 := Lib.hid (Bw.grown_trans G1.out hg2)
  clear hr2 hg2
  go_wp2_with fail
  (with_reducible refine (pick_any g _ 2 _ H2.out (by omega)).mono ?_)
  rintro e w3 ⟨y, rfl, hp, hr3, hg3⟩
  have hy0 := hp.1
  have hy1 := hp.2.1 (by omega)
  have D3 := Lib.hid (D2.out.grown hg3)
  have H3 := Lib.hid hr3
  have G3 := Lib.hid (Bw.grown_trans G2.out hg3)
  clear hr3 hg3 hp
  rcases (show y = 0 ∨ y = 1 by omega) with rfl | rfl
  · obtain ⟨r, hr⟩ := Bw.checkIs_some zs x
    have HR := Lib.hid hr
    clear hr
    go_wp2_with fail
    (with_reducible refine (spec_CheckOf_any v zs x _ D3.out.reads r HR).mono ?_)
    rintro e w' ⟨rfl, rfl⟩
    go_wp2_with fail
    go_ret3
    exact ⟨v, zs, x, r, g, rfl, D3.out, Bw.below_of_grown B0.out G3.out B0.out.size hgB⟩
  · go_wp2_with fail
    (with_reducible refine (pick_any g _ 9 _ H3.out (by omega)).mono ?_)
    rintro e w4 ⟨z, rfl, hp, hr4, hg4⟩
    have hz0 := hp.1
    have hz1 := hp.2.1 (by omega)
    have D4 := Lib.hid (D3.out.grown hg4)
    have G4 := Lib.hid (Bw.grown_trans G3.out hg4)
    clear hr4 hg4 hp
    go_wp2_with fail
    go_ret3
    exact ⟨v, zs, x, _, g, rfl, D4.out, Bw.below_of_grown B0.out G4.out B0.out.size hgB⟩

end Go.Proofs.Ytmhgipnmojcjaaa
