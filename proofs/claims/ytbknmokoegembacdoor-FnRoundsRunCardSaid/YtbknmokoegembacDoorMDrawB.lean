/- Contracts: drawn orders. -/
import Derived.Test.YtbknmokoegembacDoorMDraw
import Derived.Test.YtbknmokoegembacDoorOwn

namespace Bw
open Go Go.RowKit

theorem own_someN {w : World} {base e : Nat} {v : Value} {n : Nat} {xs : List Value} (h : w.ownsRow base e 1 v n xs) (hv : v ≠ .slice none 0 0) : ∃ b cap, v = .slice (some ⟨b, 0, none⟩) n cap := by
  rcases h.2 with ⟨rfl, _⟩ | ⟨b, cap, cur, rfl, _⟩
  · exact absurd rfl hv
  · exact ⟨b, cap, rfl⟩

theorem own_cap {w : World} {base e : Nat} {b n cap : Nat} {xs : List Value} (h : w.ownsRow base e 1 (.slice (some ⟨b, 0, none⟩) n cap) n xs) : n ≤ cap := by
  rcases h.2 with ⟨h, _⟩ | ⟨g, c, cur, e1, hb, hg, hn, _⟩
  · cases h
  · injection e1 with _ _ e3
    omega

/-- the cells from a place on -/
theorem own_news {w : World} {base e : Nat} {b n cap k : Nat} {zs : List Int} (h : w.ownsRow base e 1 (.slice (some ⟨b, 0, none⟩) n cap) n (zs.map (Value.int .i64))) :
    ∀ j u, ((zs.drop k).map (Value.int .i64))[j]? = some u → w.cell? ((⟨b, k, none⟩ : Addr).add j) = some u := by
  intro j u hj
  have hl : zs.length = n := by have := h.1; simpa using this
  rw [List.map_drop, List.getElem?_drop] at hj
  have hjl : k + j < n := by
    rcases Nat.lt_or_ge (k + j) n with h | h
    · exact h
    · rw [List.getElem?_eq_none (by simpa [hl] using h)] at hj; cases hj
  have ea : (⟨b, k, none⟩ : Addr).add j = ⟨b, k + j, none⟩ := by
    by_cases hz : j = 0
    · subst hz; simp [Addr.add]
    · simp [Addr.add, hz]
  rw [ea, h.cellAt (k + j) (by omega)]
  exact hj

/-- the cells -/
theorem own_cells {w : World} {base e : Nat} {b n cap : Nat} {xs : List Value} (h : w.ownsRow base e 1 (.slice (some ⟨b, 0, none⟩) n cap) n xs) :
    ∀ j u, xs[j]? = some u → w.cell? ((⟨b, 0, none⟩ : Addr).add j) = some u := h.cells rfl

theorem drop_oneCell (zs : List Int) (a : Nat) : ∀ u ∈ List.drop a (zs.map (Value.int .i64)), u.oneCell' = true := by
  rw [← List.map_drop]; exact ints_oneCell .i64 _

theorem own_madeB (t : TypeId) (w : World) : Own t w.heap.size (w.alloc (.cells #[] t)) (.slice (some ⟨w.heap.size, 0, none⟩) 0 0) [] :=
  World.ownsRow_made w #[] 0 (Nat.le_refl _) (by unfold maxLen; omega) rfl

theorem own_ne_g {t : TypeId} {base g : Nat} {w : World} {v : Value} {zs : List Int} (h : Own t base w v zs) (hg : g < base) : v.ownBlock = none ∨ v.ownBlock ≠ Option.some g := by
  cases hv : v.ownBlock with
  | none => exact .inl rfl
  | some k =>
    refine .inr fun e => ?_
    have := (h.ge k hv).1
    injection e with e
    omega

theorem own_insert {t : TypeId} {base a : Nat} {w : World} {v : Value} {zs : List Int} {x : Int} (ha : a ≤ zs.length)
    (h : w.ownsRow base t 1 v (a + 1 + (zs.length - a)) (List.take a (zs.map (Value.int .i64)) ++ Value.int .i64 x :: List.drop a (zs.map (Value.int .i64)))) : Own t base w v (zs.take a ++ x :: zs.drop a) := by
  have e : (zs.take a ++ x :: zs.drop a).length = a + 1 + (zs.length - a) := by simp; omega
  unfold Own
  rw [e, List.map_append, List.map_cons, List.map_take, List.map_drop]
  exact h

/-- a part from the first place on -/
theorem own_prefix {w : World} {base e : Nat} {b n cap k : Nat} {xs : List Value} (h : w.ownsRow base e 1 (.slice (some ⟨b, 0, none⟩) n cap) n xs) (hk : k ≤ n) : w.ownsRow base e 1 (.slice (some ⟨b, 0, none⟩) k cap) k (xs.take k) := by
  have hl := h.1
  rcases h.2 with ⟨h, _⟩ | ⟨g, c, cur, e1, hb, hg, hn, hm, hcs, ht⟩
  · cases h
  · injection e1 with e1 e2 e3
    injection e1 with e1
    injection e1 with e1
    subst e1; subst e3
    refine ⟨by rw [List.length_take, hl]; omega, .inr ⟨b, cap, cur, rfl, hb, hg, by omega, hm, hcs, ?_⟩⟩
    rw [← ht, List.take_take]
    congr 1
    omega

end Bw

namespace Go.Proofs.YtbknmokoegembacDoor
open Go.RowKit
set_option linter.unusedVariables false

/-- a write to a block that the call owns leaves the reader -/
theorem rd_own {t : TypeId} {w w' : World} {g lim : Nat} {row : Option Nat} (h : Bw.Rd t w g lim) (hg : w.grownBy w' row) (hr : ∀ k, row = some k → g < k) : Bw.Rd t w' g lim := by
  have hlt := h.lt
  obtain ⟨a, n, cap, k, bs, hc, hk, hn, hb⟩ := h
  refine ⟨a, n, cap, k, bs, (hg.block g hlt (by intro e; exact Nat.lt_irrefl _ (hr g e.symm))).trans hc, hk, hn, ?_⟩
  rcases hb with h | ⟨b, off, ha, hbg, hcs⟩
  · exact .inl h
  · refine .inr ⟨b, off, ha, hbg, fun i hi => ⟨(hcs i hi).1, hg.cell (hcs i hi).2 ?_⟩⟩
    show some b ≠ row
    intro e
    have := hr b e.symm
    omega

/-- .. and what was there before -/
theorem grown_own {a b c : World} {row row2 : Option Nat} (h : a.grownBy b row) (k : b.grownBy c row2) (hr : ∀ j, row2 = some j → a.heap.size ≤ j) : a.grownBy c row :=
  ⟨k.os.trans h.os, k.tape.trans h.tape, k.output.trans h.output, Nat.le_trans h.size k.size, fun i hi hne => (k.block i (Nat.lt_of_lt_of_le hi h.size) (by intro e; have := hr i e.symm; omega)).trans (h.block i hi hne)⟩

set_option maxHeartbeats 1000000 in
theorem l20Order_any (g lim : Nat) (d n : Int) (w : World) (hr : Bw.Rd 59 w g lim) (hl : lim ≤ 9000) (hd : d ≤ 13) (hn : 0 ≤ n) (hn2 : n ≤ 1000) :
    Calls Tryd.prog 45 #[.pointer (some ⟨g, 0, none⟩), .int .i64 d, .int .i64 n] w fun e w' => ∃ v zs, e = .returned v ∧ Bw.Own 3 w.heap.size w' v zs ∧ zs.length ≤ 14 ∧ Bw.Rd 59 w' g (lim + 20) ∧ w.grownBy w' (some g) := by
  obtain ⟨i0, hi, hz0, hz1, hz2⟩ := info_parts infoInt
  have hlt := hr.lt
  have H0 := Lib.hid hr
  have G0 := Lib.hid (World.grownBy.refl w (some g))
  clear hr
  go_enter Tryd.func45, Tryd.ntmps45
  go_wp2_with fail
  go_loopw [7, 8] (fun u i wr => ∃ zs : List Int, i = .int .i64 (zs.length : Nat) ∧ zs.length ≤ 13 ∧ u ≠ .slice none 0 0 ∧ Hid (Bw.Own 3 w.heap.size wr u zs) ∧ Hid (Bw.Rd 59 wr g (lim + zs.length)) ∧ Hid (w.grownBy wr (some g))) (fun _ i _ => (d - intOf i).toNat)
  case atStart => exact ⟨[], rfl, by simp, by simp, Bw.own_madeB _ _, rd_alloc H0.out _, Bw.grown_alloc G0.out _⟩
  case round =>
    obtain ⟨zs, rfl, hzd, hu, hown, hrd, hg⟩ := hrel
    by_cases hl2 : (zs.length : Int) < d
    · obtain ⟨b, cap, hv⟩ := Bw.own_someN (Bw.Own.row hown.out) hu
      subst hv
      go_wp2_with fail
      (with_reducible refine (pick_any g _ _ _ hrd.out (by omega)).mono ?_)
      rintro e w2 ⟨at_, rfl, hp, hr2, hg2⟩
      obtain ⟨a, rfl⟩ := Int.eq_ofNat_of_zero_le hp.1
      have ha := hp.2.1 (by omega)
      have ha2 : a ≤ zs.length := by omega
      have hb := (hown.out.ge b rfl)
      have O2 := Lib.hid (hown.out.grown hg2 (.inr (by show some b ≠ some g; intro e; injection e with e; omega)))
      have H2 := Lib.hid hr2
      have G2 := Lib.hid (Bw.grown_trans hg.out hg2)
      clear hp hr2 hg2 ha hg hrd hown
      have hcap := Bw.own_cap (Bw.Own.row O2.out)
      have hnews := Lib.hid (Bw.own_news (k := a) ((Bw.Own.row O2.out).alloc (.cells #[] 3)))
      have hsz2 := G2.out.size
      have hb2 := O2.out.ge b rfl
      by_cases hac : a = cap
      · have haz : a = zs.length := by omega
        subst haz
        subst hac
        clear hcap ha2 hnews
        go_wp2_with (at_builtin; refine wpList_append_own _ rfl _ _ 29 rfl w2.heap.size 3 i0 (.int .i64 0) 1 8 Tryd.underlying29 hi hz0 hz1 hz2 rfl (by decide) _ 0 [] rfl (World.ownsRow_made w2 #[] 0 (Nat.le_refl _) (by unfold maxLen; omega) rfl) ⟨b, 0, none⟩ 0 0 [] rfl (by simp) (fun j u hj => by simp at hj) (fun u hu => by simp at hu) (by unfold maxLen; omega) (by omega) (by simp) ?_)
        intro v3 w3 hown3 hgrow3 hnil3
        replace hown3 : w3.ownsRow w2.heap.size 3 1 v3 0 [] := by simpa using hown3
        obtain ⟨rb, rcap, rfl⟩ := Bw.own_someN hown3 hnil3
        have hrb := hown3.lt rb rfl
        have hsz3 : w2.heap.size < w3.heap.size := by have := hgrow3.size; simp at this; omega
        have OB3 := ((Bw.Own.row O2.out).alloc (.cells #[] 3)).kept hgrow3 (.inr (by show some b ≠ some w2.heap.size; intro e; injection e with e; omega))
        have OPA := OB3.alloc (.cells #[.int .i64 (zs.length : Int)] 3)
        have H3 := Lib.hid (rd_own (rd_alloc H2.out _) hgrow3 (fun k e => by have e : some w2.heap.size = some k := e; injection e with e; omega))
        have G3 := Lib.hid (grown_own (Bw.grown_alloc G2.out _) hgrow3 (fun k e => by have e : some w2.heap.size = some k := e; injection e with e; omega))
        clear hown3 hgrow3 hnil3 OB3
        go_wp2_with (at_builtin; refine wpList_append_own_at _ rfl _ _ 29 rfl w.heap.size 3 i0 (.int .i64 0) 1 8 Tryd.underlying29 hi hz0 hz1 hz2 rfl (by decide) _ zs.length _ rfl OPA ⟨w3.heap.size, 0, none⟩ 1 1 [.int .i64 (zs.length : Int)] rfl rfl (cell_one_new _ _ _) (ints_oneCell .i64 [(zs.length : Int)]) (by unfold maxLen; omega) (by omega) (by simp; omega) ?_)
        intro v4 w4 hown4 hgrow4 hnil4 hloc4
        have hsz4 : w3.heap.size < w4.heap.size := by have := hgrow4.size; simp at this; omega
        have hge4 := Lib.hid hown4.lt
        have H4 := Lib.hid (rd_own (rd_alloc H3.out _) hgrow4 (fun k e => by have e : some b = some k := e; injection e with e; omega))
        have G4 := Lib.hid (grown_own (Bw.grown_alloc G3.out _) hgrow4 (fun k e => by have e : some b = some k := e; injection e with e; omega))
        clear hgrow4 hloc4 OPA
        go_wp2_with (at_builtin; refine wpList_append_own _ rfl _ _ 29 rfl w.heap.size 3 i0 (.int .i64 0) 1 8 Tryd.underlying29 hi hz0 hz1 hz2 rfl (by decide) _ (zs.length + 1) _ rfl hown4 ⟨rb, 0, none⟩ 0 rcap [] rfl (by simp) (fun j u hj => by simp at hj) (fun u hu => by simp at hu) (by unfold maxLen; omega) (by omega) (by omega) ?_)
        intro v5 w5 hown5 hgrow5 hnil5
        have H5 := Lib.hid (rd_own H4.out hgrow5 (fun k e => by have := (hge4.out k e).1; omega))
        have G5 := Lib.hid (grown_own G4.out hgrow5 (fun k e => (hge4.out k e).1))
        have HO : Hid (Bw.Own 3 w.heap.size w5 v5 (zs ++ [(zs.length : Int)])) := Bw.own_snoc (by simpa using hown5)
        have HL : Hid ((zs ++ [(zs.length : Int)]).length = zs.length + 1) := by unfold Hid; simp
        have HH5 : Hid (Bw.Rd 59 w5 g (lim + (zs ++ [(zs.length : Int)]).length)) := by unfold Hid; rw [HL.out]; exact H5.out
        have hv5 : v5 ≠ .slice none 0 0 := hnil5
        clear hown5 hgrow5 hnil5 hown4
        go_wp2_with fail
        go_roundw
        case rel => exact ⟨_, by rw [HL.out]; go_num, by rw [HL.out]; omega, hv5, HO, HH5, G5⟩
        case measure => simp [intOf]; omega
      · have hac2 : a < cap := by omega
        clear hac
        go_wp2_with (at_builtin; refine wpList_append_own _ rfl _ _ 29 rfl w2.heap.size 3 i0 (.int .i64 0) 1 8 Tryd.underlying29 hi hz0 hz1 hz2 rfl (by decide) _ 0 [] rfl (World.ownsRow_made w2 #[] 0 (Nat.le_refl _) (by unfold maxLen; omega) rfl) ⟨b, a, none⟩ (zs.length - a) (cap - a) ((zs.drop a).map (Value.int .i64)) rfl (by simp) hnews.out (ints_oneCell .i64 (zs.drop a)) (by unfold maxLen; omega) (by omega) (by simp) ?_)
        intro v3 w3 hown3 hgrow3 hnil3
        obtain ⟨rb, rcap, rfl⟩ := Bw.own_someN hown3 hnil3
        have hrb := hown3.lt rb rfl
        have hsz3 : w2.heap.size < w3.heap.size := by have := hgrow3.size; simp at this; omega
        have OB3 := ((Bw.Own.row O2.out).alloc (.cells #[] 3)).kept hgrow3 (.inr (by show some b ≠ some w2.heap.size; intro e; injection e with e; omega))
        have OPA := (Bw.own_prefix OB3 ha2).alloc (.cells #[.int .i64 (zs.length : Int)] 3)
        have H3 := Lib.hid (rd_own (rd_alloc H2.out _) hgrow3 (fun k e => by have e : some w2.heap.size = some k := e; injection e with e; omega))
        have G3 := Lib.hid (grown_own (Bw.grown_alloc G2.out _) hgrow3 (fun k e => by have e : some w2.heap.size = some k := e; injection e with e; omega))
        have OR3 := Lib.hid hown3
        clear hown3 hgrow3 hnil3 hnews OB3
        go_wp2_with (at_builtin; refine wpList_append_own_at _ rfl _ _ 29 rfl w.heap.size 3 i0 (.int .i64 0) 1 8 Tryd.underlying29 hi hz0 hz1 hz2 rfl (by decide) _ a _ rfl OPA ⟨w3.heap.size, 0, none⟩ 1 1 [.int .i64 (zs.length : Int)] rfl rfl (cell_one_new _ _ _) (ints_oneCell .i64 [(zs.length : Int)]) (by unfold maxLen; omega) (by omega) (by simp; omega) ?_)
        intro v4 w4 hown4 hgrow4 hnil4 hloc4
        have hsz4 : w3.heap.size < w4.heap.size := by have := hgrow4.size; simp at this; omega
        have OR4 := (OR3.out.alloc (.cells #[.int .i64 (zs.length : Int)] 3)).kept hgrow4 (.inr (by show some rb ≠ some b; intro e; injection e with e; omega))
        have hnews4 := Lib.hid (Bw.own_cells OR4)
        have hge4 := Lib.hid hown4.lt
        have H4 := Lib.hid (rd_own (rd_alloc H3.out _) hgrow4 (fun k e => by have e : some b = some k := e; injection e with e; omega))
        have G4 := Lib.hid (grown_own (Bw.grown_alloc G3.out _) hgrow4 (fun k e => by have e : some b = some k := e; injection e with e; omega))
        clear hgrow4 hloc4 OPA OR4
        go_wp2_with (at_builtin; refine wpList_append_own _ rfl _ _ 29 rfl w.heap.size 3 i0 (.int .i64 0) 1 8 Tryd.underlying29 hi hz0 hz1 hz2 rfl (by decide) _ (a + 1) _ rfl hown4 ⟨rb, 0, none⟩ (zs.length - a) rcap (List.drop a (zs.map (Value.int .i64))) rfl (by simp) hnews4.out (Bw.drop_oneCell zs a) (by unfold maxLen; omega) (by omega) (by omega) ?_)
        intro v5 w5 hown5 hgrow5 hnil5
        have H5 := Lib.hid (rd_own H4.out hgrow5 (fun k e => by have := (hge4.out k e).1; omega))
        have G5 := Lib.hid (grown_own G4.out hgrow5 (fun k e => (hge4.out k e).1))
        have HO : Hid (Bw.Own 3 w.heap.size w5 v5 (zs.take a ++ (zs.length : Int) :: zs.drop a)) := Bw.own_insert ha2 hown5
        have HL : Hid ((zs.take a ++ (zs.length : Int) :: zs.drop a).length = zs.length + 1) := by unfold Hid; simp; omega
        have HH5 : Hid (Bw.Rd 59 w5 g (lim + (zs.take a ++ (zs.length : Int) :: zs.drop a).length)) := by unfold Hid; rw [HL.out]; exact H5.out
        have hv5 : v5 ≠ .slice none 0 0 := hnil5
        clear hown5 hgrow5 hnil5 hown4 hnews4
        go_wp2_with fail
        go_roundw
        case rel => exact ⟨_, by rw [HL.out]; go_num, by rw [HL.out]; omega, hv5, HO, HH5, G5⟩
        case measure => simp [intOf]; omega
    · have hz14 : zs.length ≤ 13 := hzd
      have hsz := hg.out.size
      by_cases hn0 : n = 0
      · subst hn0
        go_wp2_with fail
        refine (odd_zero g _ _ hrd.out).mono ?_
        rintro e w' ⟨rfl, rfl⟩
        go_wp2_with fail
        go_ret
        exact ⟨_, zs, rfl, hown.out, by omega, hrd.out.more (by omega), hg.out⟩
      · go_wp2_with fail
        (with_reducible refine (odd_any g _ n _ hrd.out (by omega) (by omega) hn2).mono ?_)
        rintro e w2 ⟨x, rfl, hr2, hg2⟩
        have O2 := Lib.hid (hown.out.grown hg2 (Bw.own_ne_g hown.out hlt))
        have H2 := Lib.hid hr2
        have G2 := Lib.hid (Bw.grown_trans hg.out hg2)
        clear hr2 hg2 hn0
        cases x
        · go_wp2_with fail
          go_ret
          exact ⟨_, zs, rfl, O2.out, by omega, H2.out.more (by omega), G2.out⟩
        · go_wp2_with fail
          (with_reducible refine (pick_any g _ 3 _ H2.out (by omega)).mono ?_)
          rintro e w3 ⟨y, rfl, hp, hr3, hg3⟩
          have hy0 := hp.1
          have hy1 := hp.2.1 (by omega)
          have O3 := Lib.hid (O2.out.grown hg3 (Bw.own_ne_g O2.out hlt))
          have H3 := Lib.hid hr3
          have G3 := Lib.hid (Bw.grown_trans G2.out hg3)
          have hsz3 := G3.out.size
          clear hr3 hg3 hp
          rcases (show y = 0 ∨ y = 1 ∨ y = 2 by omega) with rfl | rfl | rfl
          · have HM : Hid (Bw.Own 3 w.heap.size (w3.alloc (.cells #[] 3)) (.slice (some ⟨w3.heap.size, 0, none⟩) 0 0) []) := World.ownsRow_made w3 #[] 0 hsz3 (by unfold maxLen; omega) rfl
            go_wp2_with fail
            go_ret
            exact ⟨_, [], rfl, HM.out, by simp, (rd_alloc H3.out _).more (by omega), Bw.grown_alloc G3.out _⟩
          · have hown3 := (Bw.Own.row O3.out).alloc (.cells #[.int .i64 0] 3)
            have hge := Lib.hid hown3.lt
            go_wp2_with (at_builtin; refine wpList_append_own _ rfl _ _ 29 rfl w.heap.size 3 i0 (.int .i64 0) 1 8 Tryd.underlying29 hi hz0 hz1 hz2 rfl (by decide) _ zs.length _ rfl hown3 ⟨w3.heap.size, 0, none⟩ 1 1 [.int .i64 0] rfl rfl (cell_one_new _ _ _) (ints_oneCell .i64 [0]) (by unfold maxLen; omega) (by omega) (by simp; omega) ?_)
            intro v4 w4 hown4 hgrow4 hnil4
            have HO : Hid (Bw.Own 3 w.heap.size w4 v4 (zs ++ [0])) := Bw.own_snoc hown4
            have H4 := Lib.hid (rd_own (rd_alloc H3.out _) hgrow4 (fun k e => by have := (hge.out k e).1; omega))
            have G4 := Lib.hid (grown_own (Bw.grown_alloc G3.out _) hgrow4 (fun k e => (hge.out k e).1))
            clear hown4 hgrow4 hnil4 hown3
            go_wp2_with fail
            go_ret
            exact ⟨_, zs ++ [0], rfl, HO.out, by simp; omega, H4.out.more (by omega), G4.out⟩
          · have HM : Hid (Bw.Own 3 w.heap.size (w3.alloc (.cells #[.int .i64 0, .int .i64 0] 3)) (.slice (some ⟨w3.heap.size, 0, none⟩) 2 2) [0, 0]) := World.ownsRow_lit w3 #[.int .i64 0, .int .i64 0] 2 hsz3 (by unfold maxLen; omega) rfl
            go_wp2_with fail
            go_ret
            exact ⟨_, [0, 0], rfl, HM.out, by simp, (rd_alloc H3.out _).more (by omega), Bw.grown_alloc G3.out _⟩

end Go.Proofs.YtbknmokoegembacDoor
