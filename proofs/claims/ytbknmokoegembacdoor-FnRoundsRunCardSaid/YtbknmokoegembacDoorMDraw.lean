/- Contracts: drawn widths and words. -/
import Derived.Test.YtbknmokoegembacDoorDraw2
import Derived.Deep.RegionWith

namespace Go.Proofs.YtbknmokoegembacDoor
open Go.RowKit
set_option linter.unusedVariables false

/-- a law's code: bytes that came in -/
def CodeIs (w : World) (a : Option Addr) (n cap : Nat) : Prop := Bytes w a n ∧ n ≤ cap ∧ cap ≤ 9223372036854775807

theorem code_of_row {w : World} {a : Option Addr} {n cap : Nat} {zs : List Int} (h : Bw.IsRow .u8 w a n cap zs) : CodeIs w a n cap := by
  rcases h with ⟨rfl, rfl, rfl, _⟩ | ⟨x, rfl, h1, h2, h3, hc, hw⟩
  · exact ⟨.inl rfl, Nat.le_refl _, by omega⟩
  · unfold maxLen at h2
    refine ⟨?_, h1, by omega⟩
    by_cases h0 : n = 0
    · exact .inl h0
    · obtain ⟨b, off, spot⟩ := x
      have h00 := hc 0 (by omega)
      have hspot : spot = none := by simpa [Addr.add] using World.cell?_spot h00
      subst hspot
      refine .inr ⟨b, off, fun i => zs.getD i 0, rfl, ?_, fun i hi => ⟨?_, ?_⟩⟩
      · rcases Nat.lt_or_ge b w.heap.size with h | h
        · exact h
        · exfalso
          have e : w.heap[b]? = none := Array.getElem?_eq_none h
          simp [World.cell?, Addr.add, e] at h00
      · have hm : zs.getD i 0 ∈ zs := by
          rw [List.getD_eq_getElem?_getD, List.getElem?_eq_getElem (by omega)]
          exact List.getElem_mem (by omega)
        have := bounds_u8 (hw _ hm)
        show 0 ≤ zs.getD i 0 ∧ zs.getD i 0 < 256
        omega
      · have := hc i (by omega)
        have ea : (⟨b, off, none⟩ : Addr).add i = ⟨b, off + i, none⟩ := by
          by_cases hz : i = 0
          · subst hz; simp [Addr.add]
          · simp [Addr.add, hz]
        rwa [ea] at this

theorem rd_drew {t : TypeId} {w : World} {g lim : Nat} (h : Bw.Rd t w g lim) : Bw.Rd t w.drew g lim := h.below (Below.refl _ _).drew

theorem grown_drew {a b : World} {row : Option Nat} (h : a.drew.grownBy b row) : a.grownBy b row := ⟨h.os, h.tape, h.output, h.size, h.block⟩

def badWidths : List Int := [0, -1, 13]

def goodWidths : List Int := [1, 2, 3, 4, 5, 6, 7, 8, 8, 8, 10, 12]

set_option maxHeartbeats 1000000 in
theorem l20Width_some (g lim : Nat) (n : Int) (w : World) (hr : Bw.Rd 59 w g lim) (hl : lim ≤ 10000) (hn : 1 ≤ n) (hn2 : n ≤ 1000) :
    Calls Tryd.prog 58 #[.pointer (some ⟨g, 0, none⟩), .int .i64 n] w (DrewInt g (lim + 4) (fun x => -1 ≤ x ∧ x ≤ 13) w) := by
  have hlt := hr.lt
  have H0 := Lib.hid hr
  have G0 := Lib.hid (World.grownBy.refl w (some g))
  clear hr
  go_enter Tryd.func58, Tryd.ntmps58
  go_wp2_with fail
  refine (odd_any g _ n _ H0.out (by omega) (by omega) (by omega)).mono ?_
  rintro e w1 ⟨x, rfl, hr1, hg1⟩
  have H1 := Lib.hid hr1
  have G1 := Lib.hid (Bw.grown_trans G0.out hg1)
  clear hr1 hg1
  have hlt1 := H1.out.lt
  cases x
  · go_wp2_with fail
    refine (pick_any g _ 12 _ (rd_alloc H1.out _) (by omega)).mono ?_
    rintro e w2 ⟨y, rfl, hp, hr2, hg2⟩
    have hy := hp.1
    have hy2 := hp.2.1 (by omega)
    have H2 := Lib.hid hr2
    have G2 := Lib.hid (Bw.grown_trans G1.out (grown_of_alloc hg2))
    obtain ⟨j, rfl⟩ := Int.eq_ofNat_of_zero_le hy
    have hj : j < goodWidths.length := by show j < 12; omega
    have hc := lit_cell hg2 hlt1 j _ (lit_at goodWidths hj)
    have hb : ∀ v ∈ goodWidths, -1 ≤ v ∧ v ≤ 13 := by decide
    have hv := hb _ (nth_mem hj)
    clear hr2 hg2 hp hb
    go_wp2_with fail
    go_ret
    exact ⟨_, rfl, hv, H2.out.more (by omega), G2.out⟩
  · go_wp2_with fail
    refine (pick_any g _ 3 _ (rd_alloc H1.out _) (by omega)).mono ?_
    rintro e w2 ⟨y, rfl, hp, hr2, hg2⟩
    have hy := hp.1
    have hy2 := hp.2.1 (by omega)
    have H2 := Lib.hid hr2
    have G2 := Lib.hid (Bw.grown_trans G1.out (grown_of_alloc hg2))
    obtain ⟨j, rfl⟩ := Int.eq_ofNat_of_zero_le hy
    have hj : j < badWidths.length := by show j < 3; omega
    have hc := lit_cell hg2 hlt1 j _ (lit_at badWidths hj)
    have hb : ∀ v ∈ badWidths, -1 ≤ v ∧ v ≤ 13 := by decide
    have hv := hb _ (nth_mem hj)
    clear hr2 hg2 hp hb
    go_wp2_with fail
    go_ret
    exact ⟨_, rfl, hv, H2.out.more (by omega), G2.out⟩

set_option maxHeartbeats 1000000 in
theorem l20Width_zero (g lim : Nat) (w : World) (hr : Bw.Rd 59 w g lim) (hl : lim ≤ 10000) :
    Calls Tryd.prog 58 #[.pointer (some ⟨g, 0, none⟩), .int .i64 0] w (DrewInt g (lim + 4) (fun x => -1 ≤ x ∧ x ≤ 13) w) := by
  have hlt1 := hr.lt
  have H1 := Lib.hid hr
  have G1 := Lib.hid (World.grownBy.refl w (some g))
  clear hr
  go_enter Tryd.func58, Tryd.ntmps58
  go_wp2_with fail
  refine (odd_zero g _ _ H1.out).mono ?_
  rintro e w' ⟨rfl, rfl⟩
  go_wp2_with fail
  refine (pick_any g _ 12 _ (rd_alloc H1.out _) (by omega)).mono ?_
  rintro e w2 ⟨y, rfl, hp, hr2, hg2⟩
  have hy := hp.1
  have hy2 := hp.2.1 (by omega)
  have H2 := Lib.hid hr2
  have G2 := Lib.hid (Bw.grown_trans G1.out (grown_of_alloc hg2))
  obtain ⟨j, rfl⟩ := Int.eq_ofNat_of_zero_le hy
  have hj : j < goodWidths.length := by show j < 12; omega
  have hc := lit_cell hg2 hlt1 j _ (lit_at goodWidths hj)
  have hb : ∀ v ∈ goodWidths, -1 ≤ v ∧ v ≤ 13 := by decide
  have hv := hb _ (nth_mem hj)
  clear hr2 hg2 hp hb
  go_wp2_with fail
  go_ret
  exact ⟨_, rfl, hv, H2.out.more (by omega), G2.out⟩

set_option maxHeartbeats 1000000 in
theorem l20Word_low (g lim : Nat) (d n : Int) (hd : d < 1) (w : World) (hr : Bw.Rd 59 w g lim) (hl : lim ≤ 10000) (hn : 1 ≤ n) (hn2 : n ≤ 1000) :
    Calls Tryd.prog 47 #[.pointer (some ⟨g, 0, none⟩), .int .i64 d, .int .i64 n] w (DrewInt g (lim + 8) (fun x => -1 ≤ x ∧ x ≤ 4096) w) := by
  have hlt := hr.lt
  have H0 := Lib.hid hr
  have G0 := Lib.hid (World.grownBy.refl w (some g))
  clear hr
  go_enter Tryd.func47, Tryd.ntmps47
  go_wp2_with fail
  refine (odd_any g _ n _ H0.out (by omega) (by omega) (by omega)).mono ?_
  rintro e w1 ⟨x, rfl, hr1, hg1⟩
  have H1 := Lib.hid hr1
  have G1 := Lib.hid (Bw.grown_trans G0.out hg1)
  clear hr1 hg1
  have hlt1 := H1.out.lt
  cases x
  · go_wp2_with fail
    refine (pick_any g _ 6 _ H1.out (by omega)).mono ?_
    rintro e w2 ⟨y, rfl, hp, hr2, hg2⟩
    have y0 := hp.1
    have y1 := hp.2.1 (by omega)
    have H2 := Lib.hid hr2
    have G2 := Lib.hid (Bw.grown_trans G1.out hg2)
    clear hr2 hg2 hp
    have hlt2 := H2.out.lt
    by_cases hy : y = 0
    · subst hy
      go_wp2_with fail
      refine (pick_any g _ 5 _ (rd_alloc H2.out _) (by omega)).mono ?_
      rintro e w3 ⟨z, rfl, hp, hr3, hg3⟩
      have hz := hp.1
      have hz2 := hp.2.1 (by omega)
      have H3 := Lib.hid hr3
      have G3 := Lib.hid (Bw.grown_trans G2.out (grown_of_alloc hg3))
      have c0 := lit_cell hg3 hlt2 0 _ rfl
      have c1 := lit_cell hg3 hlt2 1 _ rfl
      have c2 := lit_cell hg3 hlt2 2 _ rfl
      have c3 := lit_cell hg3 hlt2 3 _ rfl
      have c4 := lit_cell hg3 hlt2 4 _ rfl
      clear hr3 hg3 hp
      rcases (show z = 0 ∨ z = 1 ∨ z = 2 ∨ z = 3 ∨ z = 4 by omega) with rfl | rfl | rfl | rfl | rfl
      all_goals
        go_wp2_with fail
        go_ret
        exact ⟨_, rfl, by omega, H3.out.more (by omega), G3.out⟩
    · have hy2 : (y == 0) = false := by simpa using hy
      clear hy
      go_wp2_with fail
      refine (pick_any g _ 256 _ H2.out (by omega)).mono ?_
      rintro e w3 ⟨a, rfl, hp, hr3, hg3⟩
      have a0 := hp.1
      have a1 := hp.2.1 (by omega)
      have H3 := Lib.hid hr3
      have G3 := Lib.hid (Bw.grown_trans G2.out hg3)
      clear hr3 hg3 hp
      go_wp2_with fail
      refine (pick_any g _ 16 _ H3.out (by omega)).mono ?_
      rintro e w4 ⟨b, rfl, hp, hr4, hg4⟩
      have b0 := hp.1
      have b1 := hp.2.1 (by omega)
      have H4 := Lib.hid hr4
      have G4 := Lib.hid (Bw.grown_trans G3.out hg4)
      clear hr4 hg4 hp
      go_wp2_with fail
      go_ret
      exact ⟨_, rfl, by omega, H4.out.more (by omega), G4.out⟩
  · go_wp2_with fail
    refine (pick_any g _ 2 _ (rd_alloc H1.out _) (by omega)).mono ?_
    rintro e w2 ⟨y, rfl, hp, hr2, hg2⟩
    have hy := hp.1
    have hy2 := hp.2.1 (by omega)
    have H2 := Lib.hid hr2
    have G2 := Lib.hid (Bw.grown_trans G1.out (grown_of_alloc hg2))
    have c0 := lit_cell hg2 hlt1 0 _ rfl
    have c1 := lit_cell hg2 hlt1 1 _ rfl
    clear hr2 hg2 hp
    rcases (show y = 0 ∨ y = 1 by omega) with rfl | rfl
    all_goals
      go_wp2_with fail
      go_ret
      exact ⟨_, rfl, by omega, H2.out.more (by omega), G2.out⟩

set_option maxHeartbeats 1000000 in
theorem l20Word_high (g lim : Nat) (d n : Int) (hd : 12 < d) (w : World) (hr : Bw.Rd 59 w g lim) (hl : lim ≤ 10000) (hn : 1 ≤ n) (hn2 : n ≤ 1000) :
    Calls Tryd.prog 47 #[.pointer (some ⟨g, 0, none⟩), .int .i64 d, .int .i64 n] w (DrewInt g (lim + 8) (fun x => -1 ≤ x ∧ x ≤ 4096) w) := by
  have hlt := hr.lt
  have H0 := Lib.hid hr
  have G0 := Lib.hid (World.grownBy.refl w (some g))
  clear hr
  go_enter Tryd.func47, Tryd.ntmps47
  go_wp2_with fail
  refine (odd_any g _ n _ H0.out (by omega) (by omega) (by omega)).mono ?_
  rintro e w1 ⟨x, rfl, hr1, hg1⟩
  have H1 := Lib.hid hr1
  have G1 := Lib.hid (Bw.grown_trans G0.out hg1)
  clear hr1 hg1
  have hlt1 := H1.out.lt
  cases x
  · go_wp2_with fail
    refine (pick_any g _ 6 _ H1.out (by omega)).mono ?_
    rintro e w2 ⟨y, rfl, hp, hr2, hg2⟩
    have y0 := hp.1
    have y1 := hp.2.1 (by omega)
    have H2 := Lib.hid hr2
    have G2 := Lib.hid (Bw.grown_trans G1.out hg2)
    clear hr2 hg2 hp
    have hlt2 := H2.out.lt
    by_cases hy : y = 0
    · subst hy
      go_wp2_with fail
      refine (pick_any g _ 5 _ (rd_alloc H2.out _) (by omega)).mono ?_
      rintro e w3 ⟨z, rfl, hp, hr3, hg3⟩
      have hz := hp.1
      have hz2 := hp.2.1 (by omega)
      have H3 := Lib.hid hr3
      have G3 := Lib.hid (Bw.grown_trans G2.out (grown_of_alloc hg3))
      have c0 := lit_cell hg3 hlt2 0 _ rfl
      have c1 := lit_cell hg3 hlt2 1 _ rfl
      have c2 := lit_cell hg3 hlt2 2 _ rfl
      have c3 := lit_cell hg3 hlt2 3 _ rfl
      have c4 := lit_cell hg3 hlt2 4 _ rfl
      clear hr3 hg3 hp
      rcases (show z = 0 ∨ z = 1 ∨ z = 2 ∨ z = 3 ∨ z = 4 by omega) with rfl | rfl | rfl | rfl | rfl
      all_goals
        go_wp2_with fail
        go_ret
        exact ⟨_, rfl, by omega, H3.out.more (by omega), G3.out⟩
    · have hy2 : (y == 0) = false := by simpa using hy
      clear hy
      go_wp2_with fail
      refine (pick_any g _ 256 _ H2.out (by omega)).mono ?_
      rintro e w3 ⟨a, rfl, hp, hr3, hg3⟩
      have a0 := hp.1
      have a1 := hp.2.1 (by omega)
      have H3 := Lib.hid hr3
      have G3 := Lib.hid (Bw.grown_trans G2.out hg3)
      clear hr3 hg3 hp
      go_wp2_with fail
      refine (pick_any g _ 16 _ H3.out (by omega)).mono ?_
      rintro e w4 ⟨b, rfl, hp, hr4, hg4⟩
      have b0 := hp.1
      have b1 := hp.2.1 (by omega)
      have H4 := Lib.hid hr4
      have G4 := Lib.hid (Bw.grown_trans G3.out hg4)
      clear hr4 hg4 hp
      go_wp2_with fail
      go_ret
      exact ⟨_, rfl, by omega, H4.out.more (by omega), G4.out⟩
  · go_wp2_with fail
    refine (pick_any g _ 2 _ (rd_alloc H1.out _) (by omega)).mono ?_
    rintro e w2 ⟨y, rfl, hp, hr2, hg2⟩
    have hy := hp.1
    have hy2 := hp.2.1 (by omega)
    have H2 := Lib.hid hr2
    have G2 := Lib.hid (Bw.grown_trans G1.out (grown_of_alloc hg2))
    have c0 := lit_cell hg2 hlt1 0 _ rfl
    have c1 := lit_cell hg2 hlt1 1 _ rfl
    clear hr2 hg2 hp
    rcases (show y = 0 ∨ y = 1 by omega) with rfl | rfl
    all_goals
      go_wp2_with fail
      go_ret
      exact ⟨_, rfl, by omega, H2.out.more (by omega), G2.out⟩

set_option maxHeartbeats 1000000 in
theorem l20Word_mid (g lim : Nat) (d : Nat) (n : Int) (hd : 1 ≤ d) (hd2 : d ≤ 12) (w : World) (hr : Bw.Rd 59 w g lim) (hl : lim ≤ 10000) (hn : 1 ≤ n) (hn2 : n ≤ 1000) :
    Calls Tryd.prog 47 #[.pointer (some ⟨g, 0, none⟩), .int .i64 d, .int .i64 n] w (DrewInt g (lim + 8) (fun x => -1 ≤ x ∧ x ≤ 4096) w) := by
  have hlt := hr.lt
  have H0 := Lib.hid hr
  have G0 := Lib.hid (World.grownBy.refl w (some g))
  have hb1 : 2 ^ d ≤ 2 ^ 12 := Nat.pow_le_pow_right (by omega) hd2
  have hb2 : 2 ^ 1 ≤ 2 ^ d := Nat.pow_le_pow_right (by omega) hd
  obtain ⟨m, hm, hm0, hm1⟩ : ∃ m : Int, wrap64 (2 ^ d) = m ∧ 2 ≤ m ∧ m ≤ 4096 := ⟨_, rfl, by rw [Bw.two_pow_cast, Bw.w64n (by omega)]; omega⟩
  have hmn : ¬ m = 0 := by omega
  have HM := Lib.hid hm
  have hmod : Hid (∀ z : Int, 0 ≤ z → -1 ≤ z % m ∧ z % m ≤ 4096) := fun z hz => by
    have h1 := Int.emod_lt_of_pos z (show 0 < m by omega)
    have h2 := Int.emod_nonneg z hmn
    omega
  clear hb1 hb2 hm
  clear hr
  go_enter Tryd.func47, Tryd.ntmps47
  go_wp2_with fail
  rw [HM.out]
  have HD := Lib.hid (And.intro hd hd2)
  clear hd hd2
  refine (odd_any g _ n _ H0.out (by omega) (by omega) (by omega)).mono ?_
  rintro e w1 ⟨x, rfl, hr1, hg1⟩
  have H1 := Lib.hid hr1
  have G1 := Lib.hid (Bw.grown_trans G0.out hg1)
  clear hr1 hg1
  have hlt1 := H1.out.lt
  cases x
  · go_wp2_with fail
    refine (pick_any g _ 6 _ H1.out (by omega)).mono ?_
    rintro e w2 ⟨y, rfl, hp, hr2, hg2⟩
    have y0 := hp.1
    have y1 := hp.2.1 (by omega)
    have H2 := Lib.hid hr2
    have G2 := Lib.hid (Bw.grown_trans G1.out hg2)
    clear hr2 hg2 hp
    have hlt2 := H2.out.lt
    by_cases hy : y = 0
    · subst hy
      go_wp2_with fail
      refine (pick_any g _ 5 _ (rd_alloc H2.out _) (by omega)).mono ?_
      rintro e w3 ⟨z, rfl, hp, hr3, hg3⟩
      have hz := hp.1
      have hz2 := hp.2.1 (by omega)
      have H3 := Lib.hid hr3
      have G3 := Lib.hid (Bw.grown_trans G2.out (grown_of_alloc hg3))
      have c0 := lit_cell hg3 hlt2 0 _ rfl
      have c1 := lit_cell hg3 hlt2 1 _ rfl
      have c2 := lit_cell hg3 hlt2 2 _ rfl
      have c3 := lit_cell hg3 hlt2 3 _ rfl
      have c4 := lit_cell hg3 hlt2 4 _ rfl
      clear hr3 hg3 hp
      rcases (show z = 0 ∨ z = 1 ∨ z = 2 ∨ z = 3 ∨ z = 4 by omega) with rfl | rfl | rfl | rfl | rfl
      all_goals
        go_wp2_with fail
        go_ret
        exact ⟨_, rfl, by first | omega | exact hmod.out _ (by omega), H3.out.more (by omega), G3.out⟩
    · have hy2 : (y == 0) = false := by simpa using hy
      clear hy
      go_wp2_with fail
      refine (pick_any g _ 256 _ H2.out (by omega)).mono ?_
      rintro e w3 ⟨a, rfl, hp, hr3, hg3⟩
      have a0 := hp.1
      have a1 := hp.2.1 (by omega)
      have H3 := Lib.hid hr3
      have G3 := Lib.hid (Bw.grown_trans G2.out hg3)
      clear hr3 hg3 hp
      go_wp2_with fail
      refine (pick_any g _ 16 _ H3.out (by omega)).mono ?_
      rintro e w4 ⟨b, rfl, hp, hr4, hg4⟩
      have b0 := hp.1
      have b1 := hp.2.1 (by omega)
      have H4 := Lib.hid hr4
      have G4 := Lib.hid (Bw.grown_trans G3.out hg4)
      clear hr4 hg4 hp
      go_wp2_with fail
      go_ret
      exact ⟨_, rfl, by first | omega | exact hmod.out _ (by omega), H4.out.more (by omega), G4.out⟩
  · go_wp2_with fail
    refine (pick_any g _ 2 _ (rd_alloc H1.out _) (by omega)).mono ?_
    rintro e w2 ⟨y, rfl, hp, hr2, hg2⟩
    have hy := hp.1
    have hy2 := hp.2.1 (by omega)
    have H2 := Lib.hid hr2
    have G2 := Lib.hid (Bw.grown_trans G1.out (grown_of_alloc hg2))
    have c0 := lit_cell hg2 hlt1 0 _ rfl
    have c1 := lit_cell hg2 hlt1 1 _ rfl
    clear hr2 hg2 hp
    rcases (show y = 0 ∨ y = 1 by omega) with rfl | rfl
    all_goals
      go_wp2_with fail
      go_ret
      exact ⟨_, rfl, by omega, H2.out.more (by omega), G2.out⟩

theorem l20Word_any (g lim : Nat) (d n : Int) (w : World) (hr : Bw.Rd 59 w g lim) (hl : lim ≤ 10000) (hn : 1 ≤ n) (hn2 : n ≤ 1000) :
    Calls Tryd.prog 47 #[.pointer (some ⟨g, 0, none⟩), .int .i64 d, .int .i64 n] w (DrewInt g (lim + 8) (fun x => -1 ≤ x ∧ x ≤ 4096) w) := by
  by_cases h1 : d < 1
  · exact l20Word_low g lim d n h1 w hr hl hn hn2
  · by_cases h2 : 12 < d
    · exact l20Word_high g lim d n h2 w hr hl hn hn2
    · obtain ⟨d, rfl⟩ := Int.eq_ofNat_of_zero_le (show 0 ≤ d by omega)
      exact l20Word_mid g lim d n (by omega) (by omega) w hr hl hn hn2

set_option maxHeartbeats 400000 in
theorem l20One_any (g lim : Nat) (n : Int) (w : World) (hr : Bw.Rd 59 w g lim) (hl : lim ≤ 9000) (hn : 1 ≤ n) (hn2 : n ≤ 400) :
    Calls Tryd.prog 44 #[.pointer (some ⟨g, 0, none⟩), .int .i64 n] w fun e w' => ∃ d x, e = .returned (.tuple #[.int .i64 d, .int .i64 x]) ∧ ((-1 ≤ d ∧ d ≤ 13) ∧ -1 ≤ x ∧ x ≤ 4096) ∧ Bw.Rd 59 w' g (lim + 12) ∧ w.grownBy w' (some g) := by
  have H0 := Lib.hid hr
  have G0 := Lib.hid (World.grownBy.refl w (some g))
  clear hr
  go_enter Tryd.func44, Tryd.ntmps44
  go_wp2_with fail
  refine ((fun w h hl => l20Width_some g _ (2 * n) w h hl (by omega) (by omega)) _ H0.out (by omega)).mono ?_
  rintro e w1 ⟨d, rfl, dP, hr1, hg1⟩
  have H1 := Lib.hid hr1
  have G1 := Lib.hid (Bw.grown_trans G0.out hg1)
  clear hr1 hg1
  go_wp2_with fail
  refine ((fun w h hl => l20Word_any g _ d (2 * n) w h hl (by omega) (by omega)) _ H1.out (by omega)).mono ?_
  rintro e w2 ⟨x, rfl, xP, hr2, hg2⟩
  have H2 := Lib.hid hr2
  have G2 := Lib.hid (Bw.grown_trans G1.out hg2)
  clear hr2 hg2
  go_wp2_with fail
  go_ret2
  exact ⟨d, x, rfl, ⟨dP, xP⟩, H2.out, G2.out⟩

set_option maxHeartbeats 400000 in
theorem l20Two_any (g lim : Nat) (n : Int) (w : World) (hr : Bw.Rd 59 w g lim) (hl : lim ≤ 9000) (hn : 1 ≤ n) (hn2 : n ≤ 400) :
    Calls Tryd.prog 27 #[.pointer (some ⟨g, 0, none⟩), .int .i64 n] w fun e w' => ∃ d x y, e = .returned (.tuple #[.int .i64 d, .int .i64 x, .int .i64 y]) ∧ ((-1 ≤ d ∧ d ≤ 13) ∧ (-1 ≤ x ∧ x ≤ 4096) ∧ -1 ≤ y ∧ y ≤ 4096) ∧ Bw.Rd 59 w' g (lim + 20) ∧ w.grownBy w' (some g) := by
  have H0 := Lib.hid hr
  have G0 := Lib.hid (World.grownBy.refl w (some g))
  clear hr
  go_enter Tryd.func27, Tryd.ntmps27
  go_wp2_with fail
  refine ((fun w h hl => l20Width_some g _ (2 * n) w h hl (by omega) (by omega)) _ H0.out (by omega)).mono ?_
  rintro e w1 ⟨d, rfl, dP, hr1, hg1⟩
  have H1 := Lib.hid hr1
  have G1 := Lib.hid (Bw.grown_trans G0.out hg1)
  clear hr1 hg1
  go_wp2_with fail
  refine ((fun w h hl => l20Word_any g _ d (2 * n) w h hl (by omega) (by omega)) _ H1.out (by omega)).mono ?_
  rintro e w2 ⟨x, rfl, xP, hr2, hg2⟩
  have H2 := Lib.hid hr2
  have G2 := Lib.hid (Bw.grown_trans G1.out hg2)
  clear hr2 hg2
  go_wp2_with fail
  refine ((fun w h hl => l20Word_any g _ d (2 * n) w h hl (by omega) (by omega)) _ H2.out (by omega)).mono ?_
  rintro e w3 ⟨y, rfl, yP, hr3, hg3⟩
  have H3 := Lib.hid hr3
  have G3 := Lib.hid (Bw.grown_trans G2.out hg3)
  clear hr3 hg3
  go_wp2_with fail
  go_ret3
  exact ⟨d, x, y, rfl, ⟨dP, xP, yP⟩, H3.out, G3.out⟩

end Go.Proofs.YtbknmokoegembacDoor
