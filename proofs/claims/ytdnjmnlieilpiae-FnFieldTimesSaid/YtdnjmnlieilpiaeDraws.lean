/- Contracts: what the laws on polynomials draw. -/
import Derived.Test.YtdnjmnlieilpiaeDraw2
import Derived.Test.YtdnjmnlieilpiaePoly6
import Derived.Deep.RegionWith

namespace Go.Proofs.Ytdnjmnlieilpiae
open Go.RowKit
set_option linter.unusedVariables false

/-- a law's code: bytes that came in -/
def CodeIs (w : World) (a : Option Addr) (n cap : Nat) : Prop := Bytes w a n ∧ n ≤ cap ∧ cap ≤ 9223372036854775807

theorem code_of_row {w : World} {a : Option Addr} {n cap : Nat} {zs : List Int} (h : Bw.IsRow .u8 w a n cap zs) : CodeIs w a n cap := by
  rcases h with ⟨rfl, rfl, rfl, _⟩ | ⟨x, rfl, h1, h2, h3, hc, hw⟩
  · exact ⟨.inl rfl, Nat.le_refl _, by omega⟩
  · unfold maxLen at h2
    refine ⟨?_, h1, by omega⟩
    by_cases h0 : n = 0
    · exact .inl h0
    · obtain ⟨b, off, spot⟩ := x
      have h00 := hc 0 (by omega)
      have hspot : spot = none := by simpa [Addr.add] using World.cell?_spot h00
      subst hspot
      refine .inr ⟨b, off, fun i => zs.getD i 0, rfl, ?_, fun i hi => ⟨?_, ?_⟩⟩
      · rcases Nat.lt_or_ge b w.heap.size with h | h
        · exact h
        · exfalso
          have e : w.heap[b]? = none := Array.getElem?_eq_none h
          simp [World.cell?, Addr.add, e] at h00
      · have hm : zs.getD i 0 ∈ zs := by
          rw [List.getD_eq_getElem?_getD, List.getElem?_eq_getElem (by omega)]
          exact List.getElem_mem (by omega)
        have := bounds_u8 (hw _ hm)
        show 0 ≤ zs.getD i 0 ∧ zs.getD i 0 < 256
        omega
      · have := hc i (by omega)
        have ea : (⟨b, off, none⟩ : Addr).add i = ⟨b, off + i, none⟩ := by
          by_cases hz : i = 0
          · subst hz; simp [Addr.add]
          · simp [Addr.add, hz]
        rwa [ea] at this

theorem states_of (d : Int) : ∃ m : Int, wrap64 (2 ^ (min (max d 0) 8).toNat) = m ∧ 1 ≤ m ∧ m ≤ 256 := by
  refine ⟨_, rfl, ?_⟩
  obtain ⟨k, hk⟩ : ∃ k, (min (max d 0) 8).toNat = k := ⟨_, rfl⟩
  have h8 : k ≤ 8 := by omega
  have := Nat.pow_le_pow_right (n := 2) (by omega) h8
  have := Nat.two_pow_pos k
  rw [hk, Bw.two_pow_cast, Bw.w64n (by omega)]
  omega

theorem rd_drew {t : TypeId} {w : World} {g lim : Nat} (h : Bw.Rd t w g lim) : Bw.Rd t w.drew g lim := h.below (Below.refl _ _).drew

theorem grown_drew {a b : World} {row : Option Nat} (h : a.drew.grownBy b row) : a.grownBy b row := ⟨h.os, h.tape, h.output, h.size, h.block⟩

set_option maxHeartbeats 1000000 in
theorem DrawFieldTimes_any (a : Option Addr) (n cap : Nat) (w : World) (hc : CodeIs w a n cap) :
    Calls Try.prog 13 #[.slice a n cap] w fun e w' => ∃ x y z, e = .returned (.tuple #[.int .i64 x, .int .i64 y, .int .i64 z]) ∧ (True) ∧ Below w.heap.size w w' := by
  have HC := Lib.hid hc
  clear hc
  go_enter Try.func13, Try.ntmps13
  go_wp2_with fail
  refine (open_any a n cap _ HC.out.1 HC.out.2.1 HC.out.2.2).mono ?_
  rintro e w0 ⟨g, rfl, hgB, hr0, hb0⟩
  have H0 := Lib.hid hr0
  have B0 := Lib.hid hb0
  have G0 := Lib.hid (World.grownBy.refl w0 (some g))
  clear hr0 hb0
  go_wp2_with fail
  refine ((l20Field_any g _) _ H0.out (by omega)).mono ?_
  rintro e w1 ⟨p, rfl, pP, hr1, hg1⟩
  have H1 := Lib.hid hr1
  have G1 := Lib.hid (Bw.grown_trans G0.out hg1)
  clear hr1 hg1
  obtain ⟨d, hd32, hd2, hcall⟩ := spec_degree_any p
  have HD := Lib.hid hcall
  obtain ⟨m, hm, hm0, hm1⟩ := states_of d
  clear hcall
  go_wp2_with fail
  refine (HD.out _).mono ?_
  rintro e w' ⟨rfl, rfl⟩
  go_wp2_with fail
  refine (pick_any g _ m _ H1.out (by omega)).mono ?_
  rintro e w2 ⟨x, rfl, hp, hr2, hg2⟩
  have x0 := hp.1
  have x1 := hp.2.1 (by omega)
  have H2 := Lib.hid hr2
  have G2 := Lib.hid (Bw.grown_trans G1.out hg2)
  clear hr2 hg2 hp
  go_wp2_with fail
  refine (pick_any g _ 40 _ H2.out (by omega)).mono ?_
  rintro e w3 ⟨y, rfl, hp, hr3, hg3⟩
  have y0 := hp.1
  have y1 := hp.2.1 (by omega)
  have H3 := Lib.hid hr3
  have G3 := Lib.hid (Bw.grown_trans G2.out hg3)
  clear hr3 hg3 hp
  go_wp2_with fail
  refine (pick_any g _ m _ H3.out (by omega)).mono ?_
  rintro e w4 ⟨z, rfl, hp, hr4, hg4⟩
  have z0 := hp.1
  have z1 := hp.2.1 (by omega)
  have H4 := Lib.hid hr4
  have G4 := Lib.hid (Bw.grown_trans G3.out hg4)
  clear hr4 hg4 hp
  go_wp2_with fail
  refine (pick_any g _ 40 _ H4.out (by omega)).mono ?_
  rintro e w5 ⟨u, rfl, hp, hr5, hg5⟩
  have u0 := hp.1
  have u1 := hp.2.1 (by omega)
  have H5 := Lib.hid hr5
  have G5 := Lib.hid (Bw.grown_trans G4.out hg5)
  clear hr5 hg5 hp
  go_wp2_with fail
  go_ret3
  exact ⟨_, _, p, rfl, trivial, Bw.below_of_grown B0.out G5.out B0.out.size hgB⟩

set_option maxHeartbeats 1000000 in
theorem DrawPolyPrime_any (a : Option Addr) (n cap : Nat) (w : World) (hc : CodeIs w a n cap) :
    Calls Try.prog 5 #[.slice a n cap] w fun e w' => ∃ x, e = .returned (.int .i64 x) ∧ (True) ∧ Below w.heap.size w w' := by
  have HC := Lib.hid hc
  clear hc
  go_enter Try.func5, Try.ntmps5
  go_wp2_with fail
  refine (open_any a n cap _ HC.out.1 HC.out.2.1 HC.out.2.2).mono ?_
  rintro e w0 ⟨g, rfl, hgB, hr0, hb0⟩
  have H0 := Lib.hid hr0
  have B0 := Lib.hid hb0
  have G0 := Lib.hid (World.grownBy.refl w0 (some g))
  clear hr0 hb0
  go_wp2_with fail
  refine (pick_any g _ 4 _ H0.out (by omega)).mono ?_
  rintro e w1 ⟨b, rfl, hp, hr1, hg1⟩
  have b0 := hp.1
  have b1 := hp.2.1 (by omega)
  have H1 := Lib.hid hr1
  have G1 := Lib.hid (Bw.grown_trans G0.out hg1)
  clear hr1 hg1 hp
  by_cases hb : b = 0
  · subst hb
    go_wp2_with fail
    refine ((fun w h hl => l20Poly_any g _ 6 w h hl (by omega) (by omega)) _ H1.out (by omega)).mono ?_
    rintro e w2 ⟨x, rfl, xP, hr2, hg2⟩
    have H2 := Lib.hid hr2
    have G2 := Lib.hid (Bw.grown_trans G1.out hg2)
    clear hr2 hg2
    go_wp2_with fail
    go_ret
    exact ⟨x, rfl, trivial, Bw.below_of_grown B0.out G2.out B0.out.size hgB⟩
  · have hb2 : (b == 0) = false := by simpa using hb
    clear hb
    go_wp2_with fail
    refine ((l20Divisor_any g _) _ H1.out (by omega)).mono ?_
    rintro e w2 ⟨x, rfl, xP, hr2, hg2⟩
    have H2 := Lib.hid hr2
    have G2 := Lib.hid (Bw.grown_trans G1.out hg2)
    clear hr2 hg2
    go_wp2_with fail
    go_ret
    exact ⟨x, rfl, trivial, Bw.below_of_grown B0.out G2.out B0.out.size hgB⟩


end Go.Proofs.Ytdnjmnlieilpiae
