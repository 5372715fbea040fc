/- Contracts: the rounds of orders. -/
import Derived.Test.YtbknmokoegembacDoorFnOrdA
import Derived.Test.YtbknmokoegembacDoorFnOrdC
import Derived.Test.YtbknmokoegembacDoorSortPlain
import Derived.RegionTactic
import Derived.ChangeAlike
import Derived.Deep.QuietTactic
import Derived.BigQuiet

namespace Bw
open Go Go.RowKit

/-- the word of the first j exchanges of a round that begins at place p -/
def rword (l : List Int) (p : Nat) : Nat → Nat
  | 0 => 0
  | j + 1 => rword l p j + (if nth (sq l p j) (p + 2 * j + 1) < nth (sq l p j) (p + 2 * j) then 2 ^ (p + 2 * j) else 0)

theorem rword_succ (l : List Int) (p j : Nat) : rword l p (j + 1) = rword l p j + (if nth (sq l p j) (p + 2 * j + 1) < nth (sq l p j) (p + 2 * j) then 2 ^ (p + 2 * j) else 0) := rfl

theorem rword_lt (l : List Int) (p : Nat) : ∀ j, rword l p j < 2 ^ (p + 2 * j)
  | 0 => Nat.two_pow_pos _
  | j + 1 => by
    have ih := rword_lt l p j
    have e : 2 ^ (p + 2 * (j + 1)) = 4 * 2 ^ (p + 2 * j) := by rw [show p + 2 * (j + 1) = p + 2 * j + 2 by omega, Nat.pow_add]; omega
    rw [rword_succ, e]
    generalize 2 ^ (p + 2 * j) = q at *
    split <;> omega

/-- the rounds -/
def roundsOf (l : List Int) : List Int := (List.range l.length).map fun r => ((rword (sqs l r) (r % 2) ((l.length - r % 2) / 2) : Nat) : Int)

theorem roundsOf_length (l : List Int) : (roundsOf l).length = l.length := by simp [roundsOf]

theorem roundsOf_nth {l : List Int} {r : Nat} (h : r < l.length) : nth (roundsOf l) r = ((rword (sqs l r) (r % 2) ((l.length - r % 2) / 2) : Nat) : Int) := by
  rw [nth_eq (by rw [roundsOf_length]; exact h)]; simp [roundsOf]

/-- what both answer: the rounds, or nothing -/
def RoundsIs (a out : List Int) : Prop := (OrderOk a → out = roundsOf a) ∧ (¬ OrderOk a → out = [])

theorem roundsIs_some (a : List Int) : ∃ out, RoundsIs a out := by
  by_cases h : OrderOk a
  · exact ⟨_, fun _ => rfl, fun h2 => absurd h h2⟩
  · exact ⟨[], fun h2 => absurd h2 h, fun _ => rfl⟩

theorem RoundsIs.len {a out : List Int} (h : RoundsIs a out) : out.length ≤ 12 := by
  by_cases h2 : OrderOk a
  · rw [h.1 h2, roundsOf_length]; exact h2.1.2
  · rw [h.2 h2]; simp

theorem own_some {w : World} {base e : Nat} {v : Value} {n : Nat} {xs : List Value} (h : w.ownsRow base e 1 v n xs) (hv : v ≠ .slice none 0 0) : ∃ b cap, v = .slice (some ⟨b, 0, none⟩) n cap := by
  rcases h.2 with ⟨rfl, _⟩ | ⟨b, cap, cur, rfl, _⟩
  · exact absurd rfl hv
  · exact ⟨b, cap, rfl⟩

theorem cells_news {w : World} {b off : Nat} {xs : List Int} (hc : ∀ i, i < xs.length → w.cell? ⟨b, off + i, none⟩ = some (.int .i64 (Bw.nth xs i))) :
    ∀ j u, (xs.map (Value.int .i64))[j]? = some u → w.cell? ((⟨b, off, none⟩ : Addr).add j) = some u := by
  intro j u hj
  have hjl : j < xs.length := by
    rcases Nat.lt_or_ge j xs.length with h | h
    · exact h
    · rw [List.getElem?_eq_none (by simpa using h)] at hj; cases hj
  rw [List.getElem?_map, Bw.nth_lt hjl] at hj
  injection hj with hj
  subst hj
  have ea : (⟨b, off, none⟩ : Addr).add j = ⟨b, off + j, none⟩ := by
    by_cases hz : j = 0
    · subst hz; simp [Addr.add]
    · simp [Addr.add, hz]
  rw [ea]
  exact hc j hjl

theorem or_pow_int {q k : Nat} (h : q < 2 ^ k) (hk : k ≤ 11) : bits .or .i64 (q : Int) (wrap64 (2 ^ k)) = ((q + 2 ^ k : Nat) : Int) := by
  have h2 : 2 ^ k ≤ 2 ^ 11 := Nat.pow_le_pow_right (by omega) hk
  have h3 := or_bit (testBit_of_lt h (Nat.le_refl _))
  rw [two_pow_cast, w64n (n := 2 ^ k) (by omega), i64_or _ _ (by omega) (by omega), h3]

theorem add_pow_int {q k : Nat} (h : q < 2 ^ k) (hk : k ≤ 11) : wrap64 ((q : Int) + wrap64 (2 ^ k)) = ((q + 2 ^ k : Nat) : Int) := by
  have h2 : 2 ^ k ≤ 2 ^ 11 := Nat.pow_le_pow_right (by omega) hk
  rw [two_pow_cast, w64n (n := 2 ^ k) (by omega), w64 (by omega)]
  omega

theorem cx_swap {L : List Int} {k : Nat} {x y : Int} (h : nth L k = x ∧ nth L (k + 1) = y) (hlt : y < x) : cx L k = (L.set k y).set (k + 1) x := by
  unfold cx; rw [h.1, h.2, if_pos hlt]

theorem cx_stay {L : List Int} {k : Nat} {x y : Int} (h : nth L k = x ∧ nth L (k + 1) = y) (hlt : ¬ y < x) : cx L k = L := by
  unfold cx; rw [h.1, h.2, if_neg hlt]

theorem cell_after {w : World} {p q : Addr} {x v : Value} (h : w.cell? q = some v) : ∃ v', (w.setCell p x).cell? q = some v' := by
  by_cases e : p = q
  · subst e; exact ⟨x, World.cell?_setCell_same w p x h⟩
  · exact ⟨v, (World.cell?_setCell_other w p q x e).trans h⟩

end Bw

namespace Go.Proofs.YtbknmokoegembacDoor
open Go.RowKit Go.Maps
set_option linter.unusedVariables false

theorem below_drewS {B : Nat} {w w1 : World} {p q : Addr} {x y : Value} {m : Nat} (h : Below B w ((w1.setCell p x).setCell q y)) : Below B w (((w1.drewN m).setCell p x).setCell q y) :=
  Go.below_drewN h m

set_option maxRecDepth 100000 in
set_option maxHeartbeats 1000000 in
theorem impl_RoundsOf_yes (v : Value) (xs : List Int) (w : World) (hv : Hid (Bw.Reads w v xs)) (ha : Hid (Bw.OrderOk xs)) :
    Calls Tryd.prog 22 #[v] w fun e w' => ∃ r, e = .returned r ∧ Bw.Own 3 w.heap.size w' r (Bw.roundsOf xs) ∧ Below w.heap.size w w' := by
  obtain ⟨i0, hi, hz0, hz1, hz2⟩ := info_parts infoInt
  obtain ⟨n, hn⟩ : ∃ n, xs.length = n := ⟨_, rfl⟩
  have hn12 := ha.out.1
  have HN := Lib.hid hn
  rw [hn] at hn12
  rcases hv.out with ⟨h0, _⟩ | ⟨h0, b, off, cap, rfl, hc, hlt, hcell⟩
  · subst h0; exact absurd ha.out.1.1 (by simp)
  have HC := Lib.hid hcell
  rw [hn] at hv hc ⊢
  clear hcell h0 hn
  go_enter Tryd.func22, Tryd.ntmps22
  go_wp2_with fail
  (with_reducible refine (isOrder_yes _ xs _ hv.out ha).mono ?_)
  rintro e w1 ⟨rfl, hb1⟩
  have HB1 := Lib.hid hb1
  have hsz := hb1.size
  clear hb1
  have hnews := Lib.hid (Bw.cells_news (w := w1) (b := b) (off := off) (xs := xs) (fun i hi => by rw [(HB1.out.cell (p := ⟨b, off + i, none⟩) hlt)]; exact HC.out i hi))
  have hx : (xs.map (Value.int .i64)).length = n := by rw [List.length_map]; exact HN.out
  have HX := Lib.hid hx
  clear hx
  go_wp2_with (at_builtin; refine wpList_append_own _ rfl _ _ 29 rfl w.heap.size 3 i0 (.int .i64 0) 1 8 Tryd.underlying29 hi hz0 hz1 hz2 rfl (by decide) _ 0 [] rfl (World.ownsRow_nil w1 _ _ _) ⟨b, off, none⟩ n cap (xs.map (Value.int .i64)) rfl (by rw [HX.out]; omega) hnews.out (ints_oneCell .i64 xs) (by unfold maxLen; omega) (by omega) hsz ?_)
  intro v2 w2 hown2 hgrow2 hnil2
  replace hown2 : w2.ownsRow w.heap.size 3 1 v2 n (xs.map (Value.int .i64)) := by simpa using hown2
  obtain ⟨d, dc, rfl⟩ := Bw.own_some hown2 (by
    rintro rfl
    rcases hown2.2 with ⟨_, h⟩ | ⟨g, c, u, h, _⟩
    · omega
    · cases h)
  have hd := hown2.lt d rfl
  have HR : Hid (w2.ownsRow w.heap.size 3 1 (.slice (some ⟨d, 0, none⟩) n dc) n ((Bw.sqs xs 0).map (Value.int .i64))) := hown2
  have HB2 := Lib.hid (HB1.out.grown hgrow2 hsz (fun k h => by cases h))
  clear hown2 hgrow2 hnil2 hnews
  go_wp2_with fail
  go_loopw [4, 15] (fun u i wr => ∃ (ws : List Int), i = .int .i64 (ws.length : Nat) ∧ ws.length ≤ n ∧ d < wr.heap.size ∧ Hid (ws = (Bw.roundsOf xs).take ws.length) ∧ Hid (Bw.Own 3 w.heap.size wr u ws) ∧ Hid (u.ownBlock ≠ some d) ∧ Hid (wr.ownsRow w.heap.size 3 1 (.slice (some ⟨d, 0, none⟩) n dc) n ((Bw.sqs xs ws.length).map (Value.int .i64))) ∧ Hid (Below w.heap.size w wr)) (fun _ i _ => n - (intOf i).toNat)
  case atStart => exact ⟨[], rfl, by simp, hd.2, Lib.hid (by simp), Bw.own_none _ _ _, Lib.hid (by simp [Value.ownBlock]), HR, HB2⟩
  case round =>
    obtain ⟨ws, rfl, hwn, hdw, hws, ho, hne, hrow, hbe⟩ := hrel
    obtain ⟨r, hr⟩ : ∃ r, ws.length = r := ⟨_, rfl⟩
    rw [hr] at hwn hws hrow ⊢
    have HRR := Lib.hid hr
    clear hr
    by_cases hl : r < n
    · obtain ⟨p, hp⟩ : ∃ p, r % 2 = p := ⟨_, rfl⟩
      have hp1 : p ≤ 1 := by omega
      have ep : (r : Int) % 2 = (p : Int) := by omega
      have ht : (r : Int).tmod 2 = (p : Int) := by rw [Int.tmod_eq_emod_of_nonneg (by omega), ep]
      obtain ⟨cur, hcur⟩ : ∃ c, Bw.sqs xs r = c := ⟨_, rfl⟩
      have hcl : cur.length = n := by rw [← hcur, Bw.sqs_length, HN.out]
      have HCL := Lib.hid hcl
      have HS : Hid (Bw.sqs xs (r + 1) = Bw.sq cur p ((n - p) / 2) ∧ Bw.nth (Bw.roundsOf xs) r = ((Bw.rword cur p ((n - p) / 2) : Nat) : Int)) := by
        refine ⟨?_, ?_⟩
        · rw [Bw.sqs_succ, hcur, hp, HN.out]
        · rw [Bw.roundsOf_nth (by rw [HN.out]; exact hl), hcur, hp, HN.out]
      rw [hcur] at hrow
      clear hp hcur hcl
      obtain ⟨wo, rfl⟩ : ∃ wo : World, wo = wr := ⟨_, rfl⟩
      go_wp2_with fail
      go_loopw [6, 7] (fun t i wr => ∃ j k : Nat, Hid (k = p + 2 * j) ∧ k ≤ n + 1 ∧ Hid (j = 0 ∨ k ≤ n) ∧ i = .int .i64 k ∧ t = .int .i64 ((Bw.rword cur p j : Nat) : Int) ∧ d < wr.heap.size ∧ Hid (Bw.Own 3 w.heap.size wr u4 ws) ∧ Hid (wr.ownsRow w.heap.size 3 1 (.slice (some ⟨d, 0, none⟩) n dc) n ((Bw.sq cur p j).map (Value.int .i64))) ∧ Hid (Below w.heap.size w wr)) (fun _ i _ => n + 1 - (intOf i).toNat)
      case atStart => exact ⟨0, p, Lib.hid rfl, by omega, .inl rfl, rfl, rfl, hdw, ho, hrow, hbe⟩
      case round =>
        obtain ⟨j, k, hk, hkn, hj0, rfl, rfl, hdw2, ho2, hrow2, hbe2⟩ := hrel
        have HSQ : Hid (Bw.sq cur p (j + 1) = Bw.cx (Bw.sq cur p j) k ∧ Bw.rword cur p (j + 1) = Bw.rword cur p j + (if Bw.nth (Bw.sq cur p j) (k + 1) < Bw.nth (Bw.sq cur p j) k then 2 ^ k else 0) ∧ Bw.rword cur p j < 2 ^ k) := by
          unfold Hid
          rw [hk.out]
          exact ⟨rfl, rfl, Bw.rword_lt _ _ _⟩
        have hLl : (Bw.sq cur p j).length = n := by rw [Bw.sq_length, HCL.out]
        obtain ⟨L, hL⟩ : ∃ L, Bw.sq cur p j = L := ⟨_, rfl⟩
        rw [hL] at hLl hrow2 HSQ
        have HLL := Lib.hid hLl
        have HL := Lib.hid hL
        clear hLl hL
        obtain ⟨q, hq⟩ : ∃ q, Bw.rword cur p j = q := ⟨_, rfl⟩
        rw [hq] at HSQ ⊢
        have HQ := Lib.hid hq
        clear hq
        by_cases hlk : k + 1 < n
        · have c0 := hrow2.out.cellAt k (by omega)
          have c1 := hrow2.out.cellAt (k + 1) (by omega)
          rw [List.getElem?_map, Bw.nth_lt (show k < L.length by rw [HLL.out]; omega)] at c0
          rw [List.getElem?_map, Bw.nth_lt (show k + 1 < L.length by rw [HLL.out]; omega)] at c1
          have f0 := hrow2.out.frozenAt k
          have f1 := hrow2.out.frozenAt (k + 1)
          have hst := hrow2.out.stored k (.int .i64 (Bw.nth L (k + 1)))
          have hst2 := hst.1.stored (k + 1) (.int .i64 (Bw.nth L k))
          obtain ⟨x, hx⟩ : ∃ x, Bw.nth L k = x := ⟨_, rfl⟩
          obtain ⟨y, hy⟩ : ∃ y, Bw.nth L (k + 1) = y := ⟨_, rfl⟩
          rw [hx] at c0 HSQ hst2
          rw [hy] at c1 HSQ hst hst2
          replace c0 : wr.cell? ⟨d, k, none⟩ = some (.int .i64 x) := c0
          replace c1 : wr.cell? ⟨d, k + 1, none⟩ = some (.int .i64 y) := c1
          have HXY : Hid (Bw.nth L k = x ∧ Bw.nth L (k + 1) = y) := ⟨hx, hy⟩
          have HST := Lib.hid hst
          have HST2 := Lib.hid hst2
          have hk11 : k ≤ 11 := by omega
          have hq4 : q < 4096 := by
            have h1 := HSQ.out.2.2
            have h2 : 2 ^ k ≤ 2 ^ 12 := Nat.pow_le_pow_right (by omega) (by omega)
            omega
          clear hx hy hst hst2
          by_cases hxy : y < x
          · have ht1 : decide (y < x) = true := by simpa using hxy
            have HY := Lib.hid hxy
            clear hxy
            go_wp2_with fail
            go_quiet (fail)
            go_wp2_with fail
            obtain ⟨v', hv'⟩ := Bw.cell_after (w := wr.drew) (p := ⟨d, k, none⟩) (x := .int .i64 y) (q := ⟨d, k + 1, none⟩) (v := .int .i64 y) (by go_simp)
            go_region
            go_wp2_with fail
            go_roundw
            case rel =>
              have gg := Bw.grown_transN HST.out.2 HST2.out.2
              have hO : Bw.Own 3 w.heap.size ((wr.setCell ⟨d, k, none⟩ (.int .i64 y)).setCell ⟨d, k + 1, none⟩ (.int .i64 x)) u4 ws := ho2.out.grown gg (.inr hne.out)
              have hB := hbe2.out.grown gg hbe2.out.size (fun k e => by cases e; exact hd.1)
              refine ⟨j + 1, k + 2, by have := hk.out; unfold Hid; omega, by omega, .inr (by omega), by go_num, by rw [HSQ.out.2.1, if_pos HY.out, Bw.or_pow_int HSQ.out.2.2 hk11], Nat.lt_of_lt_of_le hdw2 gg.size, hO, ?_, below_drewS hB⟩
              rw [HSQ.out.1, Bw.cx_swap HXY.out HY.out, List.map_set, List.map_set]
              exact HST2.out.1
            case measure => simp [intOf]; omega
          · have ht1 : decide (y < x) = false := by simpa using hxy
            have HY := Lib.hid hxy
            clear hxy
            go_wp2_with fail
            go_quiet (fail)
            go_wp2_with fail
            go_roundw
            case rel => exact ⟨j + 1, k + 2, by have := hk.out; unfold Hid; omega, by omega, .inr (by omega), by go_num, by rw [HSQ.out.2.1, if_neg (by have := HY.out; omega)]; rfl, hdw2, ho2, by rw [HSQ.out.1, Bw.cx_stay HXY.out (by have := HY.out; omega)]; exact hrow2, Go.below_drewN hbe2.out _⟩
            case measure => simp [intOf]; omega
        · have he : (n - p) / 2 = j := by have := hk.out; have := hj0.out; omega
          have HSS := Lib.hid HS.out
          have hS : Bw.sqs xs (r + 1) = L ∧ Bw.nth (Bw.roundsOf xs) r = (q : Int) := by
            have h := HS.out
            rw [he, HL.out, HQ.out] at h
            exact h
          have HSX := Lib.hid hS
          have hsz2 := hbe2.out.size
          have hown := (Bw.Own.row ho2.out).alloc (.cells #[.int .i64 (q : Int)] 3)
          have hwl : ws.length ≤ 12 := by rw [HRR.out]; omega
          clear he hS HSS
          go_wp2_with (at_builtin; refine wpList_append_own_at _ rfl _ _ 29 rfl w.heap.size 3 i0 (.int .i64 0) 1 8 Tryd.underlying29 hi hz0 hz1 hz2 rfl (by decide) _ ws.length _ rfl hown ⟨wr.heap.size, 0, none⟩ 1 1 [.int .i64 (q : Int)] rfl rfl (cell_one_new _ _ _) (ints_oneCell .i64 [(q : Int)]) (by unfold maxLen; omega) (by omega) (by simp; omega) ?_)
          intro u' w3 hown3 hgrow hnil hloc
          have HO : Hid (Bw.Own 3 w.heap.size w3 u' (ws ++ [(q : Int)])) := Bw.own_snoc hown3
          have HB3 : Hid (Below w.heap.size w w3) := (hbe2.out.alloc hsz2 _).grown hgrow (by simp; omega) (fun k e => (hown.lt k e).1)
          have HNE : Hid (u'.ownBlock ≠ some d) := by
            rcases hloc with h | h
            · unfold Hid; rw [h]; exact hne.out
            · unfold Hid; rw [h]; intro e; injection e with e; first | omega | (simp at e; omega)
          have HROW : Hid (w3.ownsRow w.heap.size 3 1 (.slice (some ⟨d, 0, none⟩) n dc) n (L.map (Value.int .i64))) := by
            exact (hrow2.out.alloc _).kept hgrow (.inr (fun e => hne.out e.symm))
          have hdw3 : d < w3.heap.size := by have := hgrow.size; simp at this; omega
          have HZ : Hid (ws ++ [(q : Int)] = (Bw.roundsOf xs).take (r + 1)) := by
            unfold Hid
            rw [Bw.take_succ_nth (by rw [Bw.roundsOf_length, HN.out]; exact hl), HSX.out.2, ← hws.out]
          have HLEN : Hid ((ws ++ [(q : Int)]).length = r + 1) := by unfold Hid; rw [List.length_append, HRR.out]; rfl
          clear hown3 hgrow hnil hown hloc
          go_wp2_with fail
          go_roundw
          case rel => exact ⟨ws ++ [(q : Int)], by rw [HLEN.out]; go_num, by rw [HLEN.out]; omega, hdw3, by rw [HLEN.out]; exact HZ, HO, HNE, by rw [HLEN.out, HSX.out.1]; exact HROW, HB3⟩
          case measure => simp [intOf]; omega
    · obtain rfl : r = n := by omega
      have HE : Hid (ws = Bw.roundsOf xs) := by
        have h1 := hws.out
        rw [List.take_of_length_le (by rw [Bw.roundsOf_length, HN.out]; omega)] at h1
        exact h1
      go_wp2_with fail
      go_ret
      exact ⟨_, rfl, by rw [← HE.out]; exact ho.out, hbe.out⟩

set_option maxRecDepth 100000 in
set_option maxHeartbeats 1000000 in
theorem spec_RoundsOf_yes (v : Value) (xs : List Int) (w : World) (hv : Hid (Bw.Reads w v xs)) (ha : Hid (Bw.OrderOk xs)) :
    Calls Tryd.prog 24 #[v] w fun e w' => ∃ r, e = .returned r ∧ Bw.Own 3 w.heap.size w' r (Bw.roundsOf xs) ∧ Below w.heap.size w w' := by
  obtain ⟨i0, hi, hz0, hz1, hz2⟩ := info_parts infoInt
  obtain ⟨n, hn⟩ : ∃ n, xs.length = n := ⟨_, rfl⟩
  have hn12 := ha.out.1
  have HN := Lib.hid hn
  rw [hn] at hn12
  rcases hv.out with ⟨h0, _⟩ | ⟨h0, b, off, cap, rfl, hc, hlt, hcell⟩
  · subst h0; exact absurd ha.out.1.1 (by simp)
  have HC := Lib.hid hcell
  rw [hn] at hv hc ⊢
  clear hcell h0 hn
  have hal : Below w.heap.size w (w.alloc (.cells #[] 3)) := (Below.refl _ _).alloc (Nat.le_refl _) _
  have HV := Lib.hid (hv.out.below hal)
  have HAL := Lib.hid hal
  have HM := Lib.hid (Bw.own_made 3 w)
  have has : w.heap.size < (w.alloc (.cells #[] 3)).heap.size := by simp
  have HAS := Lib.hid has
  clear hal has
  go_enter Tryd.func24, Tryd.ntmps24
  go_wp2_with fail
  (with_reducible refine (spec_OrderValid_yes _ xs _ HV.out ha).mono ?_)
  rintro e w1 ⟨rfl, hb1⟩
  have HB1 := Lib.hid (HAL.out.trans (hb1.mono HAL.out.size))
  have HM1 := Lib.hid (HM.out.below hb1)
  have hsz := HB1.out.size
  have hs1 : w.heap.size < w1.heap.size := Nat.lt_of_lt_of_le HAS.out hb1.size
  clear hb1
  have hal1 : Below w.heap.size w (w1.alloc (.cells #[] 3)) := HB1.out.alloc hsz _
  have hnews := Lib.hid (Bw.cells_news (w := w1.alloc (.cells #[] 3)) (b := b) (off := off) (xs := xs) (fun i hi => by rw [(hal1.cell (p := ⟨b, off + i, none⟩) hlt)]; exact HC.out i hi))
  have hx : (xs.map (Value.int .i64)).length = n := by rw [List.length_map]; exact HN.out
  have HX := Lib.hid hx
  have hown1 : (w1.alloc (.cells #[] 3)).ownsRow w1.heap.size 3 1 (.slice (some ⟨w1.heap.size, 0, none⟩) 0 0) 0 [] := World.ownsRow_made w1 #[] 0 (Nat.le_refl _) (by unfold maxLen; omega) rfl
  have HAL1 := Lib.hid hal1
  clear hx hal1
  go_wp2_with (at_builtin; refine wpList_append_own _ rfl _ _ 29 rfl w1.heap.size 3 i0 (.int .i64 0) 1 8 Tryd.underlying29 hi hz0 hz1 hz2 rfl (by decide) _ 0 [] rfl hown1 ⟨b, off, none⟩ n cap (xs.map (Value.int .i64)) rfl (by rw [HX.out]; omega) hnews.out (ints_oneCell .i64 xs) (by unfold maxLen; omega) (by omega) (by simp) ?_)
  intro v2 w2 hown2 hgrow2 hnil2
  obtain ⟨d, dc, rfl⟩ := Bw.own_some hown2 hnil2
  replace hown2 : w2.ownsRow w1.heap.size 3 1 (.slice (some ⟨d, 0, none⟩) n dc) n (xs.map (Value.int .i64)) := by simpa using hown2
  have hd0 := hown2.lt d rfl
  have hd : w.heap.size ≤ d ∧ d < w2.heap.size := ⟨by omega, hd0.2⟩
  have HR : Hid (w2.ownsRow w.heap.size 3 1 (.slice (some ⟨d, 0, none⟩) n dc) n ((Bw.sqs xs 0).map (Value.int .i64))) := World.ownsRow.mono hown2 hsz
  have HB2 := Lib.hid (HAL1.out.grown hgrow2 HAL1.out.size (fun k h => by cases h; exact hsz))
  have HMO : Hid (Bw.Own 3 w.heap.size w2 (.slice (some ⟨w.heap.size, 0, none⟩) 0 0) []) := ((Bw.Own.row HM1.out).alloc _).kept hgrow2 (.inr (by show some w.heap.size ≠ some w1.heap.size; intro e; injection e with e; omega))
  have HMD : Hid ((Value.slice (some ⟨w.heap.size, 0, none⟩) 0 0).ownBlock ≠ some d) := by show some w.heap.size ≠ some d; intro e; injection e with e; omega
  clear hown2 hgrow2 hnil2 hnews hown1 hd0
  go_wp2_with fail
  go_loopw [3, 5] (fun u i wr => ∃ (ws : List Int), i = .int .i64 (ws.length : Nat) ∧ ws.length ≤ n ∧ d < wr.heap.size ∧ Hid (ws = (Bw.roundsOf xs).take ws.length) ∧ Hid (Bw.Own 3 w.heap.size wr u ws) ∧ Hid (u.ownBlock ≠ some d) ∧ Hid (wr.ownsRow w.heap.size 3 1 (.slice (some ⟨d, 0, none⟩) n dc) n ((Bw.sqs xs ws.length).map (Value.int .i64))) ∧ Hid (Below w.heap.size w wr)) (fun _ i _ => n - (intOf i).toNat)
  case atStart => exact ⟨[], rfl, by simp, hd.2, Lib.hid (by simp), HMO, HMD, HR, HB2⟩
  case round =>
    obtain ⟨ws, rfl, hwn, hdw, hws, ho, hne, hrow, hbe⟩ := hrel
    obtain ⟨r, hr⟩ : ∃ r, ws.length = r := ⟨_, rfl⟩
    rw [hr] at hwn hws hrow ⊢
    have HRR := Lib.hid hr
    clear hr
    by_cases hl : r < n
    · obtain ⟨p, hp⟩ : ∃ p, r % 2 = p := ⟨_, rfl⟩
      have hp1 : p ≤ 1 := by omega
      have ep : (r : Int) % 2 = (p : Int) := by omega
      have ht : (r : Int).tmod 2 = (p : Int) := by rw [Int.tmod_eq_emod_of_nonneg (by omega), ep]
      obtain ⟨cur, hcur⟩ : ∃ c, Bw.sqs xs r = c := ⟨_, rfl⟩
      have hcl : cur.length = n := by rw [← hcur, Bw.sqs_length, HN.out]
      have HCL := Lib.hid hcl
      have HS : Hid (Bw.sqs xs (r + 1) = Bw.sq cur p ((n - p) / 2) ∧ Bw.nth (Bw.roundsOf xs) r = ((Bw.rword cur p ((n - p) / 2) : Nat) : Int)) := by
        refine ⟨?_, ?_⟩
        · rw [Bw.sqs_succ, hcur, hp, HN.out]
        · rw [Bw.roundsOf_nth (by rw [HN.out]; exact hl), hcur, hp, HN.out]
      rw [hcur] at hrow
      clear hp hcur hcl
      obtain ⟨wo, rfl⟩ : ∃ wo : World, wo = wr := ⟨_, rfl⟩
      go_wp2_with fail
      go_loopw [6, 7] (fun t i wr => ∃ j k : Nat, Hid (k = p + 2 * j) ∧ k ≤ n + 1 ∧ Hid (j = 0 ∨ k ≤ n) ∧ i = .int .i64 k ∧ t = .int .i64 ((Bw.rword cur p j : Nat) : Int) ∧ d < wr.heap.size ∧ Hid (Bw.Own 3 w.heap.size wr u3 ws) ∧ Hid (wr.ownsRow w.heap.size 3 1 (.slice (some ⟨d, 0, none⟩) n dc) n ((Bw.sq cur p j).map (Value.int .i64))) ∧ Hid (Below w.heap.size w wr)) (fun _ i _ => n + 1 - (intOf i).toNat)
      case atStart => exact ⟨0, p, Lib.hid rfl, by omega, .inl rfl, rfl, rfl, hdw, ho, hrow, hbe⟩
      case round =>
        obtain ⟨j, k, hk, hkn, hj0, rfl, rfl, hdw2, ho2, hrow2, hbe2⟩ := hrel
        have HSQ : Hid (Bw.sq cur p (j + 1) = Bw.cx (Bw.sq cur p j) k ∧ Bw.rword cur p (j + 1) = Bw.rword cur p j + (if Bw.nth (Bw.sq cur p j) (k + 1) < Bw.nth (Bw.sq cur p j) k then 2 ^ k else 0) ∧ Bw.rword cur p j < 2 ^ k) := by
          unfold Hid
          rw [hk.out]
          exact ⟨rfl, rfl, Bw.rword_lt _ _ _⟩
        have hLl : (Bw.sq cur p j).length = n := by rw [Bw.sq_length, HCL.out]
        obtain ⟨L, hL⟩ : ∃ L, Bw.sq cur p j = L := ⟨_, rfl⟩
        rw [hL] at hLl hrow2 HSQ
        have HLL := Lib.hid hLl
        have HL := Lib.hid hL
        clear hLl hL
        obtain ⟨q, hq⟩ : ∃ q, Bw.rword cur p j = q := ⟨_, rfl⟩
        rw [hq] at HSQ ⊢
        have HQ := Lib.hid hq
        clear hq
        by_cases hlk : k + 1 < n
        · have c0 := hrow2.out.cellAt k (by omega)
          have c1 := hrow2.out.cellAt (k + 1) (by omega)
          rw [List.getElem?_map, Bw.nth_lt (show k < L.length by rw [HLL.out]; omega)] at c0
          rw [List.getElem?_map, Bw.nth_lt (show k + 1 < L.length by rw [HLL.out]; omega)] at c1
          have f0 := hrow2.out.frozenAt k
          have f1 := hrow2.out.frozenAt (k + 1)
          have hst := hrow2.out.stored k (.int .i64 (Bw.nth L (k + 1)))
          have hst2 := hst.1.stored (k + 1) (.int .i64 (Bw.nth L k))
          obtain ⟨x, hx⟩ : ∃ x, Bw.nth L k = x := ⟨_, rfl⟩
          obtain ⟨y, hy⟩ : ∃ y, Bw.nth L (k + 1) = y := ⟨_, rfl⟩
          rw [hx] at c0 HSQ hst2
          rw [hy] at c1 HSQ hst hst2
          replace c0 : wr.cell? ⟨d, k, none⟩ = some (.int .i64 x) := c0
          replace c1 : wr.cell? ⟨d, k + 1, none⟩ = some (.int .i64 y) := c1
          have HXY : Hid (Bw.nth L k = x ∧ Bw.nth L (k + 1) = y) := ⟨hx, hy⟩
          have HST := Lib.hid hst
          have HST2 := Lib.hid hst2
          have hk11 : k ≤ 11 := by omega
          have hq4 : q < 4096 := by
            have h1 := HSQ.out.2.2
            have h2 : 2 ^ k ≤ 2 ^ 12 := Nat.pow_le_pow_right (by omega) (by omega)
            omega
          clear hx hy hst hst2
          by_cases hxy : y < x
          · have ht1 : decide (y < x) = true := by simpa using hxy
            have HY := Lib.hid hxy
            clear hxy
            go_wp2_with fail
            go_quiet (fail)
            go_wp2_with fail
            have c2 : (wr.setCell ⟨d, k, none⟩ (.int .i64 y)).cell? ⟨d, k + 1, none⟩ = some (.int .i64 y) := by
              rw [World.cell?_setCell_other wr _ _ _ (by intro e; injection e with _ e _; omega)]; exact c1
            go_wp2_with fail
            go_roundw
            case rel =>
              have gg := Bw.grown_transN HST.out.2 HST2.out.2
              have hO : Bw.Own 3 w.heap.size ((wr.setCell ⟨d, k, none⟩ (.int .i64 y)).setCell ⟨d, k + 1, none⟩ (.int .i64 x)) u3 ws := ho2.out.grown gg (.inr hne.out)
              have hB := hbe2.out.grown gg hbe2.out.size (fun k e => by cases e; exact hd.1)
              refine ⟨j + 1, k + 2, by have := hk.out; unfold Hid; omega, by omega, .inr (by omega), by go_num, by rw [HSQ.out.2.1, if_pos HY.out, Bw.add_pow_int HSQ.out.2.2 hk11], Nat.lt_of_lt_of_le hdw2 gg.size, hO, ?_, below_drewS hB⟩
              rw [HSQ.out.1, Bw.cx_swap HXY.out HY.out, List.map_set, List.map_set]
              exact HST2.out.1
            case measure => simp [intOf]; omega
          · have ht1 : decide (y < x) = false := by simpa using hxy
            have HY := Lib.hid hxy
            clear hxy
            go_wp2_with fail
            go_quiet (fail)
            go_wp2_with fail
            go_roundw
            case rel => exact ⟨j + 1, k + 2, by have := hk.out; unfold Hid; omega, by omega, .inr (by omega), by go_num, by rw [HSQ.out.2.1, if_neg (by have := HY.out; omega)]; rfl, hdw2, ho2, by rw [HSQ.out.1, Bw.cx_stay HXY.out (by have := HY.out; omega)]; exact hrow2, Go.below_drewN hbe2.out _⟩
            case measure => simp [intOf]; omega
        · have he : (n - p) / 2 = j := by have := hk.out; have := hj0.out; omega
          have HSS := Lib.hid HS.out
          have hS : Bw.sqs xs (r + 1) = L ∧ Bw.nth (Bw.roundsOf xs) r = (q : Int) := by
            have h := HS.out
            rw [he, HL.out, HQ.out] at h
            exact h
          have HSX := Lib.hid hS
          have hsz2 := hbe2.out.size
          have hown := (Bw.Own.row ho2.out).alloc (.cells #[.int .i64 (q : Int)] 3)
          have hwl : ws.length ≤ 12 := by rw [HRR.out]; omega
          clear he hS HSS
          go_wp2_with (at_builtin; refine wpList_append_own_at _ rfl _ _ 29 rfl w.heap.size 3 i0 (.int .i64 0) 1 8 Tryd.underlying29 hi hz0 hz1 hz2 rfl (by decide) _ ws.length _ rfl hown ⟨wr.heap.size, 0, none⟩ 1 1 [.int .i64 (q : Int)] rfl rfl (cell_one_new _ _ _) (ints_oneCell .i64 [(q : Int)]) (by unfold maxLen; omega) (by omega) (by simp; omega) ?_)
          intro u' w3 hown3 hgrow hnil hloc
          have HO : Hid (Bw.Own 3 w.heap.size w3 u' (ws ++ [(q : Int)])) := Bw.own_snoc hown3
          have HB3 : Hid (Below w.heap.size w w3) := (hbe2.out.alloc hsz2 _).grown hgrow (by simp; omega) (fun k e => (hown.lt k e).1)
          have HNE : Hid (u'.ownBlock ≠ some d) := by
            rcases hloc with h | h
            · unfold Hid; rw [h]; exact hne.out
            · unfold Hid; rw [h]; intro e; injection e with e; first | omega | (simp at e; omega)
          have HROW : Hid (w3.ownsRow w.heap.size 3 1 (.slice (some ⟨d, 0, none⟩) n dc) n (L.map (Value.int .i64))) := by
            exact (hrow2.out.alloc _).kept hgrow (.inr (fun e => hne.out e.symm))
          have hdw3 : d < w3.heap.size := by have := hgrow.size; simp at this; omega
          have HZ : Hid (ws ++ [(q : Int)] = (Bw.roundsOf xs).take (r + 1)) := by
            unfold Hid
            rw [Bw.take_succ_nth (by rw [Bw.roundsOf_length, HN.out]; exact hl), HSX.out.2, ← hws.out]
          have HLEN : Hid ((ws ++ [(q : Int)]).length = r + 1) := by unfold Hid; rw [List.length_append, HRR.out]; rfl
          clear hown3 hgrow hnil hown hloc
          go_wp2_with fail
          go_roundw
          case rel => exact ⟨ws ++ [(q : Int)], by rw [HLEN.out]; go_num, by rw [HLEN.out]; omega, hdw3, by rw [HLEN.out]; exact HZ, HO, HNE, by rw [HLEN.out, HSX.out.1]; exact HROW, HB3⟩
          case measure => simp [intOf]; omega
    · obtain rfl : r = n := by omega
      have HE : Hid (ws = Bw.roundsOf xs) := by
        have h1 := hws.out
        rw [List.take_of_length_le (by rw [Bw.roundsOf_length, HN.out]; omega)] at h1
        exact h1
      go_wp2_with fail
      go_ret
      exact ⟨_, rfl, by rw [← HE.out]; exact ho.out, hbe.out⟩

theorem impl_RoundsOf_no (v : Value) (xs : List Int) (w : World) (hv : Hid (Bw.Reads w v xs)) (hn : xs.length ≤ 1048576) (ha : Hid (¬ Bw.OrderOk xs)) :
    Calls Tryd.prog 22 #[v] w fun e w' => ∃ r, e = .returned r ∧ Bw.Own 3 w.heap.size w' r [] ∧ Below w.heap.size w w' := by
  go_enter Tryd.func22, Tryd.ntmps22
  go_wp2_with fail
  (with_reducible refine (isOrder_no _ xs _ hv.out hn ha).mono ?_)
  rintro e w1 ⟨rfl, hb1⟩
  have HB1 := Lib.hid hb1
  clear hb1
  go_wp2_with fail
  go_ret
  exact ⟨_, rfl, Bw.own_none _ _ _, HB1.out⟩

theorem spec_RoundsOf_no (v : Value) (xs : List Int) (w : World) (hv : Hid (Bw.Reads w v xs)) (hn : xs.length ≤ 1048576) (ha : Hid (¬ Bw.OrderOk xs)) :
    Calls Tryd.prog 24 #[v] w fun e w' => ∃ r, e = .returned r ∧ Bw.Own 3 w.heap.size w' r [] ∧ Below w.heap.size w w' := by
  have hal : Below w.heap.size w (w.alloc (.cells #[] 3)) := (Below.refl _ _).alloc (Nat.le_refl _) _
  have HV := Lib.hid (hv.out.below hal)
  have HAL := Lib.hid hal
  have HM := Lib.hid (Bw.own_made 3 w)
  clear hal
  go_enter Tryd.func24, Tryd.ntmps24
  go_wp2_with fail
  (with_reducible refine (spec_OrderValid_no _ xs _ HV.out hn ha).mono ?_)
  rintro e w1 ⟨rfl, hb1⟩
  have HB1 := Lib.hid (HAL.out.trans (hb1.mono HAL.out.size))
  have HM1 := Lib.hid (HM.out.below hb1)
  clear hb1
  go_wp2_with fail
  go_ret
  exact ⟨_, rfl, HM1.out, HB1.out⟩

theorem impl_RoundsOf_any (v : Value) (xs out : List Int) (w : World) (hv : Bw.Reads w v xs) (hn : xs.length ≤ 1048576) (h : Hid (Bw.RoundsIs xs out)) :
    Calls Tryd.prog 22 #[v] w fun e w' => ∃ r, e = .returned r ∧ Bw.Own 3 w.heap.size w' r out ∧ Below w.heap.size w w' := by
  by_cases hok : Bw.OrderOk xs
  · rw [h.out.1 hok]
    exact impl_RoundsOf_yes v xs w hv hok
  · rw [h.out.2 hok]
    exact impl_RoundsOf_no v xs w hv hn hok

theorem spec_RoundsOf_any (v : Value) (xs out : List Int) (w : World) (hv : Bw.Reads w v xs) (hn : xs.length ≤ 1048576) (h : Hid (Bw.RoundsIs xs out)) :
    Calls Tryd.prog 24 #[v] w fun e w' => ∃ r, e = .returned r ∧ Bw.Own 3 w.heap.size w' r out ∧ Below w.heap.size w w' := by
  by_cases hok : Bw.OrderOk xs
  · rw [h.out.1 hok]
    exact spec_RoundsOf_yes v xs w hv hok
  · rw [h.out.2 hok]
    exact spec_RoundsOf_no v xs w hv hn hok

end Go.Proofs.YtbknmokoegembacDoor
