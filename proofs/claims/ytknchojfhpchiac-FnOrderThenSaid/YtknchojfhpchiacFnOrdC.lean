/- Contracts: orders one after the other. -/
import Derived.Test.YtknchojfhpchiacFnOrdA
import Derived.Test.YtknchojfhpchiacOwn

namespace Bw
open Go Go.RowKit

theorem own_made (t : TypeId) (w : World) : Own t w.heap.size (w.alloc (.cells #[] t)) (.slice (some ⟨w.heap.size, 0, none⟩) 0 0) [] :=
  World.ownsRow_made w #[] 0 (Nat.le_refl _) (by unfold maxLen; omega) rfl

/-- what both answer: the one order after the other, or nothing -/
def ThenIs (a b out : List Int) : Prop :=
  (OrderOk a ∧ OrderOk b ∧ a.length = b.length → out = thn a b) ∧ (¬ (OrderOk a ∧ OrderOk b ∧ a.length = b.length) → out = [])

theorem thenIs_some (a b : List Int) : ∃ out, ThenIs a b out := by
  by_cases h : OrderOk a ∧ OrderOk b ∧ a.length = b.length
  · exact ⟨_, fun _ => rfl, fun h2 => absurd h h2⟩
  · exact ⟨[], fun h2 => absurd h2 h, fun _ => rfl⟩

theorem ThenIs.len {a b out : List Int} (h : ThenIs a b out) : out.length ≤ 12 := by
  by_cases h2 : OrderOk a ∧ OrderOk b ∧ a.length = b.length
  · rw [h.1 h2, thn_length]; exact h2.1.1.2
  · rw [h.2 h2]; simp

end Bw

namespace Go.Proofs.Ytknchojfhpchiac
open Go.RowKit Go.Maps
set_option linter.unusedVariables false

theorem grown_belowN {B : Nat} {w0 w1 w2 : World} {row : Option Nat} (hb : Below B w0 w1) (hB : B ≤ w1.heap.size) (hg : w1.grownBy w2 row) (hr : ∀ k, row = some k → B ≤ k) : Below B w0 w2 := hb.grown hg hB hr

set_option maxHeartbeats 1000000 in
theorem impl_OrderThen_yes (v v2 : Value) (xs ys : List Int) (w : World) (hv : Hid (Bw.Reads w v xs)) (hv2 : Hid (Bw.Reads w v2 ys)) (ha : Hid (Bw.OrderOk xs)) (hb : Hid (Bw.OrderOk ys)) (hab : xs.length = ys.length) :
    Calls Try.prog 25 #[v, v2] w fun e w' => ∃ r, e = .returned r ∧ Bw.Own 3 w.heap.size w' r (Bw.thn xs ys) ∧ Below w.heap.size w w' := by
  obtain ⟨i0, hi, hz0, hz1, hz2⟩ := info_parts infoInt
  obtain ⟨n, hn⟩ : ∃ n, xs.length = n := ⟨_, rfl⟩
  have hn12 := ha.out.1
  have HN := Lib.hid hn
  have HAB := Lib.hid (hab.symm.trans hn)
  rw [hn] at hn12
  rcases hv.out with ⟨h0, _⟩ | ⟨h0, b, off, cap, rfl, hc, hlt, hcell⟩
  · subst h0; exact absurd ha.out.1.1 (by simp)
  rcases hv2.out with ⟨h0, _⟩ | ⟨h02, b2, off2, cap2, rfl, hc2, hlt2, hcell2⟩
  · subst h0; exact absurd hb.out.1.1 (by simp)
  have HC := Lib.hid hcell
  have HC2 := Lib.hid hcell2
  rw [← hab, hn] at hv2 ⊢
  rw [hn] at hv
  clear hcell hcell2 hc hc2 h0 h02 hab hn
  go_enter Try.func25, Try.ntmps25
  go_wp2_with fail
  (with_reducible refine (isOrder_yes _ xs _ hv.out ha).mono ?_)
  rintro e w1 ⟨rfl, hb1⟩
  have HB1 := Lib.hid hb1
  have HV1 := Lib.hid (hv2.out.below hb1)
  clear hb1
  go_wp2_with fail
  (with_reducible refine (isOrder_yes _ ys _ HV1.out hb).mono ?_)
  rintro e w2 ⟨rfl, hb2⟩
  have HB2 := Lib.hid (HB1.out.trans (hb2.mono HB1.out.size))
  clear hb2
  go_wp2_with fail
  go_loopw [5, 25] (fun u i wr => ∃ zs : List Int, i = .int .i64 (zs.length : Nat) ∧ zs.length ≤ n ∧ Hid (zs = (Bw.thn xs ys).take zs.length) ∧ Hid (Bw.Own 3 w.heap.size wr u zs) ∧ Hid (Below w.heap.size w wr)) (fun _ i _ => n - (intOf i).toNat)
  case atStart => exact ⟨[], rfl, by simp, Lib.hid (by simp), Bw.own_none _ _ _, HB2⟩
  case round =>
    obtain ⟨zs, rfl, hzn, hz, ho, hbe⟩ := hrel
    by_cases hl : zs.length < n
    · have hla : zs.length < xs.length := by rw [HN.out]; exact hl
      have hp := ha.out.pl_lt hla
      rw [HN.out] at hp
      have hcell : wr.cell? ⟨b, off + zs.length, none⟩ = some (.int .i64 (Bw.pl xs zs.length)) := by
        rw [(hbe.out.cell (p := ⟨b, off + zs.length, none⟩) hlt), HC.out _ hla, ha.out.pl_cast hla]
      obtain ⟨p, hpp⟩ : ∃ p, Bw.pl xs zs.length = p := ⟨_, rfl⟩
      rw [hpp] at hcell hp
      have hcell2 : wr.cell? ⟨b2, off2 + p, none⟩ = some (.int .i64 (Bw.nth ys p)) := (hbe.out.cell (p := ⟨b2, off2 + p, none⟩) hlt2).trans (HC2.out p (by rw [HAB.out]; exact hp))
      obtain ⟨x, hx⟩ : ∃ x, Bw.nth ys p = x := ⟨_, rfl⟩
      rw [hx] at hcell2
      have HX : Hid (Bw.nth (Bw.thn xs ys) zs.length = x) := by unfold Hid; rw [Bw.thn_nth hla, hpp, hx]
      have hsz := hbe.out.size
      have hown := (Bw.Own.row ho.out).alloc (.cells #[.int .i64 x] 3)
      clear hpp hx
      go_wp2_with (at_builtin; refine wpList_append_own _ rfl _ _ 22 rfl w.heap.size 3 i0 (.int .i64 0) 1 8 Try.underlying22 hi hz0 hz1 hz2 rfl (by decide) _ zs.length _ rfl hown ⟨wr.heap.size, 0, none⟩ 1 1 [.int .i64 x] rfl rfl (cell_one_new _ _ _) (ints_oneCell .i64 [x]) (by unfold maxLen; omega) (by omega) (by simp; omega) ?_)
      intro u' w3 hown3 hgrow hnil
      have HO : Hid (Bw.Own 3 w.heap.size w3 u' (zs ++ [x])) := Bw.own_snoc hown3
      have HB3 : Hid (Below w.heap.size w w3) := (hbe.out.alloc hsz _).grown hgrow (by simp; omega) (fun k e => (hown.lt k e).1)
      have HZ : Hid (zs ++ [x] = (Bw.thn xs ys).take (zs ++ [x]).length) := by
        unfold Hid
        rw [List.length_append]
        show _ = List.take (zs.length + 1) _
        rw [Bw.take_succ_nth (by rw [Bw.thn_length]; exact hla), HX.out, ← hz.out]
      have hlen : (zs ++ [x]).length = zs.length + 1 := by simp
      clear hown3 hgrow hnil hown hcell hcell2
      have HLEN := Lib.hid hlen
      clear hlen
      go_wp2
      go_roundw
      case rel => exact ⟨zs ++ [x], by rw [HLEN.out]; go_num, by rw [HLEN.out]; omega, HZ, HO, HB3⟩
      case measure => simp [intOf]; omega
    · have HE : Hid (zs = Bw.thn xs ys) := by
        have h1 := hz.out
        rw [List.take_of_length_le (by rw [Bw.thn_length, HN.out]; omega)] at h1
        exact h1
      have hE : zs.length = n := by omega
      have HE2 := Lib.hid hE
      clear hE
      go_wp2_with fail
      go_ret
      exact ⟨_, rfl, by rw [← HE.out]; exact ho.out, hbe.out⟩

set_option maxHeartbeats 1000000 in
theorem spec_OrderThen_yes (v v2 : Value) (xs ys : List Int) (w : World) (hv : Hid (Bw.Reads w v xs)) (hv2 : Hid (Bw.Reads w v2 ys)) (ha : Hid (Bw.OrderOk xs)) (hb : Hid (Bw.OrderOk ys)) (hab : xs.length = ys.length) :
    Calls Try.prog 27 #[v, v2] w fun e w' => ∃ r, e = .returned r ∧ Bw.Own 3 w.heap.size w' r (Bw.thn xs ys) ∧ Below w.heap.size w w' := by
  obtain ⟨i0, hi, hz0, hz1, hz2⟩ := info_parts infoInt
  obtain ⟨n, hn⟩ : ∃ n, xs.length = n := ⟨_, rfl⟩
  have hn12 := ha.out.1
  have HN := Lib.hid hn
  have HAB := Lib.hid (hab.symm.trans hn)
  rw [hn] at hn12
  rcases hv.out with ⟨h0, _⟩ | ⟨h0, b, off, cap, rfl, hc, hlt, hcell⟩
  · subst h0; exact absurd ha.out.1.1 (by simp)
  rcases hv2.out with ⟨h0, _⟩ | ⟨h02, b2, off2, cap2, rfl, hc2, hlt2, hcell2⟩
  · subst h0; exact absurd hb.out.1.1 (by simp)
  have HC := Lib.hid hcell
  have HC2 := Lib.hid hcell2
  rw [← hab, hn] at hv2 ⊢
  rw [hn] at hv
  clear hcell hcell2 hc hc2 h0 h02 hab hn
  go_enter Try.func27, Try.ntmps27
  go_wp2_with fail
  go_loopw [5, 6] (fun u i wr => ∃ zs : List Int, i = .int .i64 (zs.length : Nat) ∧ zs.length ≤ n ∧ Hid (zs = (Bw.thn xs ys).take zs.length) ∧ Hid (Bw.Own 3 w.heap.size wr u zs) ∧ Hid (Below w.heap.size w wr)) (fun _ i _ => n - (intOf i).toNat)
  case atStart => exact ⟨[], rfl, by simp, Lib.hid (by simp), Bw.own_made _ _, (Below.refl _ _).alloc (Nat.le_refl _) _⟩
  case round =>
    obtain ⟨zs, rfl, hzn, hz, ho, hbe⟩ := hrel
    by_cases hl : zs.length < n
    · have hla : zs.length < xs.length := by rw [HN.out]; exact hl
      have hp := ha.out.pl_lt hla
      rw [HN.out] at hp
      have hcell : wr.cell? ⟨b, off + zs.length, none⟩ = some (.int .i64 (Bw.pl xs zs.length)) := by
        rw [(hbe.out.cell (p := ⟨b, off + zs.length, none⟩) hlt), HC.out _ hla, ha.out.pl_cast hla]
      obtain ⟨p, hpp⟩ : ∃ p, Bw.pl xs zs.length = p := ⟨_, rfl⟩
      rw [hpp] at hcell hp
      have hcell2 : wr.cell? ⟨b2, off2 + p, none⟩ = some (.int .i64 (Bw.nth ys p)) := (hbe.out.cell (p := ⟨b2, off2 + p, none⟩) hlt2).trans (HC2.out p (by rw [HAB.out]; exact hp))
      obtain ⟨x, hx⟩ : ∃ x, Bw.nth ys p = x := ⟨_, rfl⟩
      rw [hx] at hcell2
      have HP := Lib.hid hpp
      have HXX := Lib.hid hx
      have HX : Hid (Bw.nth (Bw.thn xs ys) zs.length = x) := by unfold Hid; rw [Bw.thn_nth hla, hpp, hx]
      have hsz := hbe.out.size
      have HV := Lib.hid (Bw.Reads.belowB hv.out hbe.out (Nat.le_refl _))
      have HV2 := Lib.hid (Bw.Reads.belowB hv2.out hbe.out (Nat.le_refl _))
      have HO0 := Lib.hid ho.out
      have HBE := Lib.hid hbe.out
      clear hcell hcell2 hsz
      go_wp2_with fail
      (with_reducible refine (spec_OrderValid_yes _ xs _ HV.out ha).mono ?_)
      rintro e w1 ⟨rfl, hb1⟩
      have HO1 := Lib.hid (HO0.out.below hb1)
      have HV2 := Lib.hid (HV2.out.below hb1)
      have HBE := Lib.hid (HBE.out.trans (hb1.mono HBE.out.size))
      clear hb1
      go_wp2_with fail
      (with_reducible refine (spec_OrderValid_yes _ ys _ HV2.out hb).mono ?_)
      rintro e w2 ⟨rfl, hb2⟩
      have HO2 := Lib.hid (HO1.out.below hb2)
      have HBE := Lib.hid (HBE.out.trans (hb2.mono HBE.out.size))
      clear hb2
      have hcell : w2.cell? ⟨b, off + zs.length, none⟩ = some (.int .i64 p) := by
        rw [(HBE.out.cell (p := ⟨b, off + zs.length, none⟩) hlt), HC.out _ hla, ha.out.pl_cast hla, HP.out]
      have hcell2 : w2.cell? ⟨b2, off2 + p, none⟩ = some (.int .i64 x) := by
        rw [(HBE.out.cell (p := ⟨b2, off2 + p, none⟩) hlt2), HC2.out p (by rw [HAB.out]; exact hp), HXX.out]
      have hsz := HBE.out.size
      have hown := (Bw.Own.row HO2.out).alloc (.cells #[.int .i64 x] 3)
      clear hpp hx
      go_wp2_with (at_builtin; refine wpList_append_own _ rfl _ _ 22 rfl w.heap.size 3 i0 (.int .i64 0) 1 8 Try.underlying22 hi hz0 hz1 hz2 rfl (by decide) _ zs.length _ rfl hown ⟨w2.heap.size, 0, none⟩ 1 1 [.int .i64 x] rfl rfl (cell_one_new _ _ _) (ints_oneCell .i64 [x]) (by unfold maxLen; omega) (by omega) (by simp; omega) ?_)
      intro u' w3 hown3 hgrow hnil
      have HO : Hid (Bw.Own 3 w.heap.size w3 u' (zs ++ [x])) := Bw.own_snoc hown3
      have HB3 : Hid (Below w.heap.size w w3) := (HBE.out.alloc hsz _).grown hgrow (by simp; omega) (fun k e => (hown.lt k e).1)
      have HZ : Hid (zs ++ [x] = (Bw.thn xs ys).take (zs ++ [x]).length) := by
        unfold Hid
        rw [List.length_append]
        show _ = List.take (zs.length + 1) _
        rw [Bw.take_succ_nth (by rw [Bw.thn_length]; exact hla), HX.out, ← hz.out]
      have hlen : (zs ++ [x]).length = zs.length + 1 := by simp
      clear hown3 hgrow hnil hown hcell hcell2
      have HLEN := Lib.hid hlen
      clear hlen
      go_wp2
      go_roundw
      case rel => exact ⟨zs ++ [x], by rw [HLEN.out]; go_num, by rw [HLEN.out]; omega, HZ, HO, HB3⟩
      case measure => simp [intOf]; omega
    · have HE : Hid (zs = Bw.thn xs ys) := by
        have h1 := hz.out
        rw [List.take_of_length_le (by rw [Bw.thn_length, HN.out]; omega)] at h1
        exact h1
      have hE : zs.length = n := by omega
      have HE2 := Lib.hid hE
      clear hE
      go_wp2_with fail
      go_ret
      exact ⟨_, rfl, by rw [← HE.out]; exact ho.out, hbe.out⟩

set_option maxHeartbeats 400000 in
theorem impl_OrderThen_no (v v2 : Value) (xs ys : List Int) (w : World) (hv : Bw.Reads w v xs) (hv2 : Bw.Reads w v2 ys) (hn : xs.length ≤ 1048576) (hn2 : ys.length ≤ 1048576) (h : Hid (¬ (Bw.OrderOk xs ∧ Bw.OrderOk ys ∧ xs.length = ys.length))) :
    Calls Try.prog 25 #[v, v2] w fun e w' => ∃ r, e = .returned r ∧ Bw.Own 3 w.heap.size w' r [] ∧ Below w.heap.size w w' := by
  have HV := Lib.hid hv
  have HV2 := Lib.hid hv2
  by_cases ha : Bw.OrderOk xs
  · have HA := Lib.hid ha
    by_cases hb : Bw.OrderOk ys
    · have HB := Lib.hid hb
      have hl : ¬ xs.length = ys.length := fun e => h.out ⟨ha, hb, e⟩
      rcases hv with ⟨h0, _⟩ | ⟨h0, b, off, cap, rfl, _⟩
      · subst h0; exact absurd ha.1.1 (by simp)
      rcases hv2 with ⟨h0, _⟩ | ⟨h02, b2, off2, cap2, rfl, _⟩
      · subst h0; exact absurd hb.1.1 (by simp)
      have hne : ((xs.length : Int) != (ys.length : Int)) = true := by rw [bne_iff_ne]; omega
      clear ha hb h h0 h02 hl
      go_enter Try.func25, Try.ntmps25
      go_wp2_with fail
      (with_reducible refine (isOrder_yes _ xs _ HV.out HA).mono ?_)
      rintro e w1 ⟨rfl, hb1⟩
      have HB1 := Lib.hid hb1
      have HV1 := Lib.hid (HV2.out.below hb1)
      clear hb1
      go_wp2_with fail
      (with_reducible refine (isOrder_yes _ ys _ HV1.out HB).mono ?_)
      rintro e w2 ⟨rfl, hb2⟩
      have HB2 := Lib.hid (HB1.out.trans (hb2.mono HB1.out.size))
      clear hb2
      go_wp2_with fail
      go_ret
      exact ⟨_, rfl, Bw.own_none _ _ _, HB2.out⟩
    · have HB := Lib.hid hb
      clear ha hb h hv hv2
      go_enter Try.func25, Try.ntmps25
      go_wp2_with fail
      (with_reducible refine (isOrder_yes _ xs _ HV.out HA).mono ?_)
      rintro e w1 ⟨rfl, hb1⟩
      have HB1 := Lib.hid hb1
      have HV1 := Lib.hid (HV2.out.below hb1)
      clear hb1
      go_wp2_with fail
      (with_reducible refine (isOrder_no _ ys _ HV1.out hn2 HB).mono ?_)
      rintro e w2 ⟨rfl, hb2⟩
      have HB2 := Lib.hid (HB1.out.trans (hb2.mono HB1.out.size))
      clear hb2
      go_wp2_with fail
      go_ret
      exact ⟨_, rfl, Bw.own_none _ _ _, HB2.out⟩
  · have HA := Lib.hid ha
    clear ha h hv hv2
    go_enter Try.func25, Try.ntmps25
    go_wp2_with fail
    (with_reducible refine (isOrder_no _ xs _ HV.out hn HA).mono ?_)
    rintro e w1 ⟨rfl, hb1⟩
    have HB1 := Lib.hid hb1
    clear hb1
    go_wp2_with fail
    go_ret
    exact ⟨_, rfl, Bw.own_none _ _ _, HB1.out⟩

set_option maxHeartbeats 400000 in
theorem spec_OrderThen_no (v v2 : Value) (xs ys : List Int) (w : World) (hv : Bw.Reads w v xs) (hv2 : Bw.Reads w v2 ys) (hn : xs.length ≤ 1048576) (hn2 : ys.length ≤ 1048576) (h : Hid (¬ (Bw.OrderOk xs ∧ Bw.OrderOk ys ∧ xs.length = ys.length))) :
    Calls Try.prog 27 #[v, v2] w fun e w' => ∃ r, e = .returned r ∧ Bw.Own 3 w.heap.size w' r [] ∧ Below w.heap.size w w' := by
  have hal : Below w.heap.size w (w.alloc (.cells #[] 3)) := (Below.refl _ _).alloc (Nat.le_refl _) _
  have HV := Lib.hid (hv.below hal)
  have HV2 := Lib.hid (hv2.below hal)
  have HAL := Lib.hid hal
  have HM := Lib.hid (Bw.own_made 3 w)
  clear hal
  by_cases ha : Bw.OrderOk xs
  · have HA := Lib.hid ha
    rcases hv with ⟨h0, _⟩ | ⟨h0, b, off, cap, rfl, _⟩
    · subst h0; exact absurd ha.1.1 (by simp)
    have hpos : 0 < xs.length := List.length_pos_iff.2 h0
    by_cases hb : Bw.OrderOk ys
    · have HB := Lib.hid hb
      have hl : ¬ xs.length = ys.length := fun e => h.out ⟨ha, hb, e⟩
      rcases hv2 with ⟨h0, _⟩ | ⟨h02, b2, off2, cap2, rfl, _⟩
      · subst h0; exact absurd hb.1.1 (by simp)
      have hne : ((xs.length : Int) == (ys.length : Int)) = false := by rw [beq_eq_false_iff_ne]; omega
      clear ha hb h h0 h02 hl
      go_enter Try.func27, Try.ntmps27
      go_wp2_with fail
      refine wp_loop_rounds 1 ?_
      rw [rounds_succ]
      go_wp2_with fail
      (with_reducible refine (spec_OrderValid_yes _ xs _ HV.out HA).mono ?_)
      rintro e w1 ⟨rfl, hb1⟩
      have HB1 := Lib.hid (HAL.out.trans (hb1.mono HAL.out.size))
      have HV1 := Lib.hid (HV2.out.below hb1)
      have HM1 := Lib.hid (HM.out.below hb1)
      clear hb1
      go_wp2_with fail
      (with_reducible refine (spec_OrderValid_yes _ ys _ HV1.out HB).mono ?_)
      rintro e w2 ⟨rfl, hb2⟩
      have HB2 := Lib.hid (HB1.out.trans (hb2.mono HB1.out.size))
      have HM2 := Lib.hid (HM1.out.below hb2)
      clear hb2
      go_wp2_with fail
      go_ret
      exact ⟨_, rfl, HM2.out, HB2.out⟩
    · have HB := Lib.hid hb
      clear ha hb h hv2 h0
      go_enter Try.func27, Try.ntmps27
      go_wp2_with fail
      refine wp_loop_rounds 1 ?_
      rw [rounds_succ]
      go_wp2_with fail
      (with_reducible refine (spec_OrderValid_yes _ xs _ HV.out HA).mono ?_)
      rintro e w1 ⟨rfl, hb1⟩
      have HB1 := Lib.hid (HAL.out.trans (hb1.mono HAL.out.size))
      have HV1 := Lib.hid (HV2.out.below hb1)
      have HM1 := Lib.hid (HM.out.below hb1)
      clear hb1
      go_wp2_with fail
      (with_reducible refine (spec_OrderValid_no _ ys _ HV1.out hn2 HB).mono ?_)
      rintro e w2 ⟨rfl, hb2⟩
      have HB2 := Lib.hid (HB1.out.trans (hb2.mono HB1.out.size))
      have HM2 := Lib.hid (HM1.out.below hb2)
      clear hb2
      go_wp2_with fail
      go_ret
      exact ⟨_, rfl, HM2.out, HB2.out⟩
  · have HA := Lib.hid ha
    rcases hv with ⟨h0, a, cap, rfl⟩ | ⟨h0, b, off, cap, rfl, _⟩
    · clear ha h hv2 h0
      go_enter Try.func27, Try.ntmps27
      go_wp2_with fail
      refine wp_loop_rounds 1 ?_
      rw [rounds_succ]
      go_wp2_with fail
      go_ret
      exact ⟨_, rfl, HM.out, HAL.out⟩
    · have hpos : 0 < xs.length := List.length_pos_iff.2 h0
      clear ha h hv2 h0
      go_enter Try.func27, Try.ntmps27
      go_wp2_with fail
      refine wp_loop_rounds 1 ?_
      rw [rounds_succ]
      go_wp2_with fail
      (with_reducible refine (spec_OrderValid_no _ xs _ HV.out hn HA).mono ?_)
      rintro e w1 ⟨rfl, hb1⟩
      have HB1 := Lib.hid (HAL.out.trans (hb1.mono HAL.out.size))
      have HM1 := Lib.hid (HM.out.below hb1)
      clear hb1
      go_wp2_with fail
      go_ret
      exact ⟨_, rfl, HM1.out, HB1.out⟩

theorem impl_OrderThen_any (v v2 : Value) (xs ys out : List Int) (w : World) (hv : Bw.Reads w v xs) (hv2 : Bw.Reads w v2 ys) (hn : xs.length ≤ 1048576) (hn2 : ys.length ≤ 1048576) (h : Hid (Bw.ThenIs xs ys out)) :
    Calls Try.prog 25 #[v, v2] w fun e w' => ∃ r, e = .returned r ∧ Bw.Own 3 w.heap.size w' r out ∧ Below w.heap.size w w' := by
  by_cases hok : Bw.OrderOk xs ∧ Bw.OrderOk ys ∧ xs.length = ys.length
  · rw [h.out.1 hok]
    exact impl_OrderThen_yes v v2 xs ys w hv hv2 hok.1 hok.2.1 hok.2.2
  · rw [h.out.2 hok]
    exact impl_OrderThen_no v v2 xs ys w hv hv2 hn hn2 hok

theorem spec_OrderThen_any (v v2 : Value) (xs ys out : List Int) (w : World) (hv : Bw.Reads w v xs) (hv2 : Bw.Reads w v2 ys) (hn : xs.length ≤ 1048576) (hn2 : ys.length ≤ 1048576) (h : Hid (Bw.ThenIs xs ys out)) :
    Calls Try.prog 27 #[v, v2] w fun e w' => ∃ r, e = .returned r ∧ Bw.Own 3 w.heap.size w' r out ∧ Below w.heap.size w w' := by
  by_cases hok : Bw.OrderOk xs ∧ Bw.OrderOk ys ∧ xs.length = ys.length
  · rw [h.out.1 hok]
    exact spec_OrderThen_yes v v2 xs ys w hv hv2 hok.1 hok.2.1 hok.2.2
  · rw [h.out.2 hok]
    exact spec_OrderThen_no v v2 xs ys w hv hv2 hn hn2 hok

end Go.Proofs.Ytknchojfhpchiac
