/- Contracts: valid orders. -/
import Derived.Test.YtbknmokoegembacDoorMap
import Derived.Test.YtbknmokoegembacDoorOrdPlain
import Derived.Test.YtbknmokoegembacDoorWord
import Derived.Deep.QuietTactic
import Derived.BigQuiet

namespace Go.Proofs.YtbknmokoegembacDoor
open Go.RowKit Go.Maps
set_option linter.unusedVariables false

theorem keyed : Go.Maps.Keyed Tryd.prog 3 := Go.Maps.int_keyed Tryd.underlying3

theorem zero_bool (w : World) : (zeroValue 4).run Tryd.prog w = .ok (.bool false) w := by kernel_rfl

set_option maxRecDepth 100000 in
set_option maxHeartbeats 400000 in
theorem isOrder_some (b off cap : Nat) (zs : List Int) (w : World) (hn : zs.length ≤ 1048576) (hpos : 0 < zs.length) (hlt : b < w.heap.size)
    (hc : Hid (∀ i, i < zs.length → w.cell? ⟨b, off + i, none⟩ = some (.int .i64 (Bw.nth zs i)))) (r : Bool) (hr : Hid (r = true ↔ Bw.OrderOk zs)) :
    Calls Tryd.prog 59 #[.slice (some ⟨b, off, none⟩) zs.length cap] w fun e w' => e = .returned (.bool r) ∧ Below w.heap.size w w' := by
  have hmm := @run_makeMap Tryd.prog
  go_enter Tryd.func59, Tryd.ntmps59
  go_wp2
  go_loopw [9] (fun i wr => ∃ (k : Nat) (D : DataW Unit), k ≤ zs.length ∧ i = .int .i64 k ∧ Hid (wr.ownsMap Tryd.prog 3 (plainElem Tryd.prog 4) w.heap.size k D) ∧ Hid (Bw.SetOf D (fun x => ∃ j, j < k ∧ Bw.nth zs j = x)) ∧ Hid (∀ j, j < k → (0 ≤ Bw.nth zs j ∧ Bw.nth zs j < zs.length) ∧ ∀ i, i < j → Bw.nth zs i ≠ Bw.nth zs j) ∧ Hid (Below w.heap.size w wr)) (fun i _ => zs.length - (intOf i).toNat)
  case atStart => exact ⟨0, .map [], Nat.zero_le _, rfl, World.ownsMap_made _ _ _ _, Lib.hid (Bw.SetOf.none _), Lib.hid (fun j h => absurd h (by omega)), Lib.hid ((Below.refl _ _).alloc (Nat.le_refl _) _)⟩
  case round =>
    obtain ⟨k, D, hk, rfl, hown, hset, hall, hb⟩ := hrel
    by_cases hl : k < zs.length
    · have hcell : wr.cell? ⟨b, off + k, none⟩ = some (.int .i64 (Bw.nth zs k)) := (hb.out.cell (p := ⟨b, off + k, none⟩) hlt).trans (hc.out k hl)
      obtain ⟨z, hz⟩ : ∃ z, Bw.nth zs k = z := ⟨_, rfl⟩
      rw [hz] at hcell
      have HZ := Lib.hid hz
      clear hz
      by_cases hin : 0 ≤ z ∧ z < zs.length
      · obtain ⟨z0, z1⟩ := hin
        have hkey : keyOf Tryd.prog 3 (.int .i64 z) = some (.int .i64 z) := keyOf_int_mk Tryd.underlying3 (WalkArith.wf_i64 (by omega))
        obtain ⟨c, hrun, hat⟩ := Bw.look_bool hown.out keyed Tryd.underlying66 Tryd.underlying4 (zero_bool _) hkey
        have HC := Lib.hid (hset.out.2 z c hat)
        clear hat
        cases c
        · have HO := Lib.hid hown.out
          go_wp2_with (first | (go_at_call 43; ((with_reducible refine (within_yes _ _ _ _ (by omega) (by omega)).mono ?_); rintro e w' ⟨rfl, rfl⟩)) | (at_mapUpdate; refine wpList_mapUpdate_own _ rfl _ _ _ 66 rfl 3 4 keyed Tryd.underlying66 _ w.heap.size k _ rfl hown.out (by unfold maxLen; omega) _ _ _ rfl rfl hkey _ [] (plainElem_bool Tryd.underlying4 true) ?_))
          intro w1 hown1 hgrow1
          have HS : Hid (Bw.SetOf (D.put (.int .i64 z) (.lit (.bool true))) (fun x => ∃ j, j < k + 1 ∧ Bw.nth zs j = x)) := by
            refine (hset.out.put z (by trivial)).congr fun x => ?_
            have hzz := HZ.out
            constructor
            · rintro (⟨j, hj, e⟩ | rfl)
              · exact ⟨j, by omega, e⟩
              · exact ⟨k, by omega, hzz⟩
            · rintro ⟨j, hj, e⟩
              by_cases hjk : j = k
              · subst hjk; exact .inr (by rw [← e, hzz])
              · exact .inl ⟨j, by omega, e⟩
          have HA : Hid (∀ j, j < k + 1 → (0 ≤ Bw.nth zs j ∧ Bw.nth zs j < zs.length) ∧ ∀ i, i < j → Bw.nth zs i ≠ Bw.nth zs j) := by
            intro j hj
            by_cases hjk : j = k
            · subst hjk
              rw [HZ.out]
              refine ⟨⟨z0, z1⟩, fun i hi e => ?_⟩
              have := HC.out.2 ⟨i, hi, e⟩
              cases this
            · exact hall.out j (by omega)
          have HB : Hid (Below w.heap.size w w1) := hb.out.grown hgrow1 hb.out.size (fun j hj => by cases hj; exact Nat.le_refl _)
          have HO1 := Lib.hid hown1
          clear hown1 hgrow1 hrun hkey
          go_wp2
          go_roundw
          case rel => exact ⟨k + 1, _, by omega, by go_num, HO1, HS, HA, HB⟩
          case measure => simp [intOf]; omega
        · have e : r = false := by
            cases r with
            | false => rfl
            | true =>
              obtain ⟨j, hj, e⟩ := HC.out.1 rfl
              exact absurd (e.trans HZ.out.symm) (((hr.out.1 rfl).2 k hl).2 j hj)
          subst e
          go_wp2_with (go_at_call 43; ((with_reducible refine (within_yes _ _ _ _ (by omega) (by omega)).mono ?_); rintro e w' ⟨rfl, rfl⟩))
          go_ret
          exact ⟨rfl, hb.out⟩
      · have e : r = false := by
          cases r with
          | false => rfl
          | true =>
            have := ((hr.out.1 rfl).2 k hl).1
            rw [HZ.out] at this
            exact absurd this hin
        subst e
        have hin2 : z < 0 ∨ (zs.length : Int) - 1 < z := by omega
        clear hin
        go_wp2_with (go_at_call 43; ((with_reducible refine (within_no _ _ _ _ (by omega)).mono ?_); rintro e w' ⟨rfl, rfl⟩))
        go_ret
        exact ⟨rfl, hb.out⟩
    · obtain rfl : k = zs.length := by omega
      by_cases hw : zs.length ≤ 12
      · have e : r = true := hr.out.2 ⟨⟨hpos, hw⟩, hall.out⟩
        subst e
        go_wp2_with (go_at_call 42; ((with_reducible refine (isWidth_yes _ _ (by omega) (by omega)).mono ?_); rintro e w' ⟨rfl, rfl⟩))
        go_ret
        exact ⟨rfl, hb.out⟩
      · have e : r = false := by
          cases r with
          | false => rfl
          | true => exact absurd (hr.out.1 rfl).1.2 hw
        subst e
        go_wp2_with (go_at_call 42; ((with_reducible refine (isWidth_no _ _ (by omega)).mono ?_); rintro e w' ⟨rfl, rfl⟩))
        go_ret
        exact ⟨rfl, hb.out⟩

set_option maxHeartbeats 400000 in
theorem spec_OrderValid_some (b off cap : Nat) (zs : List Int) (w : World) (hn : zs.length ≤ 1048576) (hpos : 0 < zs.length) (hlt : b < w.heap.size)
    (hc : Hid (∀ i, i < zs.length → w.cell? ⟨b, off + i, none⟩ = some (.int .i64 (Bw.nth zs i)))) (r : Bool) (hr : Hid (r = true ↔ Bw.OrderOk zs)) :
    Calls Tryd.prog 25 #[.slice (some ⟨b, off, none⟩) zs.length cap] w fun e w' => e = .returned (.bool r) ∧ Below w.heap.size w w' := by
  go_enter Tryd.func25, Tryd.ntmps25
  go_wp2
  go_loopw [3] (fun i wr => ∃ k : Nat, k ≤ zs.length ∧ i = .int .i64 k ∧ Hid (∀ j, j < k → (0 ≤ Bw.nth zs j ∧ Bw.nth zs j < zs.length) ∧ ∀ i, i < j → Bw.nth zs i ≠ Bw.nth zs j) ∧ Hid (Below w.heap.size w wr)) (fun i _ => zs.length - (intOf i).toNat)
  case atStart => exact ⟨0, Nat.zero_le _, rfl, Lib.hid (fun j h => absurd h (by omega)), Lib.hid (Below.refl _ _)⟩
  case round =>
    obtain ⟨k, hk, rfl, hall, hb⟩ := hrel
    by_cases hl : k < zs.length
    · have hcell : wr.cell? ⟨b, off + k, none⟩ = some (.int .i64 (Bw.nth zs k)) := (hb.out.cell (p := ⟨b, off + k, none⟩) hlt).trans (hc.out k hl)
      obtain ⟨z, hz⟩ : ∃ z, Bw.nth zs k = z := ⟨_, rfl⟩
      rw [hz] at hcell
      have HZ := Lib.hid hz
      clear hz
      by_cases hin : 0 ≤ z ∧ z < zs.length
      · obtain ⟨z0, z1⟩ := hin
        go_wp2_with (go_at_call 60; ((with_reducible refine (l1In_yes _ _ _ _ (by omega) (by omega)).mono ?_); rintro e w' ⟨rfl, rfl⟩))
        obtain ⟨wo, rfl⟩ : ∃ wo : World, wo = wr := ⟨_, rfl⟩
        clear hcell
        go_loopw [4] (fun i wr => ∃ j : Nat, j ≤ k ∧ i = .int .i64 j ∧ Hid (∀ i, i < j → Bw.nth zs i ≠ z) ∧ Hid (Below w.heap.size w wr)) (fun i _ => k - (intOf i).toNat)
        case atStart => exact ⟨0, Nat.zero_le _, rfl, Lib.hid (fun j h => absurd h (by omega)), hb⟩
        case round =>
          obtain ⟨j, hj, rfl, hne, hb2⟩ := hrel
          by_cases hjk : j < k
          · have c1 : wr.cell? ⟨b, off + k, none⟩ = some (.int .i64 z) := by
              rw [← HZ.out]; exact (hb2.out.cell (p := ⟨b, off + k, none⟩) hlt).trans (hc.out k hl)
            have c2 : wr.cell? ⟨b, off + j, none⟩ = some (.int .i64 (Bw.nth zs j)) := (hb2.out.cell (p := ⟨b, off + j, none⟩) hlt).trans (hc.out j (by omega))
            obtain ⟨y, hy⟩ : ∃ y, Bw.nth zs j = y := ⟨_, rfl⟩
            rw [hy] at c2
            have HY := Lib.hid hy
            clear hy
            by_cases he : y = z
            · have ht : (y == z) = true := by simpa using he
              have HE := Lib.hid he
              clear he
              have e : r = false := by
                cases r with
                | false => rfl
                | true => exact absurd (by rw [HY.out, HZ.out, HE.out]) (((hr.out.1 rfl).2 k hl).2 j hjk)
              subst e
              go_wp2
              go_quiet (fail)
              go_wp2
              go_ret
              exact ⟨rfl, Go.below_drewN hb2.out _⟩
            · have ht : (y == z) = false := by simpa using he
              have HE := Lib.hid he
              clear he
              go_wp2
              go_quiet (fail)
              go_wp2
              go_roundw
              case rel => exact ⟨j + 1, by omega, by go_num, fun i hi => by rcases Nat.lt_or_ge i j with h | h; exact hne.out i h; (have : i = j := by omega); rw [this, HY.out]; exact HE.out, Go.below_drewN hb2.out _⟩
              case measure => simp [intOf]; omega
          · obtain rfl : j = k := by omega
            go_wp2_with fail
            go_roundw
            case rel => exact ⟨j + 1, by omega, by go_num, fun i hi => by rcases Nat.lt_or_ge i j with h | h; exact hall.out i h; (have : i = j := by omega); rw [this, HZ.out]; exact ⟨⟨z0, z1⟩, hne.out⟩, hb2⟩
            case measure => simp [intOf]; omega
      · have e : r = false := by
          cases r with
          | false => rfl
          | true =>
            have := ((hr.out.1 rfl).2 k hl).1
            rw [HZ.out] at this
            exact absurd this hin
        subst e
        have hin2 : z < 0 ∨ (zs.length : Int) - 1 < z := by omega
        clear hin
        go_wp2_with (go_at_call 60; ((with_reducible refine (l1In_no _ _ _ _ (by omega)).mono ?_); rintro e w' ⟨rfl, rfl⟩))
        go_ret
        exact ⟨rfl, hb.out⟩
    · obtain rfl : k = zs.length := by omega
      by_cases hw : zs.length ≤ 12
      · have e : r = true := hr.out.2 ⟨⟨hpos, hw⟩, hall.out⟩
        subst e
        go_wp2_with (go_at_call 60; ((with_reducible refine (l1In_yes _ _ _ _ (by omega) (by omega)).mono ?_); rintro e w' ⟨rfl, rfl⟩))
        go_ret
        exact ⟨rfl, hb.out⟩
      · have e : r = false := by
          cases r with
          | false => rfl
          | true => exact absurd (hr.out.1 rfl).1.2 hw
        subst e
        go_wp2_with (go_at_call 60; ((with_reducible refine (l1In_no _ _ _ _ (by omega)).mono ?_); rintro e w' ⟨rfl, rfl⟩))
        go_ret
        exact ⟨rfl, hb.out⟩

theorem isOrder_none (a : Option Addr) (cap : Nat) (w : World) :
    Calls Tryd.prog 59 #[.slice a 0 cap] w fun e w' => e = .returned (.bool false) ∧ Below w.heap.size w w' := by
  have hmm := @run_makeMap Tryd.prog
  go_enter Tryd.func59, Tryd.ntmps59
  go_wp2
  refine wp_loop_rounds 1 ?_
  rw [rounds_succ]
  go_wp2_with (go_at_call 42; ((with_reducible refine (isWidth_no _ _ (by omega)).mono ?_); rintro e w' ⟨rfl, rfl⟩))
  go_ret
  exact ⟨rfl, (Below.refl _ _).alloc (Nat.le_refl _) _⟩

theorem spec_OrderValid_none (a : Option Addr) (cap : Nat) (w : World) :
    Calls Tryd.prog 25 #[.slice a 0 cap] w fun e w' => e = .returned (.bool false) ∧ Below w.heap.size w w' := by
  go_enter Tryd.func25, Tryd.ntmps25
  go_wp2
  refine wp_loop_rounds 1 ?_
  rw [rounds_succ]
  go_wp2_with (go_at_call 60; ((with_reducible refine (l1In_no _ _ _ _ (by omega)).mono ?_); rintro e w' ⟨rfl, rfl⟩))
  go_ret
  exact ⟨rfl, Below.refl _ _⟩

theorem isOrder_any (v : Value) (zs : List Int) (w : World) (hv : Bw.Reads w v zs) (hn : zs.length ≤ 1048576) (r : Bool) (hr : Hid (r = true ↔ Bw.OrderOk zs)) :
    Calls Tryd.prog 59 #[v] w fun e w' => e = .returned (.bool r) ∧ Below w.heap.size w w' := by
  rcases hv with ⟨rfl, a, cap, rfl⟩ | ⟨hz, b, off, cap, rfl, _, hlt, hcell⟩
  · have e : r = false := by
      cases r with
      | false => rfl
      | true => exact absurd (hr.out.1 rfl).1.1 (by simp)
    subst e
    exact isOrder_none a cap w
  · exact isOrder_some b off cap zs w hn (List.length_pos_iff.2 hz) hlt hcell r hr

theorem spec_OrderValid_any (v : Value) (zs : List Int) (w : World) (hv : Bw.Reads w v zs) (hn : zs.length ≤ 1048576) (r : Bool) (hr : Hid (r = true ↔ Bw.OrderOk zs)) :
    Calls Tryd.prog 25 #[v] w fun e w' => e = .returned (.bool r) ∧ Below w.heap.size w w' := by
  rcases hv with ⟨rfl, a, cap, rfl⟩ | ⟨hz, b, off, cap, rfl, _, hlt, hcell⟩
  · have e : r = false := by
      cases r with
      | false => rfl
      | true => exact absurd (hr.out.1 rfl).1.1 (by simp)
    subst e
    exact spec_OrderValid_none a cap w
  · exact spec_OrderValid_some b off cap zs w hn (List.length_pos_iff.2 hz) hlt hcell r hr

theorem isOrder_yes (v : Value) (zs : List Int) (w : World) (hv : Bw.Reads w v zs) (h : Hid (Bw.OrderOk zs)) :
    Calls Tryd.prog 59 #[v] w fun e w' => e = .returned (.bool true) ∧ Below w.heap.size w w' :=
  isOrder_any v zs w hv (by have := h.out.1; omega) true (Lib.hid (p := (true = true ↔ Bw.OrderOk zs)) ⟨fun _ => h.out, fun _ => rfl⟩)

theorem isOrder_no (v : Value) (zs : List Int) (w : World) (hv : Bw.Reads w v zs) (hn : zs.length ≤ 1048576) (h : Hid (¬ Bw.OrderOk zs)) :
    Calls Tryd.prog 59 #[v] w fun e w' => e = .returned (.bool false) ∧ Below w.heap.size w w' :=
  isOrder_any v zs w hv hn false (Lib.hid (p := (false = true ↔ Bw.OrderOk zs)) ⟨(fun e => by cases e), fun h2 => absurd h2 h.out⟩)

theorem spec_OrderValid_yes (v : Value) (zs : List Int) (w : World) (hv : Bw.Reads w v zs) (h : Hid (Bw.OrderOk zs)) :
    Calls Tryd.prog 25 #[v] w fun e w' => e = .returned (.bool true) ∧ Below w.heap.size w w' :=
  spec_OrderValid_any v zs w hv (by have := h.out.1; omega) true (Lib.hid (p := (true = true ↔ Bw.OrderOk zs)) ⟨fun _ => h.out, fun _ => rfl⟩)

theorem spec_OrderValid_no (v : Value) (zs : List Int) (w : World) (hv : Bw.Reads w v zs) (hn : zs.length ≤ 1048576) (h : Hid (¬ Bw.OrderOk zs)) :
    Calls Tryd.prog 25 #[v] w fun e w' => e = .returned (.bool false) ∧ Below w.heap.size w w' :=
  spec_OrderValid_any v zs w hv hn false (Lib.hid (p := (false = true ↔ Bw.OrderOk zs)) ⟨(fun e => by cases e), fun h2 => absurd h2 h.out⟩)

end Go.Proofs.YtbknmokoegembacDoor
