/- Contracts: orders back. -/
import Derived.Test.YtknchojfhpchiacFnOrdA
import Derived.Test.YtknchojfhpchiacOwn

namespace Bw
open Go Go.RowKit

theorem made_zeros {n : Nat} : (Go.madeCells #[Value.int .i64 0] n).toList = (List.replicate n (0 : Int)).map (Value.int .i64) := by
  have h := Bw.filled_start (zs := List.replicate n (0 : Int))
  simpa [Bw.filled] using h

/-- what both answer: the order back, or nothing -/
def BackIs (a out : List Int) : Prop := (OrderOk a → out = bk a a.length) ∧ (¬ OrderOk a → out = [])

theorem backIs_some (a : List Int) : ∃ out, BackIs a out := by
  by_cases h : OrderOk a
  · exact ⟨_, fun _ => rfl, fun h2 => absurd h h2⟩
  · exact ⟨[], fun h2 => absurd h2 h, fun _ => rfl⟩

theorem BackIs.len {a out : List Int} (h : BackIs a out) : out.length ≤ 12 := by
  by_cases h2 : OrderOk a
  · rw [h.1 h2, bk_length]; exact h2.1.2
  · rw [h.2 h2]; simp

end Bw

namespace Go.Proofs.Ytknchojfhpchiac
open Go.RowKit Go.Maps
set_option linter.unusedVariables false

set_option maxHeartbeats 1000000 in
theorem impl_OrderBack_yes (v : Value) (xs : List Int) (w : World) (hv : Hid (Bw.Reads w v xs)) (ha : Hid (Bw.OrderOk xs)) :
    Calls Try.prog 14 #[v] w fun e w' => ∃ r, e = .returned r ∧ Bw.Own 3 w.heap.size w' r (Bw.bk xs xs.length) ∧ Below w.heap.size w w' := by
  obtain ⟨i0, hi, hz0, hz1, hz2⟩ := info_parts infoInt
  obtain ⟨n, hn⟩ : ∃ n, xs.length = n := ⟨_, rfl⟩
  have hn12 := ha.out.1
  have HN := Lib.hid hn
  rw [hn] at hn12
  rcases hv.out with ⟨h0, _⟩ | ⟨h0, b, off, cap, rfl, hc, hlt, hcell⟩
  · subst h0; exact absurd ha.out.1.1 (by simp)
  have HC := Lib.hid hcell
  rw [hn] at hv ⊢
  clear hcell hc h0 hn
  go_enter Try.func14, Try.ntmps14
  go_wp2_with fail
  (with_reducible refine (isOrder_yes _ xs _ hv.out ha).mono ?_)
  rintro e w1 ⟨rfl, hb1⟩
  have HB1 := Lib.hid hb1
  have hsz := hb1.size
  clear hb1
  go_wp2_with (at_make; refine wpList_make_full _ rfl _ _ 22 rfl w.heap.size 3 i0 (.int .i64 0) 1 Try.underlying22 hi hz0 hz1 _ _ _ _ n rfl rfl rfl rfl (by rw [hz2]; omega) (by unfold maxLen; omega) hsz ?_)
  intro w2 hown hgrow
  have HO : Hid (Bw.Own 3 w.heap.size w2 (.slice (some ⟨w1.heap.size, 0, none⟩) n n) (Bw.bk xs 0)) := by
    unfold Hid Bw.Own
    rw [Bw.bk_length, HN.out, show Bw.bk xs 0 = List.replicate xs.length 0 from rfl, HN.out, ← Bw.made_zeros]
    exact hown
  have HB2 : Hid (Below w.heap.size w w2) := HB1.out.grown hgrow hsz (fun k h => by cases h)
  have hd : w1.heap.size < w2.heap.size := (hown.lt w1.heap.size rfl).2
  clear hown hgrow
  obtain ⟨d, hdd⟩ : ∃ d, w1.heap.size = d := ⟨_, rfl⟩
  rw [hdd] at HO hd hsz ⊢
  clear hdd
  go_wp2_with fail
  go_loopw [14] (fun i wr => ∃ k : Nat, k ≤ n ∧ i = .int .i64 k ∧ Hid (Bw.Own 3 w.heap.size wr (.slice (some ⟨d, 0, none⟩) n n) (Bw.bk xs k)) ∧ Hid (Below w.heap.size w wr)) (fun i _ => n - (intOf i).toNat)
  case atStart => exact ⟨0, by omega, rfl, HO, HB2⟩
  case round =>
    obtain ⟨k, hk, rfl, ho, hbe⟩ := hrel
    by_cases hl : k < n
    · have hla : k < xs.length := by rw [HN.out]; exact hl
      have hp := ha.out.pl_lt hla
      rw [HN.out] at hp
      have hcell : wr.cell? ⟨b, off + k, none⟩ = some (.int .i64 (Bw.pl xs k)) := by
        rw [(hbe.out.cell (p := ⟨b, off + k, none⟩) hlt), HC.out _ hla, ha.out.pl_cast hla]
      have hrow : wr.ownsRow w.heap.size 3 1 (.slice (some ⟨d, 0, none⟩) n n) n ((Bw.bk xs k).map (Value.int .i64)) := by
        have h := ho.out
        unfold Bw.Own at h
        rwa [Bw.bk_length, HN.out] at h
      have HST := Lib.hid (hrow.stored (Bw.pl xs k) (.int .i64 (k : Int)))
      have hold := hrow.cellAt (Bw.pl xs k) (by omega)
      have hfz := hrow.frozenAt (Bw.pl xs k)
      rw [List.getElem?_map, Bw.nth_lt (show Bw.pl xs k < (Bw.bk xs k).length by rw [Bw.bk_length, HN.out]; exact hp)] at hold
      replace hold : _ = some (Value.int .i64 (Bw.nth (Bw.bk xs k) (Bw.pl xs k))) := hold
      have HSET : Hid (∀ w', w'.ownsRow w.heap.size 3 1 (.slice (some ⟨d, 0, none⟩) n n) n (((Bw.bk xs k).map (Value.int .i64)).set (Bw.pl xs k) (.int .i64 (k : Int))) → Bw.Own 3 w.heap.size w' (.slice (some ⟨d, 0, none⟩) n n) (Bw.bk xs (k + 1))) := fun w' h => by
        unfold Bw.Own
        rw [Bw.bk_length, HN.out, show Bw.bk xs (k + 1) = (Bw.bk xs k).set (Bw.pl xs k) (k : Int) from rfl, List.map_set]
        exact h
      obtain ⟨old, hold2⟩ : ∃ o, Bw.nth (Bw.bk xs k) (Bw.pl xs k) = o := ⟨_, rfl⟩
      rw [hold2] at hold
      obtain ⟨p, hpp⟩ : ∃ p, Bw.pl xs k = p := ⟨_, rfl⟩
      rw [hpp] at hcell hp hold hfz HST HSET
      have hsz2 := hbe.out.size
      clear hpp hold2 hrow
      go_wp2
      go_roundw
      case rel => exact ⟨k + 1, by omega, by go_num, HSET.out _ HST.out.1, hbe.out.grown HST.out.2 hbe.out.size (fun j e => by cases e; exact hsz)⟩
      case measure => simp [intOf]; omega
    · obtain rfl : k = n := by omega
      go_wp2_with fail
      go_ret
      exact ⟨_, rfl, by have h := ho.out; rw [← HN.out] at h ⊢; exact h, hbe.out⟩

set_option maxHeartbeats 1000000 in
theorem spec_OrderBack_yes (v : Value) (xs : List Int) (w : World) (hv : Hid (Bw.Reads w v xs)) (ha : Hid (Bw.OrderOk xs)) :
    Calls Try.prog 13 #[v] w fun e w' => ∃ r, e = .returned r ∧ Bw.Own 3 w.heap.size w' r (Bw.bk xs xs.length) ∧ Below w.heap.size w w' := by
  obtain ⟨i0, hi, hz0, hz1, hz2⟩ := info_parts infoInt
  obtain ⟨n, hn⟩ : ∃ n, xs.length = n := ⟨_, rfl⟩
  have hn12 := ha.out.1
  have HN := Lib.hid hn
  rw [hn] at hn12
  rcases hv.out with ⟨h0, _⟩ | ⟨h0, b, off, cap, rfl, hc, hlt, hcell⟩
  · subst h0; exact absurd ha.out.1.1 (by simp)
  have HC := Lib.hid hcell
  rw [hn] at hv ⊢
  clear hcell hc h0 hn
  go_enter Try.func13, Try.ntmps13
  go_wp2_with fail
  (with_reducible refine (spec_OrderValid_yes _ xs _ hv.out ha).mono ?_)
  rintro e w1 ⟨rfl, hb1⟩
  have HB1 := Lib.hid hb1
  have hsz := hb1.size
  clear hb1
  go_wp2_with (at_make; refine wpList_make_full _ rfl _ _ 22 rfl w.heap.size 3 i0 (.int .i64 0) 1 Try.underlying22 hi hz0 hz1 _ _ _ _ n rfl rfl rfl rfl (by rw [hz2]; omega) (by unfold maxLen; omega) hsz ?_)
  intro w2 hown hgrow
  have HO : Hid (Bw.Own 3 w.heap.size w2 (.slice (some ⟨w1.heap.size, 0, none⟩) n n) (Bw.bk xs 0)) := by
    unfold Hid Bw.Own
    rw [Bw.bk_length, HN.out, show Bw.bk xs 0 = List.replicate xs.length 0 from rfl, HN.out, ← Bw.made_zeros]
    exact hown
  have HB2 : Hid (Below w.heap.size w w2) := HB1.out.grown hgrow hsz (fun k h => by cases h)
  have hd : w1.heap.size < w2.heap.size := (hown.lt w1.heap.size rfl).2
  clear hown hgrow
  obtain ⟨d, hdd⟩ : ∃ d, w1.heap.size = d := ⟨_, rfl⟩
  rw [hdd] at HO hd hsz ⊢
  clear hdd
  go_wp2_with fail
  go_loopw [4] (fun i wr => ∃ k : Nat, k ≤ n ∧ i = .int .i64 k ∧ Hid (Bw.Own 3 w.heap.size wr (.slice (some ⟨d, 0, none⟩) n n) (Bw.bk xs k)) ∧ Hid (Below w.heap.size w wr)) (fun i _ => n - (intOf i).toNat)
  case atStart => exact ⟨0, by omega, rfl, HO, HB2⟩
  case round =>
    obtain ⟨k, hk, rfl, ho, hbe⟩ := hrel
    by_cases hl : k < n
    · have hla : k < xs.length := by rw [HN.out]; exact hl
      have hp := ha.out.pl_lt hla
      rw [HN.out] at hp
      have hcell : wr.cell? ⟨b, off + k, none⟩ = some (.int .i64 (Bw.pl xs k)) := by
        rw [(hbe.out.cell (p := ⟨b, off + k, none⟩) hlt), HC.out _ hla, ha.out.pl_cast hla]
      have hrow : wr.ownsRow w.heap.size 3 1 (.slice (some ⟨d, 0, none⟩) n n) n ((Bw.bk xs k).map (Value.int .i64)) := by
        have h := ho.out
        unfold Bw.Own at h
        rwa [Bw.bk_length, HN.out] at h
      have HST := Lib.hid (hrow.stored (Bw.pl xs k) (.int .i64 (k : Int)))
      have hold := hrow.cellAt (Bw.pl xs k) (by omega)
      have hfz := hrow.frozenAt (Bw.pl xs k)
      rw [List.getElem?_map, Bw.nth_lt (show Bw.pl xs k < (Bw.bk xs k).length by rw [Bw.bk_length, HN.out]; exact hp)] at hold
      replace hold : _ = some (Value.int .i64 (Bw.nth (Bw.bk xs k) (Bw.pl xs k))) := hold
      have HSET : Hid (∀ w', w'.ownsRow w.heap.size 3 1 (.slice (some ⟨d, 0, none⟩) n n) n (((Bw.bk xs k).map (Value.int .i64)).set (Bw.pl xs k) (.int .i64 (k : Int))) → Bw.Own 3 w.heap.size w' (.slice (some ⟨d, 0, none⟩) n n) (Bw.bk xs (k + 1))) := fun w' h => by
        unfold Bw.Own
        rw [Bw.bk_length, HN.out, show Bw.bk xs (k + 1) = (Bw.bk xs k).set (Bw.pl xs k) (k : Int) from rfl, List.map_set]
        exact h
      obtain ⟨old, hold2⟩ : ∃ o, Bw.nth (Bw.bk xs k) (Bw.pl xs k) = o := ⟨_, rfl⟩
      rw [hold2] at hold
      obtain ⟨p, hpp⟩ : ∃ p, Bw.pl xs k = p := ⟨_, rfl⟩
      rw [hpp] at hcell hp hold hfz HST HSET
      have hsz2 := hbe.out.size
      clear hpp hold2 hrow
      go_wp2
      go_roundw
      case rel => exact ⟨k + 1, by omega, by go_num, HSET.out _ HST.out.1, hbe.out.grown HST.out.2 hbe.out.size (fun j e => by cases e; exact hsz)⟩
      case measure => simp [intOf]; omega
    · obtain rfl : k = n := by omega
      go_wp2_with fail
      go_ret
      exact ⟨_, rfl, by have h := ho.out; rw [← HN.out] at h ⊢; exact h, hbe.out⟩

theorem impl_OrderBack_no (v : Value) (xs : List Int) (w : World) (hv : Hid (Bw.Reads w v xs)) (hn : xs.length ≤ 1048576) (ha : Hid (¬ Bw.OrderOk xs)) :
    Calls Try.prog 14 #[v] w fun e w' => ∃ r, e = .returned r ∧ Bw.Own 3 w.heap.size w' r [] ∧ Below w.heap.size w w' := by
  go_enter Try.func14, Try.ntmps14
  go_wp2_with fail
  (with_reducible refine (isOrder_no _ xs _ hv.out hn ha).mono ?_)
  rintro e w1 ⟨rfl, hb1⟩
  have HB1 := Lib.hid hb1
  clear hb1
  go_wp2_with fail
  go_ret
  exact ⟨_, rfl, Bw.own_none _ _ _, HB1.out⟩

theorem spec_OrderBack_no (v : Value) (xs : List Int) (w : World) (hv : Hid (Bw.Reads w v xs)) (hn : xs.length ≤ 1048576) (ha : Hid (¬ Bw.OrderOk xs)) :
    Calls Try.prog 13 #[v] w fun e w' => ∃ r, e = .returned r ∧ Bw.Own 3 w.heap.size w' r [] ∧ Below w.heap.size w w' := by
  go_enter Try.func13, Try.ntmps13
  go_wp2_with fail
  (with_reducible refine (spec_OrderValid_no _ xs _ hv.out hn ha).mono ?_)
  rintro e w1 ⟨rfl, hb1⟩
  have HB1 := Lib.hid hb1
  have hsz := hb1.size
  have HM : Hid (Bw.Own 3 w.heap.size (w1.alloc (.cells #[] 3)) (.slice (some ⟨w1.heap.size, 0, none⟩) 0 0) []) := World.ownsRow_made w1 #[] 0 hsz (by unfold maxLen; omega) rfl
  clear hb1
  go_wp2_with fail
  go_ret
  exact ⟨_, rfl, HM.out, HB1.out.alloc hsz _⟩

theorem impl_OrderBack_any (v : Value) (xs out : List Int) (w : World) (hv : Bw.Reads w v xs) (hn : xs.length ≤ 1048576) (h : Hid (Bw.BackIs xs out)) :
    Calls Try.prog 14 #[v] w fun e w' => ∃ r, e = .returned r ∧ Bw.Own 3 w.heap.size w' r out ∧ Below w.heap.size w w' := by
  by_cases hok : Bw.OrderOk xs
  · rw [h.out.1 hok]
    exact impl_OrderBack_yes v xs w hv hok
  · rw [h.out.2 hok]
    exact impl_OrderBack_no v xs w hv hn hok

theorem spec_OrderBack_any (v : Value) (xs out : List Int) (w : World) (hv : Bw.Reads w v xs) (hn : xs.length ≤ 1048576) (h : Hid (Bw.BackIs xs out)) :
    Calls Try.prog 13 #[v] w fun e w' => ∃ r, e = .returned r ∧ Bw.Own 3 w.heap.size w' r out ∧ Below w.heap.size w w' := by
  by_cases hok : Bw.OrderOk xs
  · rw [h.out.1 hok]
    exact spec_OrderBack_yes v xs w hv hok
  · rw [h.out.2 hok]
    exact spec_OrderBack_no v xs w hv hn hok

end Go.Proofs.Ytknchojfhpchiac
