/- The walk of the law that the rounds of an order move bits as the order does. -/
import Derived.Test.YtbknmokoegembacDoorRndA
import Derived.Test.YtbknmokoegembacDoorRndOrd
import Derived.Test.YtbknmokoegembacDoorMDrawC
import Derived.Test.YtbknmokoegembacDoorFnOrdB
import Derived.Test.YtbknmokoegembacDoorSame
import Derived.Test.YtbknmokoegembacDoorWord2
import Derived.Deep.RegionWith

namespace Go.Proofs.YtbknmokoegembacDoor
open Go.RowKit
set_option linter.unusedVariables false

/-- the rounds of an order, run -/
theorem run_rounds {xs : List Int} (ha : Bw.OrderOk xs) (v : Value) (z : Nat) (hz : z < 2 ^ xs.length) (w : World) (hv : Hid (Bw.Reads w v (Bw.roundsOf xs))) (hT : Hid (TabLies w)) :
    Calls Tryd.prog 14 #[.int .i64 xs.length, .int .i64 z, v] w fun e w' => e = .returned (.int .i64 ((Bw.mv z xs xs.length : Nat) : Int)) ∧ Below w.heap.size w w' := by
  have hl := Bw.roundsOf_length xs
  have hw := gword_ok ha.1.1 ha.1.2 hz
  have hok : ∀ j, j < (Bw.roundsOf xs).length → RndOk (xs.length : Int) (Bw.nth (Bw.roundsOf xs) j) := fun j hj => by
    rw [hl] at hj
    have h1 := Bw.rounds_rnd ha hj
    have h2 : Bw.nth (Bw.roundsOf xs) j = ((Bw.pl (Bw.roundsOf xs) j : Nat) : Int) := by
      unfold Bw.pl; rw [Bw.roundsOf_nth hj]; simp
    rw [h2]
    exact ⟨gword_ok ha.1.1 ha.1.2 h1.1, by simpa using h1.2⟩
  have h3 := impl_RoundsRun_upto xs.length z v (Bw.roundsOf xs) w hv hw (by rw [hl]; exact ha.1.2) (Bw.roundsOf xs).length ((Bw.runs xs.length z (Bw.roundsOf xs) (Bw.roundsOf xs).length : Nat) : Int) (Nat.le_refl _) hok (Lib.hid ⟨fun _ => rfl, fun h => absurd h (by omega)⟩) hT
  rw [hl, Bw.rounds_move ha hz] at h3
  exact h3

set_option maxRecDepth 100000 in
set_option maxHeartbeats 1000000 in
theorem law_FnRoundsOf (w : World) (a : Option Addr) (n cap : Nat) (zs : List Int) (h : Bw.IsRow .u8 w a n cap zs) (a2 : Option Addr) (n2 cap2 : Nat) (zs2 : List Int) (h2 : Bw.IsRow .u8 w a2 n2 cap2 zs2) (hT : TabLies w) :
    Calls Tryd.prog 6 #[.slice a n cap, .slice a2 n2 cap2] w fun e w' => e = .returned (.bool true) ∧ Below w.heap.size w w' := by
  have hc := code_of_row h
  have hlen := h.len.2
  have hlen2 := h2.len.2
  have HC := Lib.hid hc
  have HT := Lib.hid hT
  clear h hc hT h2
  by_cases hbig : 1048576 < n
  · go_enter Tryd.func6, Tryd.ntmps6
    go_wp2_with fail
    go_ret
    exact ⟨rfl, Below.refl _ _⟩
  have hs : n ≤ 1048576 := by omega
  clear hbig
  by_cases hbig : 1048576 < n2
  · go_enter Tryd.func6, Tryd.ntmps6
    go_wp2_with fail
    go_ret
    exact ⟨rfl, Below.refl _ _⟩
  have hs2 : n2 ≤ 1048576 := by omega
  clear hbig
  go_enter Tryd.func6, Tryd.ntmps6
  go_wp2_with fail
  refine (DrawRoundsOf_any a n cap _ HC.out).mono ?_
  rintro e w1 ⟨v, xs, rfl, ho, hl14, hb⟩
  have B := Lib.hid hb
  have HT := Lib.hid (HT.out.below hb)
  have O := Lib.hid ho
  clear hb ho
  obtain ⟨out, hout⟩ := Bw.roundsIs_some xs
  have ho12 := hout.len
  have HR := Lib.hid hout
  have hx : xs.length ≤ 1048576 := by omega
  go_wp2_with fail
  (with_reducible refine (impl_RoundsOf_any _ xs out _ O.out.reads hx HR).mono ?_)
  rintro e w2 ⟨r1, rfl, ho, hb⟩
  have OG := Lib.hid (Bw.Own.mono ho B.out.size)
  have O := Lib.hid (O.out.below hb)
  have HT := Lib.hid (HT.out.below hb)
  have B := Lib.hid (B.out.trans (hb.mono B.out.size))
  clear ho hb
  go_wp2_with fail
  (with_reducible refine (spec_RoundsOf_any _ xs out _ O.out.reads hx HR).mono ?_)
  rintro e w2 ⟨r2, rfl, ho, hb⟩
  have OW := Lib.hid (Bw.Own.mono ho B.out.size)
  have O := Lib.hid (O.out.below hb)
  have OG := Lib.hid (OG.out.below hb)
  have HT := Lib.hid (HT.out.below hb)
  have B := Lib.hid (B.out.trans (hb.mono B.out.size))
  clear ho hb
  go_wp2_with fail
  (with_reducible refine (sameInts_any _ _ out out _ OG.out.reads OW.out.reads (by omega)).mono ?_)
  rintro e w2 ⟨rfl, hb⟩
  have O := Lib.hid (O.out.below hb)
  have OG := Lib.hid (OG.out.below hb)
  have HT := Lib.hid (HT.out.below hb)
  have B := Lib.hid (B.out.trans (hb.mono B.out.size))
  clear hb
  have hsame : decide (out = out) = true := by simp
  by_cases hok : Bw.OrderOk xs
  · have HOK := Lib.hid hok
    have hn := hok.1
    obtain rfl := hout.1 hok
    have hl := Bw.roundsOf_length xs
    have hqb := wbd hn.2
    obtain ⟨z, hz⟩ : ∃ z, n2 * 73 % 2 ^ xs.length = z := ⟨_, rfl⟩
    have hzl : z < 2 ^ xs.length := by rw [← hz]; exact Nat.mod_lt _ (Nat.two_pow_pos _)
    obtain ⟨b, cap0, rfl, _, _⟩ := O.out.some (by intro e; subst e; exact absurd hn.1 (by simp))
    obtain ⟨b1, cap1, rfl, _, _⟩ := OG.out.some (by intro e; rw [e] at hl; simp at hl; omega)
    rw [hl]
    have CR := Lib.hid (fun z hz w h t => run_rounds hok (.slice (some ⟨b1, 0, none⟩) xs.length cap1) z hz w h t)
    have CM := Lib.hid (fun z hz w h => impl_BitsMoved_some z (.slice (some ⟨b, 0, none⟩) xs.length cap0) xs w h (gword_ok hn.1 hn.2 hz) HOK)
    have CO := Lib.hid (fun w h => spec_OrderValid_yes (.slice (some ⟨b, 0, none⟩) xs.length cap0) xs w h HOK)
    obtain ⟨q, hq⟩ : ∃ q, 2 ^ xs.length = q := ⟨_, rfl⟩
    have hwq := wrap_pow hn.2 hq
    have CZ := Lib.hid (fun w h t => CR.out z hzl w h t)
    have CZM := Lib.hid (fun w h => CM.out z hzl w h)
    have CRK : Hid (∀ k, k < xs.length → ∀ w, Hid (Bw.Reads w (.slice (some ⟨b1, 0, none⟩) xs.length cap1) (Bw.roundsOf xs)) → Hid (TabLies w) → Calls Tryd.prog 14 #[.int .i64 xs.length, .int .i64 ((2 ^ k : Nat) : Int), .slice (some ⟨b1, 0, none⟩) xs.length cap1] w fun e w' => e = .returned (.int .i64 ((Bw.mv (2 ^ k) xs xs.length : Nat) : Int)) ∧ Below w.heap.size w w') := fun k hk w h t =>
      CR.out (2 ^ k) (Nat.pow_lt_pow_right (by omega) hk) w h t
    have CMK : Hid (∀ k, k < xs.length → ∀ w, Hid (Bw.Reads w (.slice (some ⟨b, 0, none⟩) xs.length cap0) xs) → Calls Tryd.prog 26 #[.int .i64 ((2 ^ k : Nat) : Int), .slice (some ⟨b, 0, none⟩) xs.length cap0] w fun e w' => e = .returned (.int .i64 ((Bw.mv (2 ^ k) xs xs.length : Nat) : Int)) ∧ Below w.heap.size w w') := fun k hk w h =>
      CM.out (2 ^ k) (Nat.pow_lt_pow_right (by omega) hk) w h
    rw [hq] at hz hqb hzl
    have hzz : (n2 : Int) * 73 % (q : Int) = (z : Int) := by rw [← hz]; simp
    obtain ⟨M, hM⟩ : ∃ M, xs.length = M := ⟨_, rfl⟩
    have R1 := Lib.hid OG.out.reads
    have R2 := Lib.hid O.out.reads
    rw [hl] at R1
    rw [hM] at hn CO CZ CZM CRK CMK hwq R1 R2 ⊢
    have hM12 := hn.2
    clear hok hout HR hl hz hq hM CR CM hl14 ho12 hx hn
    go_wp2_with fail
    (with_reducible refine (CO.out _ R2.out).mono ?_)
    rintro e w2 ⟨rfl, hb⟩
    have R1 := Lib.hid (R1.out.below hb)
    have R2 := Lib.hid (R2.out.below hb)
    have HT := Lib.hid (HT.out.below hb)
    have B := Lib.hid (B.out.trans (hb.mono B.out.size))
    clear hb
    have HZZ := Lib.hid hzz
    clear hzz
    go_wp2_with fail
    rw [HZZ.out]
    go_loopw [9] (fun i wr => ∃ k : Nat, k ≤ M ∧ i = .int .i64 k ∧ Hid (Bw.Reads wr (.slice (some ⟨b1, 0, none⟩) M cap1) (Bw.roundsOf xs)) ∧ Hid (Bw.Reads wr (.slice (some ⟨b, 0, none⟩) M cap0) xs) ∧ Hid (TabLies wr) ∧ Hid (Below w.heap.size w wr)) (fun i _ => M - (intOf i).toNat)
    case atStart => exact ⟨0, by omega, rfl, R1, R2, HT, B⟩
    case round =>
      obtain ⟨k, hk, rfl, R1, R2, HT, B⟩ := hrel
      by_cases hlt : k < M
      · have hwk : IntKind.i64.wrap (2 ^ k) = ((2 ^ k : Nat) : Int) := by
          have := wbd (show k ≤ 12 by omega)
          rw [Bw.two_pow_cast]
          exact IntWalk.i64_in _ (by omega)
        have M1 : Hid (∀ w', Below wr.heap.size wr w' → Calls Tryd.prog 14 #[.int .i64 M, .int .i64 (IntKind.i64.wrap (2 ^ k)), .slice (some ⟨b1, 0, none⟩) M cap1] w' fun e w'' => e = .returned (.int .i64 ((Bw.mv (2 ^ k) xs M : Nat) : Int)) ∧ Below wr.heap.size wr w'') := fun w' hb => by
          rw [hwk]
          exact (CRK.out k hlt w' (R1.out.below hb) (HT.out.below hb)).mono fun e w'' ⟨he, hb2⟩ => ⟨he, hb.trans (hb2.mono hb.size)⟩
        have M2 : Hid (∀ w', Below wr.heap.size wr w' → Calls Tryd.prog 26 #[.int .i64 (IntKind.i64.wrap (2 ^ k)), .slice (some ⟨b, 0, none⟩) M cap0] w' fun e w'' => e = .returned (.int .i64 ((Bw.mv (2 ^ k) xs M : Nat) : Int)) ∧ Below wr.heap.size wr w'') := fun w' hb => by
          rw [hwk]
          exact (CMK.out k hlt w' (R2.out.below hb)).mono fun e w'' ⟨he, hb2⟩ => ⟨he, hb.trans (hb2.mono hb.size)⟩
        obtain ⟨P, hP⟩ : ∃ P, Bw.mv (2 ^ k) xs M = P := ⟨_, rfl⟩
        rw [hP] at M1 M2
        have hbd : Below wr.heap.size wr wr.drew := (Below.refl _ _).drew
        have hPP : ((P : Int) != (P : Int)) = false := by simp
        clear hP hwk hwq
        go_wp2_with fail
        go_region_with (first
          | (go_at_call 14; (with_reducible refine (M1.out _ ?_).mono ?_); assumption; rintro e w2 ⟨rfl, hb⟩)
          | (go_at_call 26; (with_reducible refine (M2.out _ ?_).mono ?_); assumption; rintro e w3 ⟨rfl, hb2⟩))
        all_goals
          go_wp2_with fail
          go_roundw
          case rel => exact ⟨k + 1, by omega, by go_num, R1.out.below (by assumption), R2.out.below (by assumption), HT.out.below (by assumption), B.out.trans (Below.mono (by assumption) B.out.size)⟩
          case measure => simp [intOf]; omega
      · obtain rfl : k = M := by omega
        have hkk : ((k : Int) == (k : Int)) = true := by simp
        go_wp2_with fail
        (with_reducible refine (CZ.out _ R1 HT).mono ?_)
        rintro e w3 ⟨rfl, hb⟩
        have B := Lib.hid (B.out.trans (hb.mono B.out.size))
        have R2 := Lib.hid (R2.out.below hb)
        clear hb
        go_wp2_with fail
        (with_reducible refine (CZM.out _ R2).mono ?_)
        rintro e w4 ⟨rfl, hb⟩
        have B := Lib.hid (B.out.trans (hb.mono B.out.size))
        clear hb
        go_wp2_with fail
        go_ret
        exact ⟨ret_bool (by simp), B.out⟩
  · have HOK := Lib.hid hok
    go_wp2_with fail
    (with_reducible refine (spec_OrderValid_no _ xs _ O.out.reads hx HOK).mono ?_)
    rintro e w2 ⟨rfl, hb⟩
    have O := Lib.hid (O.out.below hb)
    have OG := Lib.hid (OG.out.below hb)
    have HT := Lib.hid (HT.out.below hb)
    have B := Lib.hid (B.out.trans (hb.mono B.out.size))
    clear hb
    obtain rfl := hout.2 hok
    clear hok hout HR
    obtain ⟨a3, cap3, rfl⟩ := OG.out.nil_or rfl
    go_wp2_with fail
    refine (alive_any _).mono ?_
    rintro e w2 ⟨rfl, hb2⟩
    have HB2 := Lib.hid hb2
    clear hb2
    go_wp2_with fail
    go_ret
    exact ⟨rfl, B.out.trans (HB2.out.mono B.out.size)⟩

end Go.Proofs.YtbknmokoegembacDoor
