/- The walk of the law on orders one after the other. -/
import Derived.Test.YtknchojfhpchiacMDrawC
import Derived.Test.YtknchojfhpchiacFnOrdB
import Derived.Test.YtknchojfhpchiacFnOrdC
import Derived.Test.YtknchojfhpchiacWord2
import Derived.Test.YtknchojfhpchiacSame
import Derived.Deep.RegionWith

namespace Bw
open Go Go.RowKit

theorem pl_thn {a b : List Int} {j : Nat} (hj : j < a.length) : pl (thn a b) j = pl b (pl a j) := by
  unfold pl; rw [thn_nth hj]; rfl

end Bw

namespace Go.Proofs.Ytknchojfhpchiac
open Go.RowKit
set_option linter.unusedVariables false

set_option maxHeartbeats 400000 in
/-- a power, moved -/
theorem moved_pow (v : Value) (zs : List Int) (k p : Nat) (w : World) (hv : Bw.Reads w v zs) (ho : Hid (Bw.OrderOk zs)) (hk : k < zs.length) (hp : Hid (Bw.pl zs k = p)) :
    Calls Try.prog 11 #[.int .i64 ((2 ^ k : Nat) : Int), v] w fun e w' => e = .returned (.int .i64 ((2 ^ p : Nat) : Int)) ∧ Below w.heap.size w w' := by
  have hw : WordOk (zs.length : Int) ((2 ^ k : Nat) : Int) := by
    have h1 := ho.out.1
    refine ⟨⟨by omega, by omega⟩, Int.natCast_nonneg _, ?_⟩
    rw [Int.toNat_natCast]
    exact Int.ofNat_lt.2 (Nat.pow_lt_pow_right (by omega) hk)
  have t := impl_BitsMoved_some (2 ^ k) v zs w hv hw ho
  rw [Bw.mv_pow ho.out hk, hp.out] at t
  exact t

set_option maxRecDepth 100000 in
set_option maxHeartbeats 1000000 in
theorem law_FnOrderThen (w : World) (a : Option Addr) (n cap : Nat) (zs : List Int) (h : Bw.IsRow .u8 w a n cap zs) :
    Calls Try.prog 8 #[.slice a n cap] w fun e w' => e = .returned (.bool true) ∧ Below w.heap.size w w' := by
  have hc := code_of_row h
  have hlen := h.len.2
  have HC := Lib.hid hc
  clear h hc
  by_cases hbig : 1048576 < n
  · go_enter Try.func8, Try.ntmps8
    go_wp2_with fail
    go_ret
    exact ⟨rfl, Below.refl _ _⟩
  have hs : n ≤ 1048576 := by omega
  clear hbig
  go_enter Try.func8, Try.ntmps8
  go_wp2_with fail
  refine (DrawOrderThen_any a n cap _ HC.out).mono ?_
  rintro e w1 ⟨v, xs, v2, ys, rfl, ho, hl14, ho2, hl142, hb⟩
  have B := Lib.hid hb
  have O := Lib.hid ho
  have O2 := Lib.hid ho2
  clear hb ho ho2
  obtain ⟨out, hout⟩ := Bw.thenIs_some xs ys
  have hl12 := hout.len
  have HR := Lib.hid hout
  go_wp2_with fail
  (with_reducible refine (impl_OrderThen_any _ _ xs ys out _ O.out.reads O2.out.reads (by omega) (by omega) HR).mono ?_)
  rintro e w2 ⟨r1, rfl, ho, hb⟩
  have OI := Lib.hid (Bw.Own.mono ho B.out.size)
  have O := Lib.hid (O.out.below hb)
  have O2 := Lib.hid (O2.out.below hb)
  have B := Lib.hid (B.out.trans (hb.mono B.out.size))
  clear ho hb
  go_wp2_with fail
  (with_reducible refine (spec_OrderThen_any _ _ xs ys out _ O.out.reads O2.out.reads (by omega) (by omega) HR).mono ?_)
  rintro e w2 ⟨r2, rfl, ho, hb⟩
  have OS := Lib.hid (Bw.Own.mono ho B.out.size)
  have O := Lib.hid (O.out.below hb)
  have O2 := Lib.hid (O2.out.below hb)
  have OI := Lib.hid (OI.out.below hb)
  have B := Lib.hid (B.out.trans (hb.mono B.out.size))
  clear ho hb
  go_wp2_with fail
  (with_reducible refine (sameInts_any _ _ out out _ OI.out.reads OS.out.reads (by omega)).mono ?_)
  rintro e w2 ⟨rfl, hb⟩
  have O := Lib.hid (O.out.below hb)
  have O2 := Lib.hid (O2.out.below hb)
  have OI := Lib.hid (OI.out.below hb)
  have B := Lib.hid (B.out.trans (hb.mono B.out.size))
  clear hb
  by_cases hok : Bw.OrderOk xs ∧ Bw.OrderOk ys ∧ xs.length = ys.length
  · obtain ⟨hx, hy, hxy⟩ := hok
    obtain rfl := hout.1 ⟨hx, hy, hxy⟩
    have HX := Lib.hid hx
    have HY := Lib.hid hy
    have HT := Lib.hid (Bw.thn_ok hx hy hxy)
    have hn := hx.1
    have htl := Bw.thn_length xs ys
    have HXY := Lib.hid hxy
    have HP := Lib.hid (fun j (hj : j < xs.length) => And.intro (hx.pl_lt hj) (Bw.pl_thn (b := ys) hj))
    obtain ⟨ts, hts⟩ : ∃ ts, Bw.thn xs ys = ts := ⟨_, rfl⟩
    rw [hts] at OI HT htl HP
    have HTL := Lib.hid htl
    clear hx hy hxy hout hts htl HR hl12 OS
    obtain ⟨tb, tcap, rfl, htb0, htb1⟩ := OI.out.some (by intro e; have h := HTL.out; rw [e] at h; simp at h; omega)
    obtain ⟨b, cap, rfl, _, _⟩ := O.out.some (by intro e; subst e; exact absurd hn.1 (by simp))
    obtain ⟨n, hxn⟩ : ∃ n, xs.length = n := ⟨_, rfl⟩
    have htn : ts.length = n := by rw [HTL.out, hxn]
    rw [hxn] at hn hl14 HP ⊢
    rw [htn]
    have HXN := Lib.hid hxn
    have HTN := Lib.hid htn
    clear hxn htn
    have hn0 : 0 < n := by omega
    have hn00 : ((n : Int) == 0) = false := by rw [beq_eq_false_iff_ne]; omega
    go_wp2_with fail
    go_loopw [6] (fun i wr => ∃ k : Nat, k ≤ n ∧ i = .int .i64 k ∧ Hid (Bw.Own 3 w.heap.size wr (.slice (some ⟨b, 0, none⟩) n cap) xs) ∧ Hid (Bw.Own 3 w.heap.size wr v2 ys) ∧ Hid (Bw.Own 3 w.heap.size wr (.slice (some ⟨tb, 0, none⟩) n tcap) ts) ∧ Hid (Below w.heap.size w wr)) (fun i _ => n - (intOf i).toNat)
    case atStart => exact ⟨0, by omega, rfl, by rw [HXN.out] at O; exact O, O2, by rw [HTN.out] at OI; exact OI, B⟩
    case round =>
      obtain ⟨k, hk, rfl, O, O2, OI, B⟩ := hrel
      by_cases hlt : k < n
      · obtain ⟨hp, htp⟩ := HP.out k hlt
        obtain ⟨p, hpp⟩ : ∃ p, Bw.pl xs k = p := ⟨_, rfl⟩
        obtain ⟨q, hqq⟩ : ∃ q, Bw.pl ys p = q := ⟨_, rfl⟩
        rw [hpp, hqq] at htp
        rw [hpp] at hp
        have hwk : IntKind.i64.wrap (2 ^ k) = ((2 ^ k : Nat) : Int) := by
          have := wbd (show k ≤ 12 by omega)
          rw [Bw.two_pow_cast]
          exact IntWalk.i64_in _ (by omega)
        obtain ⟨P, hP⟩ : ∃ P, 2 ^ p = P := ⟨_, rfl⟩
        obtain ⟨Q, hQ⟩ : ∃ Q, 2 ^ q = Q := ⟨_, rfl⟩
        have M1 : Hid (∀ w', Below wr.heap.size wr w' → Calls Try.prog 11 #[.int .i64 (IntKind.i64.wrap (2 ^ k)), .slice (some ⟨b, 0, none⟩) n cap] w' fun e w'' => e = .returned (.int .i64 (P : Int)) ∧ Below wr.heap.size wr w'') := fun w' hb => by
          rw [hwk, ← hP]
          exact (moved_pow (.slice (some ⟨b, 0, none⟩) n cap) xs k p w' (O.out.reads.below hb) HX (by rw [HXN.out]; exact hlt) hpp).mono fun e w'' ⟨he, hb2⟩ => ⟨he, hb.trans (hb2.mono hb.size)⟩
        have M2 : Hid (∀ w', Below wr.heap.size wr w' → Calls Try.prog 11 #[.int .i64 (P : Int), v2] w' fun e w'' => e = .returned (.int .i64 (Q : Int)) ∧ Below wr.heap.size wr w'') := fun w' hb => by
          rw [← hP, ← hQ]
          exact (moved_pow v2 ys p q w' (O2.out.reads.below hb) HY (by rw [← HXY.out, HXN.out]; exact hp) hqq).mono fun e w'' ⟨he, hb2⟩ => ⟨he, hb.trans (hb2.mono hb.size)⟩
        have M3 : Hid (∀ w', Below wr.heap.size wr w' → Calls Try.prog 11 #[.int .i64 (IntKind.i64.wrap (2 ^ k)), .slice (some ⟨tb, 0, none⟩) n tcap] w' fun e w'' => e = .returned (.int .i64 (Q : Int)) ∧ Below wr.heap.size wr w'') := fun w' hb => by
          rw [hwk, ← hQ]
          exact (moved_pow (.slice (some ⟨tb, 0, none⟩) n tcap) ts k q w' (OI.out.reads.below hb) HT (by rw [HTN.out]; exact hlt) htp).mono fun e w'' ⟨he, hb2⟩ => ⟨he, hb.trans (hb2.mono hb.size)⟩
        have hbd : Below wr.heap.size wr wr.drew := (Below.refl _ _).drew
        have hQQ : ((Q : Int) != (Q : Int)) = false := by simp
        clear hP hQ
        clear hwk hpp hqq htp
        go_wp2_with fail
        go_region_with (first
          | (go_at_call 11; (with_reducible refine (M1.out _ ?_).mono ?_); assumption; rintro e w2 ⟨rfl, hb⟩)
          | (go_at_call 11; (with_reducible refine (M2.out _ ?_).mono ?_); assumption; rintro e w3 ⟨rfl, hb2⟩)
          | (go_at_call 11; (with_reducible refine (M3.out _ ?_).mono ?_); assumption; rintro e w4 ⟨rfl, hb3⟩))
        all_goals
          go_wp2_with fail
          go_roundw
          case rel => exact ⟨k + 1, by omega, by go_num, O.out.below (by assumption), O2.out.below (by assumption), OI.out.below (by assumption), B.out.trans (Below.mono (by assumption) B.out.size)⟩
          case measure => simp [intOf]; omega
      · obtain rfl : k = n := by omega
        go_wp2_with fail
        (with_reducible refine (impl_OrderValid_yes _ ts _ OI.out.reads HT).mono ?_)
        rintro e w2 ⟨rfl, hb⟩
        have B2 := Lib.hid (B.out.trans (hb.mono B.out.size))
        clear hb
        go_wp2_with fail
        go_ret
        exact ⟨rfl, B2.out⟩
  · obtain rfl := hout.2 hok
    clear hok hout HR
    obtain ⟨a2, cap2, rfl⟩ := OI.out.nil_or rfl
    go_wp2_with fail
    refine (alive_any _).mono ?_
    rintro e w2 ⟨rfl, hb2⟩
    have HB2 := Lib.hid hb2
    clear hb2
    go_wp2_with fail
    go_ret
    exact ⟨rfl, B.out.trans (HB2.out.mono B.out.size)⟩

end Go.Proofs.Ytknchojfhpchiac
