/- The walk of the law on messages and rests. -/
import Derived.Test.YtmhgipnmojcjaaaDrawn
import Derived.Test.YtmhgipnmojcjaaaBurst
import Derived.Test.YtmhgipnmojcjaaaWord2
import Derived.Test.YtmhgipnmojcjaaaLawsB

namespace Bw
open Go Go.RowKit

/-- a message and a rest, as one polynomial -/
theorem whole_rest {A s q : Nat} (q0 : q ≠ 0) (hs : s < 2 ^ q.log2) : pmod (A * 2 ^ q.log2 + s) q = pmod (A * 2 ^ q.log2) q ^^^ s := by
  have e : A * 2 ^ q.log2 + s = A * 2 ^ q.log2 ^^^ s := by
    rw [Nat.mul_comm, Nat.two_pow_add_eq_or_of_lt hs]
    apply Nat.eq_of_testBit_eq
    intro i
    rw [Nat.testBit_or, Nat.testBit_xor, Nat.testBit_two_pow_mul]
    by_cases h : q.log2 ≤ i
    · have : s.testBit i = false := Nat.testBit_lt_two_pow (Nat.lt_of_lt_of_le hs (Nat.pow_le_pow_right (by omega) h))
      simp [this]
    · simp [h]
  rw [e, pmod_xor _ _ q0, pmod_small q0 hs]

theorem whole_lt {A s L D : Nat} (hA : A < 2 ^ L) (hs : s < 2 ^ D) (h : L + D ≤ 16) : A * 2 ^ D + s ≤ 65535 := by
  have h1 : (A + 1) * 2 ^ D ≤ 2 ^ L * 2 ^ D := Nat.mul_le_mul_right _ hA
  rw [← Nat.pow_add, Nat.add_mul] at h1
  have h2 : 2 ^ (L + D) ≤ 2 ^ 16 := Nat.pow_le_pow_right (by omega) h
  omega

theorem whole_slot {A s D : Nat} (h : A * 2 ^ D + s ≤ 65535) : wrap64 (wrap64 ((A : Int) * 2 ^ D) + (s : Int)) = ((A * 2 ^ D + s : Nat) : Int) := by
  have e : (A : Int) * 2 ^ D = ((A * 2 ^ D : Nat) : Int) := by simp
  rw [e, w64n (by omega), w64 (by omega)]
  omega

end Bw

namespace Go.Proofs.Ytmhgipnmojcjaaa
open Go.RowKit
set_option linter.unusedVariables false

set_option maxRecDepth 100000 in
set_option maxHeartbeats 1000000 in
theorem law_FnCheckOk (w : World) (a : Option Addr) (n cap : Nat) (zs : List Int) (h : Bw.IsRow .u8 w a n cap zs) :
    Calls Try.prog 4 #[.slice a n cap] w fun e w' => e = .returned (.bool true) ∧ Below w.heap.size w w' := by
  have hc := code_of_row h
  have hlen := h.len.2
  have HC := Lib.hid hc
  clear h hc
  by_cases hbig : 1048576 < n
  · go_enter Try.func4, Try.ntmps4
    go_wp2_with fail
    go_ret
    exact ⟨rfl, Below.refl _ _⟩
  have hs : n ≤ 1048576 := by omega
  clear hbig
  go_enter Try.func4, Try.ntmps4
  go_wp2_with fail
  refine (DrawCheckOk_any a n cap _ HC.out).mono ?_
  rintro e w1 ⟨v, zs, p, s, g, rfl, hd, hb⟩
  have HB := Lib.hid hb
  clear hb
  obtain ⟨r, hr⟩ := Bw.checkIs_some zs p
  have HR := Lib.hid hr
  obtain ⟨t, ht⟩ : ∃ t, t = decide (0 ≤ r ∧ r = s) := ⟨_, rfl⟩
  have HT := Lib.hid ht
  clear ht
  have HV := Lib.hid hd.reads
  obtain ⟨hreads, hl17, hbd, b, mc, rfl, hbg⟩ := hd
  clear hbd hbg
  obtain ⟨d, hd32, hd2, hcall⟩ := spec_degree_any p
  have HDG := Lib.hid hcall
  clear hcall
  by_cases hf : Bw.CheckFits zs p
  · have hrv := hr.1 hf
    clear hr
    obtain ⟨q, rfl⟩ := Int.eq_ofNat_of_zero_le (show 0 ≤ p by have := hf.1; omega)
    rw [Int.toNat_natCast] at hrv
    obtain ⟨⟨hp2, hp511⟩, hl16, hab⟩ := hf
    have h0 : 2 ≤ q := by omega
    have h1 : q ≤ 511 := by omega
    have q0 : q ≠ 0 := by omega
    clear hp2 hp511
    have hlg := Bw.modulus_log h0 h1
    have hpw := Bw.modulus_pow h0 h1
    obtain ⟨he, _, _⟩ := Bw.modulus_dg h0 h1
    have hrlt := Bw.pmod_lt256 h0 h1 (Bw.val zs zs.length * 2 ^ q.log2)
    have HDG2 := Lib.hid (fun (w : World) => he ▸ spec_PolyDegree_yes q w (by omega))
    have HAB := Lib.hid hab
    have HQ0 := Lib.hid q0
    clear hab he HDG hd32 hd2 q0
    obtain ⟨R, hR⟩ : ∃ R, Bw.pmod (Bw.val zs zs.length * 2 ^ q.log2) q = R := ⟨_, rfl⟩
    rw [hR] at hrv hrlt
    subst hrv
    have hR0 : ((R : Int) < 0) = False := by simp
    obtain ⟨D, hD⟩ : ∃ D, q.log2 = D := ⟨_, rfl⟩
    rw [hD] at HDG2 hlg hpw hrlt
    obtain ⟨Q, hQ⟩ : ∃ Q, 2 ^ D = Q := ⟨_, rfl⟩
    rw [hQ] at hpw hrlt
    have hw : wrap64 (2 ^ D) = (Q : Int) := by rw [Bw.two_pow_cast, hQ, Bw.w64n (by omega)]
    have HQ := Lib.hid hQ
    have HDD := Lib.hid hD
    have HR0 := Lib.hid hR
    have HRLT := Lib.hid hrlt
    have hQ256 := hpw.2
    have hD8 : D ≤ 8 := hlg.2
    clear hQ hD hR hlg hrlt hpw
    by_cases hL : zs.length + D ≤ 16
    · by_cases hs0 : 0 ≤ s
      · by_cases hsQ : s < Q
        · go_wp2_with (first | (go_at_call 12; ((with_reducible refine (impl_CheckOk_any _ zs q s _ HV.out _ HR _ HT).mono ?_); rintro e w' ⟨rfl, rfl⟩)) | (go_at_call 13; ((with_reducible refine (spec_CheckOk_any _ zs q s _ HV.out _ HR _ HT).mono ?_); rintro e w' ⟨rfl, rfl⟩)) | (go_at_call 9; ((with_reducible refine (HDG2.out _).mono ?_); rintro e w' ⟨rfl, rfl⟩)) | (go_at_call 6; ((with_reducible refine (impl_CheckOf_any _ zs q _ HV.out _ HR).mono ?_); rintro e w' ⟨rfl, rfl⟩)))
          have HC : Hid (∀ k, k < zs.length → w1.cell? ⟨b, k, none⟩ = some (.int .i64 (Bw.nth zs k))) := fun k hk => by
            rcases HV.out with ⟨h0, _⟩ | ⟨h0, b2, off, cap2, e, hc, hlt, hcell⟩
            · subst h0; exact absurd hk (by simp)
            · injection e with e1 e2 e3
              injection e1 with e1
              injection e1 with e4 e5
              subst e4; subst e5
              have := hcell k hk
              rwa [Nat.zero_add] at this
          obtain ⟨S, rfl⟩ := Int.eq_ofNat_of_zero_le hs0
          have hSQ : S < Q := by omega
          have hval := fun k hk => Bw.val_lt HAB.out k hk
          have HW := Lib.hid (Bw.whole_lt (D := D) (s := S) (hval _ (Nat.le_refl _)) (by rw [HQ.out]; exact hSQ) hL)
          have hrest := Bw.whole_rest (A := Bw.val zs zs.length) (s := S) HQ0.out (by rw [HDD.out, HQ.out]; exact hSQ)
          rw [HR0.out, HDD.out] at hrest
          have HREST := Lib.hid hrest
          have HVAL := Lib.hid hval
          have HHW := Lib.hid hw
          have HSQ := Lib.hid hSQ
          clear hval hrest hw hs0 hsQ hSQ hQ256 hR0
          go_loop [8, 9] (fun u i => ∃ k : Nat, k ≤ zs.length ∧ i = .int .i64 k ∧ u = .int .i64 ((Bw.val zs k : Nat) : Int)) (fun _ i => zs.length - (intOf i).toNat)
          case atStart => exact ⟨0, by omega, rfl, rfl⟩
          case round =>
            obtain ⟨k, hk, rfl, rfl⟩ := hrel
            have hA := HVAL.out k hk
            have hA2 : 2 ^ k ≤ 2 ^ 16 := Nat.pow_le_pow_right (by omega) (by omega)
            have hA3 : Bw.val zs k < 65536 := by omega
            clear hA hA2
            by_cases hlt : k < zs.length
            · have hcell := HC.out k hlt
              have hbit := HAB.out k hlt
              have HNEXT : Hid (∀ z, Bw.nth zs k = z → ((Bw.val zs (k + 1) : Nat) : Int) = 2 * (Bw.val zs k : Int) + z) := fun z hz => by
                show ((2 * Bw.val zs k + (Bw.nth zs k).toNat : Nat) : Int) = _
                omega
              obtain ⟨z, hz⟩ : ∃ z, Bw.nth zs k = z := ⟨_, rfl⟩
              rw [hz] at hcell hbit
              have HN2 := Lib.hid (HNEXT.out z hz)
              have hz01 : 0 ≤ z ∧ z ≤ 1 := by omega
              clear hz hbit HNEXT
              go_wp2_with fail
              go_round
              case rel => exact ⟨k + 1, by omega, by go_num, by rw [HN2.out]⟩
              case measure => simp [intOf]; omega
            · obtain rfl : k = zs.length := by omega
              have hle := HW.out
              obtain ⟨A, hAA⟩ : ∃ A, Bw.val zs zs.length = A := ⟨_, rfl⟩
              rw [hAA] at hle HREST hA3 ⊢
              have HSLOT := Lib.hid (Bw.whole_slot hle)
              have HPD := Lib.hid (fun w : World => impl_PolyDivide_yes (A * 2 ^ D + S) q w (by omega) (by omega) HQ0.out)
              rw [HREST.out] at HPD
              obtain ⟨L, hLL⟩ : ∃ L, R ^^^ S = L := ⟨_, rfl⟩
              rw [hLL] at HPD
              have hver : t = ((L : Int) == 0) := by
                rw [HT.out]
                by_cases e : R = S
                · subst e
                  rw [Nat.xor_self] at hLL
                  subst hLL
                  simp
                · have hne : L ≠ 0 := fun h => e (by
                    have h2 : R ^^^ S ^^^ S = L ^^^ S := by rw [hLL]
                    rw [Nat.xor_assoc, Nat.xor_self, Nat.xor_zero, h, Nat.zero_xor] at h2
                    exact h2)
                  have e1 : ((L : Int) == 0) = false := by rw [beq_eq_false_iff_ne]; omega
                  rw [e1, decide_eq_false_iff_not]
                  omega
              have HVER := Lib.hid hver
              clear hle hver hLL hAA hL
              go_wp2_with (go_at_call 14; rw [HSLOT.out]; ((with_reducible refine (HPD.out _).mono ?_); rintro e w' ⟨rfl, rfl⟩))
              go_ret
              exact ⟨ret_bool (by rw [HVER.out]; simp), HB.out⟩
        · go_wp2_with (first | (go_at_call 12; ((with_reducible refine (impl_CheckOk_any _ zs q s _ HV.out _ HR _ HT).mono ?_); rintro e w' ⟨rfl, rfl⟩)) | (go_at_call 13; ((with_reducible refine (spec_CheckOk_any _ zs q s _ HV.out _ HR _ HT).mono ?_); rintro e w' ⟨rfl, rfl⟩)) | (go_at_call 9; ((with_reducible refine (HDG2.out _).mono ?_); rintro e w' ⟨rfl, rfl⟩)) | (go_at_call 6; ((with_reducible refine (impl_CheckOf_any _ zs q _ HV.out _ HR).mono ?_); rintro e w' ⟨rfl, rfl⟩)))
          refine (alive_any _).mono ?_
          rintro e w2 ⟨rfl, hb2⟩
          have HB2 := Lib.hid hb2
          clear hb2
          go_wp2_with fail
          go_ret
          exact ⟨rfl, HB.out.trans (HB2.out.mono HB.out.size)⟩
      · go_wp2_with (first | (go_at_call 12; ((with_reducible refine (impl_CheckOk_any _ zs q s _ HV.out _ HR _ HT).mono ?_); rintro e w' ⟨rfl, rfl⟩)) | (go_at_call 13; ((with_reducible refine (spec_CheckOk_any _ zs q s _ HV.out _ HR _ HT).mono ?_); rintro e w' ⟨rfl, rfl⟩)) | (go_at_call 9; ((with_reducible refine (HDG2.out _).mono ?_); rintro e w' ⟨rfl, rfl⟩)) | (go_at_call 6; ((with_reducible refine (impl_CheckOf_any _ zs q _ HV.out _ HR).mono ?_); rintro e w' ⟨rfl, rfl⟩)))
        refine (alive_any _).mono ?_
        rintro e w2 ⟨rfl, hb2⟩
        have HB2 := Lib.hid hb2
        clear hb2
        go_wp2_with fail
        go_ret
        exact ⟨rfl, HB.out.trans (HB2.out.mono HB.out.size)⟩
    · go_wp2_with (first | (go_at_call 12; ((with_reducible refine (impl_CheckOk_any _ zs q s _ HV.out _ HR _ HT).mono ?_); rintro e w' ⟨rfl, rfl⟩)) | (go_at_call 13; ((with_reducible refine (spec_CheckOk_any _ zs q s _ HV.out _ HR _ HT).mono ?_); rintro e w' ⟨rfl, rfl⟩)) | (go_at_call 9; ((with_reducible refine (HDG2.out _).mono ?_); rintro e w' ⟨rfl, rfl⟩)) | (go_at_call 6; ((with_reducible refine (impl_CheckOf_any _ zs q _ HV.out _ HR).mono ?_); rintro e w' ⟨rfl, rfl⟩)))
      refine (alive_any _).mono ?_
      rintro e w2 ⟨rfl, hb2⟩
      have HB2 := Lib.hid hb2
      clear hb2
      go_wp2_with fail
      go_ret
      exact ⟨rfl, HB.out.trans (HB2.out.mono HB.out.size)⟩
  · obtain rfl : r = -1 := hr.2 hf
    clear hr hf
    go_wp2_with (first | (go_at_call 12; ((with_reducible refine (impl_CheckOk_any _ zs p s _ HV.out _ HR _ HT).mono ?_); rintro e w' ⟨rfl, rfl⟩)) | (go_at_call 13; ((with_reducible refine (spec_CheckOk_any _ zs p s _ HV.out _ HR _ HT).mono ?_); rintro e w' ⟨rfl, rfl⟩)) | (go_at_call 9; ((with_reducible refine (HDG.out _).mono ?_); rintro e w' ⟨rfl, rfl⟩)) | (go_at_call 6; ((with_reducible refine (impl_CheckOf_any _ zs p _ HV.out _ HR).mono ?_); rintro e w' ⟨rfl, rfl⟩)))
    refine (alive_any _).mono ?_
    rintro e w2 ⟨rfl, hb2⟩
    have HB2 := Lib.hid hb2
    clear hb2
    go_wp2_with fail
    go_ret
    exact ⟨rfl, HB.out.trans (HB2.out.mono HB.out.size)⟩

end Go.Proofs.Ytmhgipnmojcjaaa
