/- The walk of the law on checks. -/
import Derived.Test.YtmhgipnmojcjaaaDrawn
import Derived.Test.YtmhgipnmojcjaaaBurst
import Derived.Test.YtmhgipnmojcjaaaWord2
import Derived.Test.YtmhgipnmojcjaaaLawsB

namespace Go.Proofs.Ytmhgipnmojcjaaa
open Go.RowKit
set_option linter.unusedVariables false

theorem below_append {B : Nat} {w0 w1 w2 : World} {o : Obj} (hb : Below B w0 w1) (hB : B ≤ w1.heap.size) (hg : (w1.alloc o).grownBy w2 (some w1.heap.size)) : Below B w0 w2 ∧ w1.heap.size ≤ w2.heap.size := by
  have hs : w1.heap.size ≤ (w1.alloc o).heap.size := by simp
  refine ⟨(hb.alloc hB o).grown hg (Nat.le_trans hB hs) (fun k e => ?_), Nat.le_trans hs hg.size⟩
  injection e with e; omega

theorem rest_of (n m Q : Nat) (h : 0 < Q) : ∃ c : Nat, (n : Int) * (m : Int) % (Q : Int) = (c : Int) ∧ c < Q := ⟨n * m % Q, by simp, Nat.mod_lt _ h⟩

theorem burst_of (n Q : Nat) (h : 0 < Q) (h2 : Q ≤ 256) : ∃ M : Nat, wrap64 (1 + wrap64 (2 * wrap64 (((n : Int) * 37 % (Q : Int)).tdiv 2))) = (M : Int) := by
  obtain ⟨c, hc, hcQ⟩ := rest_of n 37 Q h
  have hc' : (n : Int) * 37 % (Q : Int) = (c : Int) := hc
  rw [hc', Int.tdiv_eq_ediv_of_nonneg (by omega)]
  clear hc hc'
  obtain ⟨d, hd, hd2⟩ : ∃ d : Nat, (c : Int) / 2 = (d : Int) ∧ d < 256 := ⟨c / 2, by omega, by omega⟩
  rw [hd, Bw.w64n (by omega), Bw.w64 (n := 2 * (d : Int)) (by omega), Bw.w64 (by omega)]
  exact ⟨1 + 2 * d, by omega⟩

theorem place_of (n L : Nat) : ∃ at_ : Nat, (L ≠ 0 → (n : Int) % (L : Int) = (at_ : Int) ∧ at_ < L) ∧ (L = 0 → at_ = 0) := by
  by_cases h : L = 0
  · exact ⟨0, fun h' => absurd h h', fun _ => rfl⟩
  · exact ⟨n % L, fun _ => ⟨by simp, Nat.mod_lt _ (by omega)⟩, fun h' => absurd h' h⟩

theorem made_zero {n : Nat} : (Go.madeCells #[Value.int .i64 0] n).toList = (List.replicate n (0 : Int)).map (Value.int .i64) := by
  have h := Bw.filled_start (zs := List.replicate n (0 : Int))
  simpa [Bw.filled] using h

theorem set_map {w : World} {base e n j : Nat} {v : Value} {zs : List Int} {x : Int} (h : w.ownsRow base e 1 v n ((zs.map (Value.int .i64)).set j (.int .i64 x))) : w.ownsRow base e 1 v n ((zs.set j x).map (Value.int .i64)) := by
  rw [List.map_set]; exact h

theorem reads_news {g : Nat} {w : World} {b mc : Nat} {zs : List Int} (h : DrewRow g w (.slice (some ⟨b, 0, none⟩) zs.length mc) zs) (o : Obj) :
    ∀ j u, (zs.map (Value.int .i64))[j]? = some u → (w.alloc o).cell? ((⟨b, 0, none⟩ : Addr).add j) = some u := by
  intro j u hj
  have hjl : j < zs.length := by
    rcases Nat.lt_or_ge j zs.length with h | h
    · exact h
    · rw [List.getElem?_eq_none (by simpa using h)] at hj; cases hj
  rcases h.reads with ⟨h0, _⟩ | ⟨h0, b2, off, cap2, e, hc, hlt, hcell⟩
  · subst h0; exact absurd hjl (by simp)
  · injection e with e1 e2 e3
    injection e1 with e1
    injection e1 with e4 e5
    subst e4; subst e5
    rw [List.getElem?_map, Bw.nth_lt hjl] at hj
    injection hj with hj
    subst hj
    have ea : (⟨b, 0, none⟩ : Addr).add j = ⟨b, 0 + j, none⟩ := by
      by_cases hz : j = 0
      · subst hz; simp [Addr.add]
      · simp [Addr.add, hz]
    rw [ea]
    exact (World.grownBy_alloc w o none).cell (hcell j hjl) (by simp)

set_option maxRecDepth 100000 in
set_option maxHeartbeats 1000000 in
theorem law_FnCheckOf (w : World) (a : Option Addr) (n cap : Nat) (zs : List Int) (h : Bw.IsRow .u8 w a n cap zs) (a2 : Option Addr) (n2 cap2 : Nat) (zs2 : List Int) (h2 : Bw.IsRow .u8 w a2 n2 cap2 zs2) :
    Calls Try.prog 3 #[.slice a n cap, .slice a2 n2 cap2] w fun e w' => e = .returned (.bool true) ∧ Below w.heap.size w w' := by
  have hc := code_of_row h
  have hlen := h.len.2
  have hlen2 := h2.len.2
  have HC := Lib.hid hc
  clear h hc h2
  by_cases hbig : 1048576 < n
  · go_enter Try.func3, Try.ntmps3
    go_wp2_with fail
    go_ret
    exact ⟨rfl, Below.refl _ _⟩
  have hs : n ≤ 1048576 := by omega
  clear hbig
  by_cases hbig : 1048576 < n2
  · go_enter Try.func3, Try.ntmps3
    go_wp2_with fail
    go_ret
    exact ⟨rfl, Below.refl _ _⟩
  have hs2 : n2 ≤ 1048576 := by omega
  clear hbig
  go_enter Try.func3, Try.ntmps3
  go_wp2_with fail
  refine (DrawCheckOf_any a n cap _ HC.out).mono ?_
  rintro e w1 ⟨v, zs, p, g, rfl, hd, hb⟩
  have HB := Lib.hid hb
  clear hb
  obtain ⟨r, hr⟩ := Bw.checkIs_some zs p
  have HR := Lib.hid hr
  have HD := Lib.hid hd
  obtain ⟨hreads, hl17, hbd, b, mc, rfl, hbg⟩ := hd
  clear hbd hbg hreads
  by_cases hf : Bw.CheckFits zs p
  · obtain ⟨i0, hi, hz0, hz1, hz2⟩ := info_parts infoInt
    have hrv := hr.1 hf
    clear hr
    obtain ⟨q, rfl⟩ := Int.eq_ofNat_of_zero_le (show 0 ≤ p by have := hf.1; omega)
    rw [Int.toNat_natCast] at hrv
    obtain ⟨⟨hp2, hp511⟩, hl16, hab⟩ := hf
    have h0 : 2 ≤ q := by omega
    have h1 : q ≤ 511 := by omega
    have q0 : q ≠ 0 := by omega
    clear hp2 hp511
    have hlg := Bw.modulus_log h0 h1
    have hpw := Bw.modulus_pow h0 h1
    obtain ⟨he, _, _⟩ := Bw.modulus_dg h0 h1
    have hrlt := Bw.pmod_lt256 h0 h1 (Bw.val zs zs.length * 2 ^ q.log2)
    have HDG := Lib.hid (fun (w : World) => he ▸ spec_PolyDegree_yes q w (by omega))
    have HAB := Lib.hid hab
    clear hab he
    obtain ⟨R, hR⟩ : ∃ R, Bw.pmod (Bw.val zs zs.length * 2 ^ q.log2) q = R := ⟨_, rfl⟩
    rw [hR] at hrv hrlt
    subst hrv
    have hR0 : ((R : Int) < 0) = False := by simp
    have hnews := Lib.hid (reads_news HD.out (.cells #[] 3))
    obtain ⟨D, hD⟩ : ∃ D, q.log2 = D := ⟨_, rfl⟩
    rw [hD] at HDG hlg hpw hrlt
    obtain ⟨Q, hQ⟩ : ∃ Q, 2 ^ D = Q := ⟨_, rfl⟩
    rw [hQ] at hpw hrlt
    have hw : wrap64 (2 ^ D) = (Q : Int) := by rw [Bw.two_pow_cast, hQ, Bw.w64n (by omega)]
    have HQ := Lib.hid hQ
    have HDD := Lib.hid hD
    have HR0 := Lib.hid hR
    clear hQ hD hR
    obtain ⟨at_, hat, hatL⟩ := place_of n2 zs.length
    go_wp2_with (first | (go_at_call 6; ((with_reducible refine (impl_CheckOf_any _ zs q _ HD.out.reads _ HR).mono ?_); rintro e w' ⟨rfl, rfl⟩)) | (go_at_call 7; ((with_reducible refine (spec_CheckOf_any _ zs q _ HD.out.reads _ HR).mono ?_); rintro e w' ⟨rfl, rfl⟩)) | (go_at_call 9; ((with_reducible refine (HDG.out _).mono ?_); rintro e w' ⟨rfl, rfl⟩)) | (at_builtin; refine wpList_append_own _ rfl _ _ 23 rfl w1.heap.size 3 i0 (.int .i64 0) 1 8 Try.underlying23 hi hz0 hz1 hz2 rfl (by decide) _ 0 [] rfl (World.ownsRow_made w1 #[] 0 (Nat.le_refl _) (by unfold maxLen; omega) rfl) ⟨b, 0, none⟩ zs.length mc (zs.map (Value.int .i64)) rfl (by simp) hnews.out (ints_oneCell .i64 zs) (by unfold maxLen; omega) (by omega) (by simp) ?_))
    intro v2 w2 hown2 hgrow2 hnil2
    obtain ⟨ob, oc, rfl⟩ := own_some hown2 hnil2
    have hba := below_append HB.out HB.out.size hgrow2
    have B2 := Lib.hid hba.1
    have hb2 := hba.2
    clear hba
    have hob := (hown2.lt ob rfl).2
    have O2 := Lib.hid hown2
    obtain ⟨c, hc, hcQ⟩ := rest_of n2 37 Q (Nat.lt_of_lt_of_le Nat.zero_lt_two hpw.1)
    clear hown2 hgrow2 hnil2 hnews
    have HLG := Lib.hid hlg
    have HRLT := Lib.hid hrlt
    have hD8 : D ≤ 8 := hlg.2
    clear hlg hrlt
    by_cases hL0 : zs.length = 0
    · obtain rfl : zs = [] := List.eq_nil_of_length_eq_zero hL0
      obtain rfl : R = 0 := by
        rw [← HR0.out, List.length_nil, Bw.val, Nat.zero_mul]
        exact Bw.pmod_small q0 (Nat.two_pow_pos _)
      clear hat hL0
      go_wp2_with (at_make; refine wpList_make_full _ rfl _ _ 23 rfl w1.heap.size 3 i0 (.int .i64 0) 1 Try.underlying23 hi hz0 hz1 _ _ _ _ 0 rfl rfl rfl rfl (by omega) (by unfold maxLen; omega) hb2 ?_)
      intro w3 hown3 hgrow3
      have B3 := Lib.hid (B2.out.grown hgrow3 B2.out.size (fun k e => by cases e))
      have HA : Hid (∀ w : World, Calls Try.prog 10 #[.int .i64 0, .int .i64 0] w fun e w' => e = .returned (.int .i64 0) ∧ w = w') := fun w => impl_PolyAdd_yes 0 0 w (by omega) (by omega)
      have HI : Hid (∀ (b cap : Nat) (w : World), Calls Try.prog 6 #[.slice (some ⟨b, 0, none⟩) 0 cap, .int .i64 q] w fun e w' => e = .returned (.int .i64 0) ∧ w = w') := fun b cap w => impl_CheckOf_any _ [] q w (Bw.Reads.nil _ _ _) _ HR
      have hQ0 : 0 < Q := Nat.lt_of_lt_of_le Nat.zero_lt_two hpw.1
      clear hown3 hgrow3
      go_wp2_with fail
      refine wp_loop_rounds 1 ?_
      rw [rounds_succ]
      go_wp2_with (first | (go_at_call 6; ((with_reducible refine (HI.out _ _ _).mono ?_); rintro e w' ⟨rfl, rfl⟩)) | (go_at_call 10; ((with_reducible refine (HA.out _).mono ?_); rintro e w' ⟨rfl, rfl⟩)))
      all_goals
        go_ret
        exact ⟨rfl, B3.out⟩
    · have hLpos : 0 < zs.length := by omega
      obtain ⟨hat2, hat3⟩ := hat hL0
      clear hat hatL
      go_wp2_with (at_make; refine wpList_make_full _ rfl _ _ 23 rfl w1.heap.size 3 i0 (.int .i64 0) 1 Try.underlying23 hi hz0 hz1 _ _ _ _ zs.length rfl rfl rfl rfl (by rw [hz2]; omega) (by unfold maxLen; omega) hb2 ?_)
      intro w3 hown3 hgrow3
      go_wp2_with fail
      obtain ⟨M, hM⟩ := burst_of n2 Q (Nat.lt_of_lt_of_le Nat.zero_lt_two hpw.1) hpw.2
      rw [hM]
      have hne : ob ≠ w2.heap.size := Nat.ne_of_lt hob
      have O3 := Lib.hid (O2.out.kept hgrow3 (.inr (by intro e; cases e)))
      have C3 : Hid (w3.ownsRow w1.heap.size 3 1 (.slice (some ⟨w2.heap.size, 0, none⟩) zs.length zs.length) zs.length ((List.replicate zs.length (0 : Int)).map (Value.int .i64))) := by
        rw [← made_zero]; exact hown3
      have B3 := Lib.hid (B2.out.grown hgrow3 B2.out.size (fun k e => by cases e))
      clear hown3 hgrow3 hM
      obtain ⟨cb, hcb⟩ : ∃ cb, w2.heap.size = cb := ⟨_, rfl⟩
      rw [hcb] at hne C3
      rw [hcb]
      go_loopw [13, 14] (fun s i wr => ∃ (k : Nat) (os cs : List Int) (sm : Bool), i = .int .i64 k ∧ s = .bool sm ∧ k ≤ D ∧ at_ + k ≤ zs.length ∧ Hid (Bw.Burst zs os cs at_ k sm) ∧ Hid (wr.ownsRow w1.heap.size 3 1 (.slice (some ⟨ob, 0, none⟩) zs.length oc) zs.length (os.map (Value.int .i64))) ∧ Hid (wr.ownsRow w1.heap.size 3 1 (.slice (some ⟨cb, 0, none⟩) zs.length zs.length) zs.length (cs.map (Value.int .i64))) ∧ Hid (Below w.heap.size w wr)) (fun _ i _ => D - (intOf i).toNat)
      case atStart => exact ⟨0, zs, List.replicate zs.length 0, false, rfl, rfl, Nat.zero_le _, by omega, Lib.hid (Bw.Burst.start zs at_), O3, C3, B3⟩
      case round =>
        obtain ⟨k, os, cs, sm, rfl, rfl, hkD, hkL, hB, hO, hC, hBe⟩ := hrel
        by_cases hgo : k < D ∧ at_ + k < zs.length
        · obtain ⟨hk1, hk2⟩ := hgo
          by_cases ht : M / 2 ^ k % 2 = 1
          · have ht2 : ((((M : Int) / 2 ^ k).tmod 2) == 1) = true := by rw [Bw.bit_cast, ht]; rfl
            clear ht
            obtain ⟨x, hx⟩ : ∃ x, Bw.nth os (at_ + k) = x := ⟨_, rfl⟩
            have hx01 : 0 ≤ x ∧ x ≤ 1 := by
              have h1 := hB.out.bits (at_ + k) hk2
              have h2 := HAB.out (at_ + k) hk2
              rw [hx] at h1
              omega
            have hlo := hB.out.lo
            have hlc := hB.out.lc
            have cell1 : wr.cell? ⟨ob, at_ + k, none⟩ = some (.int .i64 x) := by
              rw [hO.out.cellAt (at_ + k) (by omega), List.getElem?_map, Bw.nth_lt (by omega), hx]; rfl
            have fz1 := hO.out.frozenAt (at_ + k)
            have hst := hO.out.stored (at_ + k) (.int .i64 (1 - x))
            have hc1 := hC.out.kept hst.2 (.inr (by show some cb ≠ some ob; intro e; injection e with e; exact hne e.symm))
            have fz2 := hc1.frozenAt (at_ + k)
            have cell2 := hc1.cellAt (at_ + k) (by omega)
            rw [List.getElem?_map, Bw.nth_lt (show at_ + k < cs.length by omega)] at cell2
            replace cell2 : _ = some (Value.int .i64 (Bw.nth cs (at_ + k))) := cell2
            have hst2 := hc1.stored (at_ + k) (.int .i64 1)
            have ho2 := hst.1.kept hst2.2 (.inr (by show some ob ≠ some cb; intro e; injection e with e; exact hne e))
            have HO2 := Lib.hid (set_map ho2)
            have HC2 := Lib.hid (set_map hst2.1)
            have hgo := own_ge hO.out ob rfl
            have hgc := own_ge hC.out cb rfl
            have h0w := HB.out.size
            have hb4 := hBe.out.grown hst.2 hBe.out.size (fun k e => by injection e with e; omega)
            have HBe := Lib.hid (hb4.grown hst2.2 hb4.size (fun k e => by injection e with e; omega))
            have HT := Lib.hid (hB.out.take hk2)
            rw [hx] at HT
            clear hst hst2 ho2 hc1 hb4 hO hC hB hBe hx hlo hlc hgo hgc h0w
            go_wp2
            go_roundw
            case rel => exact ⟨k + 1, _, _, true, by go_num, rfl, by omega, by omega, HT, HO2, HC2, HBe⟩
            case measure => simp [intOf]; omega
          · have ht2 : ((((M : Int) / 2 ^ k).tmod 2) == 1) = false := by rw [Bw.bit_cast, beq_eq_false_iff_ne]; omega
            clear ht
            have HT := Lib.hid hB.out.skip
            go_wp2
            go_roundw
            case rel => exact ⟨k + 1, os, cs, sm, by go_num, rfl, by omega, by omega, HT, hO, hC, hBe⟩
            case measure => simp [intOf]; omega
        · have hlo := hB.out.lo
          have hlc := hB.out.lc
          have hbits := hB.out.allBits HAB.out
          have hsum := hB.out.sum HAB.out q0
          rw [HR0.out] at hsum
          obtain ⟨C, hCe⟩ : ∃ C, Bw.pmod (Bw.val cs zs.length * 2 ^ q.log2) q = C := ⟨_, rfl⟩
          obtain ⟨X, hXe⟩ : ∃ X, Bw.pmod (Bw.val os zs.length * 2 ^ q.log2) q = X := ⟨_, rfl⟩
          have hC256 : C < 256 := hCe ▸ (Bw.pmod_lt256 h0 h1 _).2
          have HRo : Hid (Bw.CheckIs os q (X : Int)) := Lib.hid ⟨fun _ => by rw [Int.toNat_natCast, hlo, hXe], fun h => absurd ⟨⟨by omega, by omega⟩, by omega, hbits.1⟩ h⟩
          have HRc : Hid (Bw.CheckIs cs q (C : Int)) := Lib.hid ⟨fun _ => by rw [Int.toNat_natCast, hlc, hCe], fun h => absurd ⟨⟨by omega, by omega⟩, by omega, hbits.2⟩ h⟩
          rw [hXe, hCe] at hsum
          have hrest : sm = true → q % 2 = 1 → X ≠ R := fun hs hp e => by
            have h1 := hB.out.rest hs hp q0 (by rw [HDD.out]; exact hkD) hkL
            rw [hCe] at h1
            rw [e] at hsum
            have h2 := Bw.xor_cancel C R
            rw [Nat.xor_comm C R, ← hsum, Nat.xor_self] at h2
            exact h1 h2.symm
          have HOr := Lib.hid (Bw.Reads.of_owns hO.out).1
          have HCr := Lib.hid (Bw.Reads.of_owns hC.out).1
          have HA := Lib.hid (fun w : World => hsum ▸ impl_PolyAdd_yes R C w (by have := HRLT.out.2; omega) (by omega))
          have HREST := Lib.hid hrest
          have hRQ : decide (R < Q) = true := decide_eq_true HRLT.out.1
          have HGO := Lib.hid hgo
          clear hsum hrest hlo hlc hbits hCe hXe hB hO hC hgo
          by_cases hk1 : k < D
          · have hk2 : ¬ at_ + k < zs.length := fun h => HGO.out ⟨hk1, h⟩
            cases sm
            · go_wp2_with (first | (go_at_call 6; ((with_reducible refine (impl_CheckOf_any _ os q _ HOr.out _ HRo).mono ?_); rintro e w' ⟨rfl, rfl⟩)) | (go_at_call 6; ((with_reducible refine (impl_CheckOf_any _ cs q _ HCr.out _ HRc).mono ?_); rintro e w' ⟨rfl, rfl⟩)) | (go_at_call 10; ((with_reducible refine (HA.out _).mono ?_); rintro e w' ⟨rfl, rfl⟩)))
              go_ret
              exact ⟨rfl, hBe.out⟩
            · by_cases hq : q % 2 = 1
              · have hxr := HREST.out rfl hq
                have hxr2 : ((X : Int) != (R : Int)) = true := by rw [bne_iff_ne]; omega
                clear hxr
                go_wp2_with (first | (go_at_call 6; ((with_reducible refine (impl_CheckOf_any _ os q _ HOr.out _ HRo).mono ?_); rintro e w' ⟨rfl, rfl⟩)) | (go_at_call 6; ((with_reducible refine (impl_CheckOf_any _ cs q _ HCr.out _ HRc).mono ?_); rintro e w' ⟨rfl, rfl⟩)) | (go_at_call 10; ((with_reducible refine (HA.out _).mono ?_); rintro e w' ⟨rfl, rfl⟩)))
                go_ret
                exact ⟨ret_bool (by simp), hBe.out⟩
              · have hq0 : q % 2 = 0 := by omega
                clear hq
                go_wp2_with (first | (go_at_call 6; ((with_reducible refine (impl_CheckOf_any _ os q _ HOr.out _ HRo).mono ?_); rintro e w' ⟨rfl, rfl⟩)) | (go_at_call 6; ((with_reducible refine (impl_CheckOf_any _ cs q _ HCr.out _ HRc).mono ?_); rintro e w' ⟨rfl, rfl⟩)) | (go_at_call 10; ((with_reducible refine (HA.out _).mono ?_); rintro e w' ⟨rfl, rfl⟩)))
                go_ret
                exact ⟨ret_bool (by simp), hBe.out⟩
          · cases sm
            · go_wp2_with (first | (go_at_call 6; ((with_reducible refine (impl_CheckOf_any _ os q _ HOr.out _ HRo).mono ?_); rintro e w' ⟨rfl, rfl⟩)) | (go_at_call 6; ((with_reducible refine (impl_CheckOf_any _ cs q _ HCr.out _ HRc).mono ?_); rintro e w' ⟨rfl, rfl⟩)) | (go_at_call 10; ((with_reducible refine (HA.out _).mono ?_); rintro e w' ⟨rfl, rfl⟩)))
              go_ret
              exact ⟨rfl, hBe.out⟩
            · by_cases hq : q % 2 = 1
              · have hxr := HREST.out rfl hq
                have hxr2 : ((X : Int) != (R : Int)) = true := by rw [bne_iff_ne]; omega
                clear hxr
                go_wp2_with (first | (go_at_call 6; ((with_reducible refine (impl_CheckOf_any _ os q _ HOr.out _ HRo).mono ?_); rintro e w' ⟨rfl, rfl⟩)) | (go_at_call 6; ((with_reducible refine (impl_CheckOf_any _ cs q _ HCr.out _ HRc).mono ?_); rintro e w' ⟨rfl, rfl⟩)) | (go_at_call 10; ((with_reducible refine (HA.out _).mono ?_); rintro e w' ⟨rfl, rfl⟩)))
                go_ret
                exact ⟨ret_bool (by simp), hBe.out⟩
              · have hq0 : q % 2 = 0 := by omega
                clear hq
                go_wp2_with (first | (go_at_call 6; ((with_reducible refine (impl_CheckOf_any _ os q _ HOr.out _ HRo).mono ?_); rintro e w' ⟨rfl, rfl⟩)) | (go_at_call 6; ((with_reducible refine (impl_CheckOf_any _ cs q _ HCr.out _ HRc).mono ?_); rintro e w' ⟨rfl, rfl⟩)) | (go_at_call 10; ((with_reducible refine (HA.out _).mono ?_); rintro e w' ⟨rfl, rfl⟩)))
                go_ret
                exact ⟨ret_bool (by simp), hBe.out⟩
  · obtain rfl : r = -1 := hr.2 hf
    clear hr hf
    go_wp2_with (first | (go_at_call 6; ((with_reducible refine (impl_CheckOf_any _ zs p _ HD.out.reads _ HR).mono ?_); rintro e w' ⟨rfl, rfl⟩)) | (go_at_call 7; ((with_reducible refine (spec_CheckOf_any _ zs p _ HD.out.reads _ HR).mono ?_); rintro e w' ⟨rfl, rfl⟩)))
    refine (alive_any _).mono ?_
    rintro e w2 ⟨rfl, hb2⟩
    have HB2 := Lib.hid hb2
    clear hb2
    go_wp2_with fail
    go_ret
    exact ⟨rfl, HB.out.trans (HB2.out.mono HB.out.size)⟩

end Go.Proofs.Ytmhgipnmojcjaaa
