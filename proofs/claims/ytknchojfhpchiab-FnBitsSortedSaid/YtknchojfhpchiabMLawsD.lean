/- The walk of the law on sorted bits. -/
import Derived.Test.YtknchojfhpchiabMDrawA
import Derived.Test.YtknchojfhpchiabMFnF
import Derived.Test.YtknchojfhpchiabMFnG

namespace Bw
open Go Go.RowKit

/-- the last of the words with as many ones -/
theorem all_last {n x : Nat} (hn : n ≤ 12) (hx : x < 2 ^ n) : flt (pc x n) (2 ^ n) = flt (pc x n) (greatestOf n (pc x n)) ++ [((greatestOf n (pc x n) : Nat) : Int)] := by
  have hg := greatest_ge hn hx
  have hl := greatestOf_lt (pc_le x n)
  have more : ∀ y, y < 2 ^ n → pc y 12 = pc y n := fun y hy => by
    have := pc_more hy (12 - n)
    rwa [Nat.add_sub_cancel' hn] at this
  refine flt_last (by rw [more _ hl, hg.2]) _ hl fun y h1 h2 e => ?_
  rw [more y h2] at e
  have := (greatest_ge hn h2).1
  rw [e] at this
  omega

end Bw

namespace Go.Proofs.Ytknchojfhpchiab
open Go.RowKit
set_option linter.unusedVariables false

set_option maxRecDepth 100000 in
set_option maxHeartbeats 1000000 in
theorem law_FnBitsSorted (w : World) (a : Option Addr) (n cap : Nat) (zs : List Int) (h : Bw.IsRow .u8 w a n cap zs) :
    Calls Try.prog 6 #[.slice a n cap] w fun e w' => e = .returned (.bool true) ∧ Below w.heap.size w w' := by
  have hc := code_of_row h
  have hlen := h.len.2
  have HC := Lib.hid hc
  clear h hc
  by_cases hbig : 1048576 < n
  · go_enter Try.func6, Try.ntmps6
    go_wp2_with fail
    go_ret
    exact ⟨rfl, Below.refl _ _⟩
  have hs : n ≤ 1048576 := by omega
  clear hbig
  go_enter Try.func6, Try.ntmps6
  go_wp2_with fail
  refine (DrawBitsSorted_any a n cap _ HC.out).mono ?_
  rintro e w1 ⟨d, x, rfl, hP, hb⟩
  have HB := Lib.hid hb
  clear hb hP
  by_cases h : WordOk d x
  · have hx : Hid (WordOk d x) := h
    obtain ⟨d, x, rfl, rfl⟩ := word_nat h
    have hd0 := h.1.1
    have hd1 : d ≤ 12 := by have := h.1.2; omega
    have hlt : x < 2 ^ d := by have := h.2.2; rw [Int.toNat_natCast] at this; omega
    have hs := Bw.srounds_eq hd1 hlt
    have HS := Lib.hid (fun w : World => hs ▸ spec_BitsSorted_yes d x w hx)
    have HI := Lib.hid (fun w : World => impl_BitsSorted_yes d x w hx)
    have HO := Lib.hid (fun w : World => impl_OnesOf_yes d x w hx)
    have hle := Bw.pc_le x d
    have HA := Lib.hid (fun w : World => impl_AllSame_yes d (Bw.pc x d) w (by omega) hd1 hle)
    have hlast := Bw.all_last hd1 hlt
    have hgl := Bw.greatestOf_lt hle
    have hb12 := wbd hd1
    have hg2 := (Bw.greatest_ge hd1 hlt).2
    have hyok : WordOk (d : Int) ((Bw.greatestOf d (Bw.pc x d) : Nat) : Int) := ⟨h.1, Int.natCast_nonneg _, by rw [Int.toNat_natCast]; exact Int.ofNat_lt.2 hgl⟩
    have HY := Lib.hid (fun w : World => hg2 ▸ impl_BitsSorted_yes d _ w hyok)
    obtain ⟨o, ho⟩ : ∃ o, Bw.pc x d = o := ⟨_, rfl⟩
    rw [ho] at HS HI HO HA hlast HY hgl
    obtain ⟨y, hy⟩ : ∃ y, Bw.greatestOf d o = y := ⟨_, rfl⟩
    rw [hy] at HS HI hlast HY hgl
    rw [hlast] at HA
    have hflen := Bw.flt_len o y
    obtain ⟨zs, hzs⟩ : ∃ zs, Bw.flt o y = zs := ⟨_, rfl⟩
    rw [hzs] at HA hflen
    have hy4 : y < 4096 := by omega
    have hz4 : zs.length < 4096 := by omega
    have hY0 : ((y : Int) < 0) = False := by simp
    clear h hs hle hlast hg2 hyok ho hy hzs hlt hgl hb12 hflen
    go_wp2_with (first | (go_at_call 11; ((with_reducible refine (HS.out _).mono ?_); rintro e w' ⟨rfl, rfl⟩)) | (go_at_call 12; ((with_reducible refine (HI.out _).mono ?_); rintro e w' ⟨rfl, hb⟩)) | (go_at_call 20; ((with_reducible refine (HO.out _).mono ?_); rintro e w' ⟨rfl, rfl⟩)))
    have HB := Lib.hid (HB.out.trans (hb.mono HB.out.size))
    clear hb
    (with_reducible refine (HA.out _).mono ?_)
    rintro e w2 ⟨r, rfl, hown, hb⟩
    have HB := Lib.hid (HB.out.trans (hb.mono HB.out.size))
    clear hb
    obtain ⟨b, cap, rfl, _, _⟩ := hown.some (by simp)
    have hc := hown.cellAt zs.length (by simp)
    rw [List.getElem?_map, List.getElem?_append_right (Nat.le_refl _)] at hc
    simp only [Nat.sub_self, List.getElem?_cons_zero, Option.map_some] at hc
    have hlen : (zs ++ [(y : Int)]).length = zs.length + 1 := by simp
    rw [hlen]
    obtain ⟨l, hl⟩ : ∃ l, zs.length = l := ⟨_, rfl⟩
    rw [hl] at hz4 hc ⊢
    clear hlen hl hown
    go_wp2_with fail
    (with_reducible refine (HY.out _).mono ?_)
    rintro e w3 ⟨rfl, hb⟩
    have HB := Lib.hid (HB.out.trans (hb.mono HB.out.size))
    clear hb
    go_wp2_with fail
    go_ret
    exact ⟨ret_bool (by simp), HB.out⟩
  · have hx : Hid (¬ WordOk d x) := h
    clear h
    go_wp2_with (first | (go_at_call 11; ((with_reducible refine (spec_BitsSorted_no d x _ hx).mono ?_); rintro e w' ⟨rfl, rfl⟩)) | (go_at_call 12; ((with_reducible refine (impl_BitsSorted_no d x _ hx).mono ?_); rintro e w' ⟨rfl, hb⟩)))
    have HB := Lib.hid (HB.out.trans (hb.mono HB.out.size))
    clear hb
    refine (alive_any _).mono ?_
    rintro e w2 ⟨rfl, hb2⟩
    have HB2 := Lib.hid hb2
    clear hb2
    go_wp2_with fail
    go_ret
    exact ⟨rfl, HB.out.trans (HB2.out.mono HB.out.size)⟩

end Go.Proofs.Ytknchojfhpchiab
