/- The walks of the laws that hold Gather and Scatter against the reference. -/
import Derived.Test.YtbknmokoegembaaDoorGatC

namespace Go.Proofs.YtbknmokoegembaaDoor
open Go.RowKit
set_option linter.unusedVariables false

theorem words_nat {n x m : Int} (hx : WordOk n x) (hm : WordOk n m) : ∃ n' x' m' : Nat, n = n' ∧ x = x' ∧ m = m' := by
  obtain ⟨n', rfl⟩ := Int.eq_ofNat_of_zero_le (show 0 ≤ n by have := hx.1; omega)
  obtain ⟨x', rfl⟩ := Int.eq_ofNat_of_zero_le hx.2.1
  obtain ⟨m', rfl⟩ := Int.eq_ofNat_of_zero_le hm.2.1
  exact ⟨n', x', m', rfl, rfl, rfl⟩

theorem not_two {n x m : Int} (h : ¬ (WordOk n x ∧ WordOk n m)) : Hid (¬ WordOk n x ∨ (WordOk n x ∧ ¬ WordOk n m)) := by
  by_cases hx : WordOk n x
  · exact .inr ⟨hx, fun hm => h ⟨hx, hm⟩⟩
  · exact .inl hx

theorem law_FnExactGather (n : Int) (_ : (Lit.int .i64 n).wf = true) (x : Int) (_ : (Lit.int .i64 x).wf = true) (m : Int) (_ : (Lit.int .i64 m).wf = true) (w : World) (hT : TabLies w) :
    Calls Tryd.prog 6 #[.int .i64 n, .int .i64 x, .int .i64 m] w fun e w' => e = .returned (.bool true) ∧ Below w.heap.size w w' := by
  have HT := Lib.hid hT
  clear hT
  by_cases h : WordOk n x ∧ WordOk n m
  · obtain ⟨n, x, m, rfl, rfl, rfl⟩ := words_nat h.1 h.2
    have hx := Lib.hid h.1
    have hm := Lib.hid h.2
    clear h
    go_enter Tryd.func6, Tryd.ntmps6
    go_wp2_with fail
    (with_reducible refine (spec_Gather_yes n x m _ hx hm).mono ?_)
    rintro e w1 ⟨rfl, hb⟩
    have HB := Lib.hid hb
    have HT1 := Lib.hid (HT.out.below hb)
    clear hb
    go_wp2_with fail
    (with_reducible refine (impl_Gather_yes n x m _ hx hm HT1).mono ?_)
    rintro e w2 ⟨rfl, hb⟩
    have HB := Lib.hid (HB.out.trans (hb.mono HB.out.size))
    clear hb
    go_wp2_with fail
    go_ret
    exact ⟨rfl, HB.out⟩
  · have hno := not_two h
    clear h
    go_enter Tryd.func6, Tryd.ntmps6
    go_wp2_with fail
    (with_reducible refine (spec_Gather_no n x m _ hno).mono ?_)
    rintro e w1 ⟨rfl, hb⟩
    have HB := Lib.hid hb
    clear hb
    go_wp2_with fail
    (with_reducible refine (impl_Gather_no n x m _ hno).mono ?_)
    rintro e w2 ⟨rfl, hb⟩
    have HB := Lib.hid (HB.out.trans (hb.mono HB.out.size))
    clear hb
    go_wp2_with fail
    go_ret
    exact ⟨rfl, HB.out⟩

theorem law_FnExactScatter (n : Int) (_ : (Lit.int .i64 n).wf = true) (x : Int) (_ : (Lit.int .i64 x).wf = true) (m : Int) (_ : (Lit.int .i64 m).wf = true) (w : World) (hT : TabLies w) :
    Calls Tryd.prog 7 #[.int .i64 n, .int .i64 x, .int .i64 m] w fun e w' => e = .returned (.bool true) ∧ Below w.heap.size w w' := by
  have HT := Lib.hid hT
  clear hT
  by_cases h : WordOk n x ∧ WordOk n m
  · obtain ⟨n, x, m, rfl, rfl, rfl⟩ := words_nat h.1 h.2
    have hx := Lib.hid h.1
    have hm := Lib.hid h.2
    clear h
    go_enter Tryd.func7, Tryd.ntmps7
    go_wp2_with fail
    (with_reducible refine (spec_Scatter_yes n x m _ hx hm).mono ?_)
    rintro e w1 ⟨rfl, hb⟩
    have HB := Lib.hid hb
    have HT1 := Lib.hid (HT.out.below hb)
    clear hb
    go_wp2_with fail
    (with_reducible refine (impl_Scatter_yes n x m _ hx hm HT1).mono ?_)
    rintro e w2 ⟨rfl, hb⟩
    have HB := Lib.hid (HB.out.trans (hb.mono HB.out.size))
    clear hb
    go_wp2_with fail
    go_ret
    exact ⟨rfl, HB.out⟩
  · have hno := not_two h
    clear h
    go_enter Tryd.func7, Tryd.ntmps7
    go_wp2_with fail
    (with_reducible refine (spec_Scatter_no n x m _ hno).mono ?_)
    rintro e w1 ⟨rfl, hb⟩
    have HB := Lib.hid hb
    clear hb
    go_wp2_with fail
    (with_reducible refine (impl_Scatter_no n x m _ hno).mono ?_)
    rintro e w2 ⟨rfl, hb⟩
    have HB := Lib.hid (HB.out.trans (hb.mono HB.out.size))
    clear hb
    go_wp2_with fail
    go_ret
    exact ⟨rfl, HB.out⟩

end Go.Proofs.YtbknmokoegembaaDoor
