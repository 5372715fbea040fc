/- Contracts: how many bits are 1, all words with as many. -/
import Derived.Test.YtknchojfhpchiabMFnE
import Derived.Test.YtknchojfhpchiabOwn

namespace Bw
open Go Go.RowKit

/-- the words below m with so many ones -/
def flt (o m : Nat) : List Int := ((List.range m).filter fun x => pc x 12 == o).map fun x : Nat => (x : Int)

theorem flt_yes {o m : Nat} (h : pc m 12 = o) : flt o (m + 1) = flt o m ++ [(m : Int)] := by
  unfold flt; rw [List.range_succ, List.filter_append, List.map_append]; simp [h]

theorem flt_no {o m : Nat} (h : pc m 12 ≠ o) : flt o (m + 1) = flt o m := by
  unfold flt; rw [List.range_succ, List.filter_append, List.map_append]; simp [h]

theorem flt_len (o : Nat) : ∀ m, (flt o m).length ≤ m
  | 0 => by simp [flt]
  | m + 1 => by
    have ih := flt_len o m
    by_cases h : pc m 12 = o
    · rw [flt_yes h]; simp; omega
    · rw [flt_no h]; omega

theorem flt_last {o y : Nat} (hy : pc y 12 = o) : ∀ m, y < m → (∀ x, y < x → x < m → pc x 12 ≠ o) → flt o m = flt o y ++ [(y : Int)]
  | 0, h, _ => absurd h (by omega)
  | m + 1, h, hx => by
    by_cases e : y = m
    · subst e; exact flt_yes hy
    · rw [flt_no (hx m (by omega) (by omega))]
      exact flt_last hy m (by omega) (fun x h1 h2 => hx x h1 (by omega))

end Bw

namespace Go.Proofs.Ytknchojfhpchiab
open Go.RowKit
set_option linter.unusedVariables false

theorem impl_OnesOf_yes (n x : Nat) (w : World) (hx : Hid (WordOk n x)) :
    Calls Try.prog 20 #[.int .i64 n, .int .i64 x] w fun e w' => e = .returned (.int .i64 ((Bw.pc x n : Nat) : Int)) ∧ w = w' := by
  have x1 := word_bd hx.out
  have hw := hx.out.1
  have hn : n ≤ 12 := by omega
  have hc := Bw.wrap_u64_small x (by omega)
  have hlt : x < 2 ^ n := by have := hx.out.2.2; rw [Int.toNat_natCast] at this; omega
  have hpc := Bw.pc_more hlt (12 - n)
  rw [Nat.add_sub_cancel' hn] at hpc
  have HC := Lib.hid (fun w : World => hpc ▸ OnesCount_any x w (by omega))
  obtain ⟨o, ho⟩ : ∃ o, Bw.pc x n = o := ⟨_, rfl⟩
  rw [ho] at HC ⊢
  clear hlt hpc ho hn
  go_enter Try.func20, Try.ntmps20
  go_wp2_with (first | (go_at_call 51; ((with_reducible refine (impl_WordValid_yes n x _ hx).mono ?_); rintro e w' ⟨rfl, rfl⟩)) | (go_at_call 38; ((with_reducible refine (HC.out _).mono ?_); rintro e w' ⟨rfl, rfl⟩)))
  go_ret
  exact ⟨rfl, rfl⟩

theorem impl_OnesOf_no (n x : Int) (w : World) (hx : Hid (¬ WordOk n x)) :
    Calls Try.prog 20 #[.int .i64 n, .int .i64 x] w fun e w' => e = .returned (.int .i64 (-1)) ∧ w = w' := by
  go_enter Try.func20, Try.ntmps20
  go_wp2_with (go_at_call 51; ((with_reducible refine (impl_WordValid_no n x _ hx).mono ?_); rintro e w' ⟨rfl, rfl⟩))
  go_ret
  exact ⟨rfl, rfl⟩

set_option maxHeartbeats 1000000 in
theorem impl_AllSame_yes (n o : Nat) (w : World) (h0 : 1 ≤ n) (h1 : n ≤ 12) (ho : o ≤ n) :
    Calls Try.prog 19 #[.int .i64 n, .int .i64 o] w fun e w' => ∃ r, e = .returned r ∧ Bw.Own 3 w.heap.size w' r (Bw.flt o (2 ^ n)) ∧ Below w.heap.size w w' := by
  obtain ⟨i0, hi, hz0, hz1, hz2⟩ := info_parts infoInt
  have hb := wbd h1
  have HP := Lib.hid (fun w : World => wpower_any n w (by omega))
  obtain ⟨q, hq⟩ : ∃ q, 2 ^ n = q := ⟨_, rfl⟩
  rw [hq] at hb HP ⊢
  clear hq
  go_enter Try.func19, Try.ntmps19
  go_wp2_with (first | (go_at_call 49; ((with_reducible refine (isWidth_yes _ _ (by omega) (by omega)).mono ?_); rintro e w' ⟨rfl, rfl⟩)) | (go_at_call 50; ((with_reducible refine (within_yes _ _ _ _ (by omega) (by omega)).mono ?_); rintro e w' ⟨rfl, rfl⟩)) | (go_at_call 39; ((with_reducible refine (HP.out _).mono ?_); rintro e w' ⟨rfl, rfl⟩)))
  go_loopw [5, 18] (fun u i wr => ∃ k : Nat, i = .int .i64 k ∧ k ≤ q ∧ Hid (Bw.Own 3 w.heap.size wr u (Bw.flt o k)) ∧ Hid (Below w.heap.size w wr)) (fun _ i _ => q - (intOf i).toNat)
  case atStart => exact ⟨0, rfl, by omega, Bw.own_none _ _ _, Lib.hid (Below.refl _ _)⟩
  case round =>
    obtain ⟨k, rfl, hk, hown, hbe⟩ := hrel
    by_cases hl : k < q
    · have hc := Bw.wrap_u64_small k (by omega)
      have HO := Lib.hid (fun w : World => OnesCount_any k w (by omega))
      obtain ⟨c, hcc⟩ : ∃ c, Bw.pc k 12 = c := ⟨_, rfl⟩
      rw [hcc] at HO
      have HC := Lib.hid hcc
      clear hcc
      by_cases hco : c = o
      · subst hco
        have hlen := Bw.flt_len c k
        have HF := Lib.hid (Bw.flt_yes HC.out)
        obtain ⟨zs, hzs⟩ : ∃ zs, Bw.flt c k = zs := ⟨_, rfl⟩
        rw [hzs] at hlen hown HF
        have hsz := hbe.out.size
        have hrow := (Bw.Own.row hown.out).alloc (.cells #[.int .i64 (k : Int)] 3)
        clear hzs
        go_wp2_with (first | (go_at_call 38; ((with_reducible refine (HO.out _).mono ?_); rintro e w' ⟨rfl, rfl⟩)) | (at_builtin; refine wpList_append_own _ rfl _ _ 33 rfl w.heap.size 3 i0 (.int .i64 0) 1 8 Try.underlying33 hi hz0 hz1 hz2 rfl (by decide) _ zs.length _ rfl hrow ⟨wr.heap.size, 0, none⟩ 1 1 [.int .i64 (k : Int)] rfl rfl (cell_one_new _ _ _) (ints_oneCell .i64 [(k : Int)]) (by unfold maxLen; omega) (by omega) (by simp; omega) ?_))
        intro u' w3 hown3 hgrow hnil
        have HO3 : Hid (Bw.Own 3 w.heap.size w3 u' (zs ++ [(k : Int)])) := Bw.own_snoc hown3
        have HB3 : Hid (Below w.heap.size w w3) := (hbe.out.alloc hsz _).grown hgrow (by simp; omega) (fun k e => (hrow.lt k e).1)
        clear hown3 hgrow hnil hrow
        go_wp2_with fail
        go_roundw
        case rel => exact ⟨k + 1, by go_num, by omega, by rw [HF.out]; exact HO3, HB3⟩
        case measure => simp [intOf]; omega
      · have ht : ((c : Int) == (o : Int)) = false := by rw [beq_eq_false_iff_ne]; omega
        have HF := Lib.hid (Bw.flt_no (m := k) (o := o) (by rw [HC.out]; exact hco))
        go_wp2_with (go_at_call 38; ((with_reducible refine (HO.out _).mono ?_); rintro e w' ⟨rfl, rfl⟩))
        go_roundw
        case rel => exact ⟨k + 1, by go_num, by omega, by rw [HF.out]; exact hown, hbe⟩
        case measure => simp [intOf]; omega
    · obtain rfl : k = q := by omega
      go_wp2_with fail
      go_ret
      exact ⟨_, rfl, hown.out, hbe.out⟩

end Go.Proofs.Ytknchojfhpchiab
