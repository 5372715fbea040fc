/- Contracts: moved bits, orders one after the other, orders back. -/
import Derived.Test.YtbknmokoegembacDoorFnOrdA
import Derived.Test.YtbknmokoegembacDoorOwn
import Derived.Test.YtbknmokoegembacDoorMFnA

namespace Bw
open Go Go.RowKit

theorem mv_ori {zs : List Int} (h : OrderOk zs) (x : Nat) {k : Nat} (hk : k < zs.length) : bits .or .i64 (mv x zs k : Int) (wrap64 (bt x k * 2 ^ pl zs k)) = (mv x zs (k + 1) : Int) := by
  have h1 := mv_or h x hk
  have h2 := mv_lt h x (show k ≤ zs.length by omega)
  have h4 : 2 ^ zs.length ≤ 2 ^ 12 := Nat.pow_le_pow_right (by omega) h.1.2
  have h5 : 2 ^ pl zs k ≤ 2 ^ 12 := Nat.pow_le_pow_right (by omega) (by have := h.pl_lt hk; have := h.1.2; omega)
  have h6 : x / 2 ^ k % 2 * 2 ^ pl zs k ≤ 1 * 2 ^ pl zs k := Nat.mul_le_mul_right _ (by omega)
  have e : bt x k * 2 ^ pl zs k = ((x / 2 ^ k % 2 * 2 ^ pl zs k : Nat) : Int) := by
    unfold bt; rw [two_pow_cast, ← Int.natCast_mul]
  rw [e, w64n (by omega), i64_or _ _ (by omega) (by omega), h1]

theorem mv_addi {zs : List Int} (h : OrderOk zs) (x : Nat) {k : Nat} (hk : k < zs.length) : wrap64 ((mv x zs k : Int) + wrap64 (bt x k * 2 ^ pl zs k)) = (mv x zs (k + 1) : Int) := by
  have h2 := mv_lt h x (show k ≤ zs.length by omega)
  have h4 : 2 ^ zs.length ≤ 2 ^ 12 := Nat.pow_le_pow_right (by omega) h.1.2
  have h5 : 2 ^ pl zs k ≤ 2 ^ 12 := Nat.pow_le_pow_right (by omega) (by have := h.pl_lt hk; have := h.1.2; omega)
  have h6 : x / 2 ^ k % 2 * 2 ^ pl zs k ≤ 1 * 2 ^ pl zs k := Nat.mul_le_mul_right _ (by omega)
  have e : bt x k * 2 ^ pl zs k = ((x / 2 ^ k % 2 * 2 ^ pl zs k : Nat) : Int) := by
    unfold bt; rw [two_pow_cast, ← Int.natCast_mul]
  rw [e, w64n (by omega), mv_succ, w64 (by omega)]
  omega

end Bw

namespace Go.Proofs.YtbknmokoegembacDoor
open Go.RowKit Go.Maps
set_option linter.unusedVariables false

set_option maxHeartbeats 400000 in
theorem impl_BitsMoved_some (x : Nat) (v : Value) (zs : List Int) (w : World) (hv : Hid (Bw.Reads w v zs)) (hx : Hid (WordOk (zs.length : Int) x)) (ho : Hid (Bw.OrderOk zs)) :
    Calls Tryd.prog 26 #[.int .i64 x, v] w fun e w' => e = .returned (.int .i64 ((Bw.mv x zs zs.length : Nat) : Int)) ∧ Below w.heap.size w w' := by
  have hn := ho.out.1
  have x1 := word_bd hx.out
  rcases hv.out with ⟨h0, _⟩ | ⟨h0, b, off, cap, rfl, hc, hlt, hcell⟩
  · subst h0; exact absurd hn.1 (by simp)
  have HC := Lib.hid hcell
  clear hcell
  go_enter Tryd.func26, Tryd.ntmps26
  go_wp2_with fail
  (with_reducible refine (isOrder_yes _ zs _ hv.out ho).mono ?_)
  rintro e w1 ⟨rfl, hb⟩
  have HB := Lib.hid hb
  clear hb
  go_wp2_with (go_at_call 12; ((with_reducible refine (impl_WordValid_yes _ x _ hx).mono ?_); rintro e w' ⟨rfl, rfl⟩))
  go_loop [5, 20] (fun t i => ∃ k : Nat, k ≤ zs.length ∧ i = .int .i64 k ∧ t = .int .i64 ((Bw.mv x zs k : Nat) : Int)) (fun _ i => zs.length - (intOf i).toNat)
  case atStart => exact ⟨0, by omega, rfl, rfl⟩
  case round =>
    obtain ⟨k, hk, rfl, rfl⟩ := hrel
    by_cases hl : k < zs.length
    · have hcell : w1.cell? ⟨b, off + k, none⟩ = some (.int .i64 (Bw.pl zs k)) := by
        rw [(HB.out.cell (p := ⟨b, off + k, none⟩) hlt), HC.out k hl, ho.out.pl_cast hl]
      have HM := Lib.hid (Bw.mv_ori ho.out x hl)
      have hp := ho.out.pl_lt hl
      obtain ⟨p, hpp⟩ : ∃ p, Bw.pl zs k = p := ⟨_, rfl⟩
      rw [hpp] at hcell HM hp
      clear hpp
      go_wp2_with (go_at_call 49; ((with_reducible refine (mbit_any x k _ (by omega) (by omega)).mono ?_); rintro e w' ⟨rfl, rfl⟩))
      go_round
      case rel => exact ⟨k + 1, by omega, by go_num, by rw [HM.out]⟩
      case measure => simp [intOf]; omega
    · obtain rfl : k = zs.length := by omega
      go_wp2_with fail
      go_ret
      exact ⟨rfl, HB.out⟩

/-- moved, or not: what both answer -/
def MovedIs (x : Int) (zs : List Int) (r : Int) : Prop :=
  (Bw.OrderOk zs ∧ WordOk (zs.length : Int) x → r = ((Bw.mv x.toNat zs zs.length : Nat) : Int)) ∧ (¬ (Bw.OrderOk zs ∧ WordOk (zs.length : Int) x) → r = -1)

theorem movedIs_some (x : Int) (zs : List Int) : ∃ r, MovedIs x zs r := by
  by_cases h : Bw.OrderOk zs ∧ WordOk (zs.length : Int) x
  · exact ⟨_, fun _ => rfl, fun h2 => absurd h h2⟩
  · exact ⟨-1, fun h2 => absurd h2 h, fun _ => rfl⟩

theorem impl_BitsMoved_any (x : Int) (v : Value) (zs : List Int) (w : World) (hv : Bw.Reads w v zs) (hn : zs.length ≤ 1048576) (r : Int) (hr : Hid (MovedIs x zs r)) :
    Calls Tryd.prog 26 #[.int .i64 x, v] w fun e w' => e = .returned (.int .i64 r) ∧ Below w.heap.size w w' := by
  have HV := Lib.hid hv
  clear hv
  by_cases ho : Bw.OrderOk zs
  · by_cases hx : WordOk (zs.length : Int) x
    · obtain ⟨x, rfl⟩ := Int.eq_ofNat_of_zero_le hx.2.1
      obtain rfl := hr.out.1 ⟨ho, hx⟩
      exact impl_BitsMoved_some x v zs w HV hx ho
    · obtain rfl : r = -1 := hr.out.2 (fun h => hx h.2)
      have HO := Lib.hid ho
      have HX := Lib.hid hx
      clear ho hx hr
      rcases HV.out with ⟨h0, _⟩ | ⟨h0, b, off, cap, rfl, hc, hlt, hcell⟩
      · subst h0; exact absurd HO.out.1.1 (by simp)
      clear hcell hc hlt
      go_enter Tryd.func26, Tryd.ntmps26
      go_wp2_with fail
      (with_reducible refine (isOrder_yes _ zs _ HV.out HO).mono ?_)
      rintro e w1 ⟨rfl, hb⟩
      have HB := Lib.hid hb
      clear hb
      go_wp2_with (go_at_call 12; ((with_reducible refine (impl_WordValid_no _ x _ HX).mono ?_); rintro e w' ⟨rfl, rfl⟩))
      go_ret
      exact ⟨rfl, HB.out⟩
  · obtain rfl : r = -1 := hr.out.2 (fun h => ho h.1)
    have HO := Lib.hid ho
    clear ho hr
    go_enter Tryd.func26, Tryd.ntmps26
    go_wp2_with fail
    (with_reducible refine (isOrder_no _ zs _ HV.out hn HO).mono ?_)
    rintro e w1 ⟨rfl, hb⟩
    have HB := Lib.hid hb
    clear hb
    go_wp2_with fail
    go_ret
    exact ⟨rfl, HB.out⟩

end Go.Proofs.YtbknmokoegembacDoor
