/- The walks of the laws on primes and fields. -/
import Derived.Test.YtdnjmnlieilpiaaDraws
import Derived.Test.YtdnjmnlieilpiaaWord2
import Derived.Test.YtdnjmnlieilpiaaLawsB

namespace Go.Proofs.Ytdnjmnlieilpiaa
open Go.RowKit
set_option linter.unusedVariables false

set_option maxRecDepth 100000 in
set_option maxHeartbeats 1000000 in
theorem law_FnFieldInverse (w : World) (a : Option Addr) (n cap : Nat) (zs : List Int) (h : Bw.IsRow .u8 w a n cap zs) :
    Calls Try.prog 5 #[.slice a n cap] w fun e w' => e = .returned (.bool true) ∧ Below w.heap.size w w' := by
  have hc := code_of_row h
  have hlen := h.len.2
  have HC := Lib.hid hc
  clear h hc
  by_cases hbig : 1048576 < n
  · go_enter Try.func5, Try.ntmps5
    go_wp2_with fail
    go_ret
    exact ⟨rfl, Below.refl _ _⟩
  have hs : n ≤ 1048576 := by omega
  clear hbig
  go_enter Try.func5, Try.ntmps5
  go_wp2_with fail
  refine (DrawFieldInverse_any a n cap _ HC.out).mono ?_
  rintro e w1 ⟨x, p, rfl, _, hb⟩
  have HB := Lib.hid hb
  clear hb
  by_cases h : InverseOk x p
  · obtain ⟨a0, p, rfl, rfl, h1, hp, h0, ha⟩ := inverseOk_nat h
    have h2 : 2 ≤ p := hp.1
    have p0 : p ≠ 0 := by omega
    have hlg := Bw.modulus_log h2 h1
    have hy := Bw.pw_lt p0 a0 (2 ^ p.log2 - 2)
    have hinv := Bw.prime_inverse hp hlg.2 (by omega) ha
    have hy0 : 0 < Bw.pw p a0 (2 ^ p.log2 - 2) := by
      apply Nat.pos_of_ne_zero
      intro e
      rw [e] at hinv
      unfold Bw.fm at hinv
      rw [Bw.mul_zero, Bw.pmod_small p0 (Nat.two_pow_pos _)] at hinv
      exact absurd hinv (by omega)
    have hback := Bw.prime_inverse_twice hp hlg.2 (by omega) ha
    have HS := Lib.hid (fun w : World => spec_FieldInverse_yes a0 p w h1 hp h0 ha)
    have HI := Lib.hid (fun w : World => impl_FieldInverse_yes a0 p w h1 hp h0 ha)
    have HT : Hid (∀ w : World, Calls Try.prog 17 #[.int .i64 a0, .int .i64 ((Bw.pw p a0 (2 ^ p.log2 - 2) : Nat) : Int), .int .i64 p] w fun e w' => e = .returned (.int .i64 1) ∧ w = w') := fun w => by
      have t := impl_FieldTimes_yes a0 (Bw.pw p a0 (2 ^ p.log2 - 2)) p w h1 hp ha hy
      rw [hinv, Int.ofNat_one] at t
      exact t
    have HU : Hid (∀ w : World, Calls Try.prog 14 #[.int .i64 ((Bw.pw p a0 (2 ^ p.log2 - 2) : Nat) : Int), .int .i64 p] w fun e w' => e = .returned (.int .i64 (a0 : Int)) ∧ w = w') := fun w => by
      have t := impl_FieldInverse_yes (Bw.pw p a0 (2 ^ p.log2 - 2)) p w h1 hp hy0 hy
      rw [hback] at t
      exact t
    obtain ⟨Y, hY⟩ : ∃ Y, Bw.pw p a0 (2 ^ p.log2 - 2) = Y := ⟨_, rfl⟩
    rw [hY] at HS HI HT HU
    clear h hp ha hy hinv hy0 hback hY
    go_wp2_with (first | (go_at_call 15; ((with_reducible refine (HS.out _).mono ?_); rintro e w' ⟨rfl, rfl⟩)) | (go_at_call 14; ((with_reducible refine (HI.out _).mono ?_); rintro e w' ⟨rfl, rfl⟩)) | (go_at_call 17; ((with_reducible refine (HT.out _).mono ?_); rintro e w' ⟨rfl, rfl⟩)) | (go_at_call 14; ((with_reducible refine (HU.out _).mono ?_); rintro e w' ⟨rfl, rfl⟩)))
    go_ret
    exact ⟨ret_bool (by simp), HB.out⟩
  · have H := Lib.hid h
    clear h
    go_wp2_with (first | (go_at_call 15; ((with_reducible refine (spec_FieldInverse_no x p _ H).mono ?_); rintro e w' ⟨rfl, rfl⟩)) | (go_at_call 14; ((with_reducible refine (impl_FieldInverse_no x p _ H).mono ?_); rintro e w' ⟨rfl, rfl⟩)))
    refine (alive_any _).mono ?_
    rintro e w2 ⟨rfl, hb2⟩
    have HB2 := Lib.hid hb2
    clear hb2
    go_wp2_with fail
    go_ret
    exact ⟨rfl, HB.out.trans (HB2.out.mono HB.out.size)⟩

end Go.Proofs.Ytdnjmnlieilpiaa
