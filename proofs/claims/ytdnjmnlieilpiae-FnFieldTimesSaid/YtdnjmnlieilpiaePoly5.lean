/- Contracts: registers and fields. -/
import Derived.Test.YtdnjmnlieilpiaePoly4

namespace Go.Proofs.Ytdnjmnlieilpiae
open Go.RowKit
set_option linter.unusedVariables false

/-! RegisterNext -/

/-! RegisterPeriod -/

/-! FieldTimes -/

theorem impl_FieldTimes_yes (a b p : Nat) (w : World) (h1 : p ≤ 511) (hp : Hid (Bw.Prime p)) (ha : a < 2 ^ p.log2) (hb : b < 2 ^ p.log2) :
    Calls Try.prog 11 #[.int .i64 a, .int .i64 b, .int .i64 p] w fun e w' => e = .returned (.int .i64 ((Bw.fm p a b : Nat) : Int)) ∧ w = w' := by
  have h0 : 2 ≤ p := hp.out.1
  have hpw := Bw.modulus_pow h0 h1
  have a8 : a < 256 := by omega
  have b8 : b < 256 := by omega
  have HA := Lib.hid (fun w : World => isState_yes a p w h0 h1 ha)
  have HB := Lib.hid (fun w : World => isState_yes b p w h0 h1 hb)
  have hm := Bw.mul_lt a b (m := 8) (n := 8) (by omega) (by omega)
  have HM := Lib.hid hm
  clear ha hb hpw hm
  go_enter Try.func11, Try.ntmps11
  go_wp2_with (first | (go_at_call 6; ((with_reducible refine (impl_PolyPrime_yes p _ h1 hp).mono ?_); rintro e w' ⟨rfl, rfl⟩)) | (go_at_call 30; ((with_reducible refine (HA.out _).mono ?_); rintro e w' ⟨rfl, rfl⟩)) | (go_at_call 30; ((with_reducible refine (HB.out _).mono ?_); rintro e w' ⟨rfl, rfl⟩)) | (go_at_call 31; ((with_reducible refine (times_any a b _ (by omega) (by omega)).mono ?_); rintro e w' ⟨rfl, rfl⟩)) | (go_at_call 22; ((with_reducible refine (rest_any (Bw.mul a b) p _ (by have := HM.out; omega) (by omega) (by omega)).mono ?_); rintro e w' ⟨rfl, rfl⟩)))
  go_ret
  exact ⟨rfl, rfl⟩

/-- the arguments of a product in a field -/
def FieldOk (a b p : Int) : Prop := (0 ≤ p ∧ p ≤ 511 ∧ Bw.Prime p.toNat) ∧ (0 ≤ a ∧ a < ((2 ^ p.toNat.log2 : Nat) : Int)) ∧ (0 ≤ b ∧ b < ((2 ^ p.toNat.log2 : Nat) : Int))

theorem impl_FieldTimes_no (a b p : Int) (w : World) (h : Hid (¬ FieldOk a b p)) :
    Calls Try.prog 11 #[.int .i64 a, .int .i64 b, .int .i64 p] w fun e w' => e = .returned (.int .i64 (-1)) ∧ w = w' := by
  by_cases hp : 0 ≤ p ∧ p ≤ 511 ∧ Bw.Prime p.toNat
  · obtain ⟨q, rfl⟩ := Int.eq_ofNat_of_zero_le hp.1
    have hp2 : Bw.Prime q := by simpa using hp.2.2
    have h0 := hp2.1
    have h1 : q ≤ 511 := by omega
    have HP := Lib.hid hp2
    by_cases ha : 0 ≤ a ∧ a < ((2 ^ q.log2 : Nat) : Int)
    · obtain ⟨a, rfl⟩ := Int.eq_ofNat_of_zero_le ha.1
      have HA := Lib.hid (fun w : World => isState_yes a q w h0 h1 (by omega))
      have HB := Lib.hid (fun w : World => isState_no b q w (.inr (by
        rw [Int.toNat_natCast]
        by_cases hb : 0 ≤ b ∧ b < ((2 ^ q.log2 : Nat) : Int)
        · exact absurd ⟨hp, by rw [Int.toNat_natCast]; exact ha, by rw [Int.toNat_natCast]; exact hb⟩ h.out
        · omega)))
      clear hp hp2 ha h
      go_enter Try.func11, Try.ntmps11
      go_wp2_with (first | (go_at_call 6; ((with_reducible refine (impl_PolyPrime_yes q _ h1 HP).mono ?_); rintro e w' ⟨rfl, rfl⟩)) | (go_at_call 30; ((with_reducible refine (HA.out _).mono ?_); rintro e w' ⟨rfl, rfl⟩)) | (go_at_call 30; ((with_reducible refine (HB.out _).mono ?_); rintro e w' ⟨rfl, rfl⟩)))
      go_ret
      exact ⟨rfl, rfl⟩
    · have HA := Lib.hid (fun w : World => isState_no a q w (.inr (by rw [Int.toNat_natCast]; omega)))
      clear hp hp2 ha h
      go_enter Try.func11, Try.ntmps11
      go_wp2_with (first | (go_at_call 6; ((with_reducible refine (impl_PolyPrime_yes q _ h1 HP).mono ?_); rintro e w' ⟨rfl, rfl⟩)) | (go_at_call 30; ((with_reducible refine (HA.out _).mono ?_); rintro e w' ⟨rfl, rfl⟩)))
      go_ret
      exact ⟨rfl, rfl⟩
  · have HP := Lib.hid hp
    clear hp h
    go_enter Try.func11, Try.ntmps11
    go_wp2_with (go_at_call 6; ((with_reducible refine (impl_PolyPrime_no p _ HP).mono ?_); rintro e w' ⟨rfl, rfl⟩))
    go_ret
    exact ⟨rfl, rfl⟩

end Go.Proofs.Ytdnjmnlieilpiae
