/- Contracts: Together of the reference; the walk of the law that holds it against the program. -/
import Derived.Test.YtbknmokoegembacDoorSepA

namespace Go.Proofs.YtbknmokoegembacDoor
open Go.RowKit
set_option linter.unusedVariables false

set_option maxHeartbeats 400000 in
theorem spec_Together_yes (n x m : Nat) (w : World) (hx : Hid (WordOk n x)) (hm : Hid (WordOk n m)) :
    Calls Tryd.prog 9 #[.int .i64 n, .int .i64 x, .int .i64 m] w fun e w' => e = .returned (.int .i64 ((Bw.tog x m n : Nat) : Int)) ∧ Below w.heap.size w w' := by
  have hw := hx.out.1
  have x1 := word_bd hx.out
  have hn : n ≤ 12 := by omega
  have hml := gword_lt hm.out
  have hxl := gword_lt hx.out
  have hz := Bw.oth_pc hml n (Nat.le_refl _)
  have HO := Lib.hid (gword_oth (m := m) (show 1 ≤ n by omega) hn)
  have hs := Bw.tog_lt hml x
  have hn2 := wbd hn
  have hse : Bw.tog x m n = Bw.sct x (Bw.oth m n) n + Bw.sct (x / 2 ^ Bw.pc (Bw.oth m n) n) m n := rfl
  have hr1 : x % 2 ^ Bw.pc (Bw.oth m n) n < 2 ^ n := Nat.lt_of_le_of_lt (Nat.mod_le _ _) hxl
  have hd1 : x / 2 ^ Bw.pc (Bw.oth m n) n < 2 ^ n := Nat.lt_of_le_of_lt (Nat.div_le_self _ _) hxl
  have ed : ((x / 2 ^ Bw.pc (Bw.oth m n) n : Nat) : Int) = (x : Int) / 2 ^ Bw.pc (Bw.oth m n) n := by simp
  have HR1 := Lib.hid (gword_ok (show 1 ≤ n by omega) hn hr1)
  have HD1 := Lib.hid (gword_ok (show 1 ≤ n by omega) hn hd1)
  have HG1 := Lib.hid (fun (w : World) => Bw.sct_mod x (Bw.oth m n) n ▸ spec_Scatter_same n (x % 2 ^ Bw.pc (Bw.oth m n) n) (Bw.oth m n) w HR1 HO)
  have HG2 := Lib.hid (fun (w : World) => spec_Scatter_same n (x / 2 ^ Bw.pc (Bw.oth m n) n) m w HD1 hm)
  rw [ed] at HG2
  have HN := Lib.hid (fun (w : World) => spec_WordNot_yes n m w hm)
  have HC := Lib.hid (fun (w : World) => spec_OnesOf_yes n m w hm)
  obtain ⟨o, hoo⟩ : ∃ o, Bw.oth m n = o := ⟨_, rfl⟩
  rw [hoo] at hz hse HG1 HG2 HN
  obtain ⟨z, hzz⟩ : ∃ z, Bw.pc o n = z := ⟨_, rfl⟩
  rw [hzz] at hz hse HG1 HG2
  obtain ⟨c, hcc⟩ : ∃ c, Bw.pc m n = c := ⟨_, rfl⟩
  rw [hcc] at hz HC
  obtain ⟨y1, hy1⟩ : ∃ y, Bw.sct x o n = y := ⟨_, rfl⟩
  obtain ⟨y2, hy2⟩ : ∃ y, Bw.sct (x / 2 ^ z) m n = y := ⟨_, rfl⟩
  rw [hy1] at hse HG1
  rw [hy2] at hse HG2
  obtain ⟨s, hss⟩ : ∃ s, Bw.tog x m n = s := ⟨_, rfl⟩
  rw [hss] at hs hse ⊢
  obtain ⟨q, hq⟩ : ∃ q, 2 ^ z = q := ⟨_, rfl⟩
  have hqb := wbd (show z ≤ 12 by omega)
  have hwq := wrap_pow (show z ≤ 12 by omega) hq
  rw [hq] at HG1 hqb
  obtain ⟨r, hrr⟩ : ∃ r, x % q = r := ⟨_, rfl⟩
  rw [hrr] at HG1
  have hmod : (x : Int) % (q : Int) = (r : Int) := by rw [← hrr]; simp
  have htmod : (x : Int).tmod (q : Int) = (r : Int) := by rw [Int.tmod_eq_emod_of_nonneg (by omega), hmod]
  have HS : Hid ((y1 : Int) + (y2 : Int) = (s : Int) ∧ s ≤ 4096) := by
    unfold Hid; omega
  have ez : (n : Int) - (c : Int) = (z : Int) := by omega
  have hz12 : z ≤ 12 := by omega
  have hc12 : c ≤ 12 := by omega
  have hy12 : y1 ≤ 4096 := by omega
  have hy22 : y2 ≤ 4096 := by omega
  clear hoo hzz hcc hy1 hy2 hss hs hse hml hz hxl hr1 hd1 ed hq hrr hn2
  go_enter Tryd.func9, Tryd.ntmps9
  go_wp2_with (first | (go_at_call 34; ((with_reducible refine (l1Both_yes n x m _ hx hm).mono ?_); rintro e w' ⟨rfl, rfl⟩)) | (go_at_call 35; ((with_reducible refine (HC.out _).mono ?_); rintro e w' ⟨rfl, rfl⟩)))
  go_quiet ((first | (go_at_call 37; (with_reducible exact quiet_eq (HN.out _))) | (go_at_call 36; first | (with_reducible exact quiet_eq (HG1.out _)) | (with_reducible exact quiet_eq (HG2.out _)))))
  go_wp2_with fail
  go_ret
  exact ⟨ret_int (by rw [HS.out.1]), Go.below_drewN (Below.refl _ _) _⟩

theorem spec_Together_no (n a b : Int) (w : World) (h : Hid (¬ WordOk n a ∨ (WordOk n a ∧ ¬ WordOk n b))) :
    Calls Tryd.prog 9 #[.int .i64 n, .int .i64 a, .int .i64 b] w fun e w' => e = .returned (.int .i64 (-1)) ∧ Below w.heap.size w w' := by
  go_enter Tryd.func9, Tryd.ntmps9
  go_wp2_with (go_at_call 34; ((with_reducible refine (l1Both_no n a b _ h).mono ?_); rintro e w' ⟨rfl, rfl⟩))
  go_ret
  exact ⟨rfl, Below.refl _ _⟩

end Go.Proofs.YtbknmokoegembacDoor
