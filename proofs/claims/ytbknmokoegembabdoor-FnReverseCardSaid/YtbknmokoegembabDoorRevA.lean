/- Contracts: zeros at both ends of a word; the walk of the law on words in the other order. -/
import Derived.Test.YtbknmokoegembabDoorRevPlain
import Derived.Test.YtbknmokoegembabDoorGatA
import Derived.Test.YtbknmokoegembabDoorMFnB
import Derived.Test.YtbknmokoegembabDoorMDrawA

namespace Go.Proofs.YtbknmokoegembabDoor
open Go.RowKit
set_option linter.unusedVariables false

theorem TrailingZeros64_zero (w : World) :
    Calls Tryd.prog 73 #[.int .u64 0] w fun e w' => e = .returned (.int .i64 64) ∧ w = w' := by
  go_enter Tryd.func73, Tryd.ntmps73
  go_wp2
  go_ret
  exact ⟨rfl, rfl⟩

theorem TrailingZeros_zero (w : World) :
    Calls Tryd.prog 56 #[.int .u64 0] w fun e w' => e = .returned (.int .i64 64) ∧ w = w' := by
  go_enter Tryd.func56, Tryd.ntmps56
  go_wp2_with (go_at_call 73; ((with_reducible refine (TrailingZeros64_zero _).mono ?_); rintro e w' ⟨rfl, rfl⟩))
  go_ret
  exact ⟨rfl, rfl⟩

theorem TrailingZeros_all (x : Nat) (w : World) (hx : x < 4096) (hT : Hid (TabLies w)) :
    Calls Tryd.prog 56 #[.int .u64 x] w fun e w' => e = .returned (.int .i64 (Lib.ctz 64 x)) ∧ w = w' := by
  by_cases h0 : x = 0
  · subst h0; exact TrailingZeros_zero w
  · exact TrailingZeros_any x w h0 hx hT

set_option maxHeartbeats 400000 in
theorem Len64_small (x l : Int) (w : World) (h0 : 0 ≤ x) (h1 : x < 256) (l0 : 0 ≤ l) (l1 : l ≤ 8) (hl : Hid (Lib.len8 x = l)) :
    Calls Tryd.prog 71 #[.int .u64 x] w fun e w' => e = .returned (.int .i64 l) ∧ w = w' := by
  have hu := Tryd.underlying9
  have r1 : ∀ w : World, (Instr.index 9 (.string Lib.len8tab) (.int .u8 x)).run Tryd.prog w = .ok (.int .u8 l) w := fun w => hl.out ▸ Lib.run_index_len8tab w _ _ _ hu (by omega) (by omega)
  go_enter Tryd.func71, Tryd.ntmps71
  simp only [List.append, Lib.fold_len8tab]
  generalize Lib.len8tab = tb at r1 ⊢
  go_wp2
  go_ret
  exact ⟨rfl, rfl⟩

set_option maxHeartbeats 400000 in
theorem Len64_more (x a l : Int) (w : World) (h0 : 256 ≤ x) (h1 : x < 4096) (ha : x / 256 = a) (l0 : 0 ≤ l) (l1 : l ≤ 8) (hl : Hid (Lib.len8 a = l)) :
    Calls Tryd.prog 71 #[.int .u64 x] w fun e w' => e = .returned (.int .i64 (8 + l)) ∧ w = w' := by
  have hu := Tryd.underlying9
  have a0 : 0 ≤ a ∧ a < 16 := by omega
  have r1 : ∀ w : World, (Instr.index 9 (.string Lib.len8tab) (.int .u8 a)).run Tryd.prog w = .ok (.int .u8 l) w := fun w => hl.out ▸ Lib.run_index_len8tab w _ _ _ hu (by omega) (by omega)
  go_enter Tryd.func71, Tryd.ntmps71
  simp only [List.append, Lib.fold_len8tab]
  generalize Lib.len8tab = tb at r1 ⊢
  go_wp2
  go_ret
  exact ⟨rfl, rfl⟩

theorem Len64_any (x : Nat) (w : World) (h : x < 4096) :
    Calls Tryd.prog 71 #[.int .u64 x] w fun e w' => e = .returned (.int .i64 ((bitLen x : Nat) : Int)) ∧ w = w' := by
  by_cases hx : x < 256
  · have hb := Go.bitLen_le8 x hx
    exact Len64_small x _ w (by omega) (by omega) (by omega) (by omega) (Bw.len8_is hx)
  · have hb := Go.bitLen_le8 (x / 256) (by omega)
    have h2 := Bw.bitLen_up (show 256 ≤ x by omega)
    have := Len64_more x ((x / 256 : Nat) : Int) ((bitLen (x / 256) : Nat) : Int) w (by omega) (by omega) (by omega) (by omega) (by omega) (Bw.len8_is (by omega))
    rw [← h2]
    exact this

theorem Len_any (x : Nat) (w : World) (h : x < 4096) :
    Calls Tryd.prog 55 #[.int .u64 x] w fun e w' => e = .returned (.int .i64 ((bitLen x : Nat) : Int)) ∧ w = w' := by
  have hc := Bw.wrap_u64_small x (by omega)
  have HC := Lib.hid (Len64_any x w h)
  obtain ⟨l, hl⟩ : ∃ l, bitLen x = l := ⟨_, rfl⟩
  rw [hl] at HC ⊢
  clear hl
  go_enter Tryd.func55, Tryd.ntmps55
  go_wp2_with (go_at_call 71; ((with_reducible refine (HC.out).mono ?_); rintro e w' ⟨rfl, rfl⟩))
  go_ret
  exact ⟨rfl, rfl⟩

theorem ZerosAbove_yes (n x : Nat) (w : World) (hx : Hid (WordOk n x)) :
    Calls Tryd.prog 20 #[.int .i64 n, .int .i64 x] w fun e w' => e = .returned (.int .i64 ((n - bitLen x : Nat) : Int)) ∧ w = w' := by
  have x1 := word_bd hx.out
  have hw := hx.out.1
  have hc := Bw.wrap_u64_small x (by omega)
  have hlt : x < 2 ^ n := by have := hx.out.2.2; rw [Int.toNat_natCast] at this; exact Int.ofNat_lt.1 this
  have hle := Bw.bitLen_le hlt
  have HC := Lib.hid (fun w : World => Len_any x w (by omega))
  obtain ⟨l, hl⟩ : ∃ l, bitLen x = l := ⟨_, rfl⟩
  rw [hl] at HC hle ⊢
  clear hl hlt
  go_enter Tryd.func20, Tryd.ntmps20
  go_wp2_with (first | (go_at_call 16; ((with_reducible refine (impl_WordValid_yes n x _ hx).mono ?_); rintro e w' ⟨rfl, rfl⟩)) | (go_at_call 55; ((with_reducible refine (HC.out _).mono ?_); rintro e w' ⟨rfl, rfl⟩)))
  go_ret
  exact ⟨ret_int (by omega), rfl⟩

theorem ZerosBelow_yes (n x : Nat) (w : World) (hx : Hid (WordOk n x)) (hT : Hid (TabLies w)) :
    Calls Tryd.prog 21 #[.int .i64 n, .int .i64 x] w fun e w' => e = .returned (.int .i64 ((min n (Lib.ctz 64 x) : Nat) : Int)) ∧ w = w' := by
  have x1 := word_bd hx.out
  have hw := hx.out.1
  have hc := Bw.wrap_u64_small x (by omega)
  have HC := Lib.hid (TrailingZeros_all x w (by omega) hT)
  obtain ⟨l, hl⟩ : ∃ l, Lib.ctz 64 x = l := ⟨_, rfl⟩
  rw [hl] at HC ⊢
  clear hl
  by_cases hnl : n ≤ l
  · rw [Nat.min_eq_left hnl]
    go_enter Tryd.func21, Tryd.ntmps21
    go_wp2_with (first | (go_at_call 16; ((with_reducible refine (impl_WordValid_yes n x _ hx).mono ?_); rintro e w' ⟨rfl, rfl⟩)) | (go_at_call 56; ((with_reducible refine (HC.out).mono ?_); rintro e w' ⟨rfl, rfl⟩)))
    go_ret
    exact ⟨rfl, rfl⟩
  · rw [Nat.min_eq_right (by omega)]
    go_enter Tryd.func21, Tryd.ntmps21
    go_wp2_with (first | (go_at_call 16; ((with_reducible refine (impl_WordValid_yes n x _ hx).mono ?_); rintro e w' ⟨rfl, rfl⟩)) | (go_at_call 56; ((with_reducible refine (HC.out).mono ?_); rintro e w' ⟨rfl, rfl⟩)))
    go_ret
    exact ⟨rfl, rfl⟩

set_option maxRecDepth 100000 in
set_option maxHeartbeats 1000000 in
theorem law_FnReverse (w : World) (a : Option Addr) (n cap : Nat) (zs : List Int) (h : Bw.IsRow .u8 w a n cap zs) (hT : TabLies w) :
    Calls Tryd.prog 5 #[.slice a n cap] w fun e w' => e = .returned (.bool true) ∧ Below w.heap.size w w' := by
  have hc := code_of_row h
  have hlen := h.len.2
  have HC := Lib.hid hc
  have HT := Lib.hid hT
  clear h hc hT
  by_cases hbig : 1048576 < n
  · go_enter Tryd.func5, Tryd.ntmps5
    go_wp2_with fail
    go_ret
    exact ⟨rfl, Below.refl _ _⟩
  have hs : n ≤ 1048576 := by omega
  clear hbig
  go_enter Tryd.func5, Tryd.ntmps5
  go_wp2_with fail
  refine (DrawReverse_any a n cap _ HC.out).mono ?_
  rintro e w1 ⟨n, x, rfl, hP, hb⟩
  have B := Lib.hid hb
  have HT := Lib.hid (HT.out.below hb)
  clear hb hP
  by_cases h : WordOk n x
  · obtain ⟨n, x, rfl, rfl⟩ := word_nat h
    have hx := Lib.hid h
    have hw := h.1
    have hn : n ≤ 12 := by omega
    have hxl : x < 2 ^ n := by have := h.2.2; rw [Int.toNat_natCast] at this; exact Int.ofNat_lt.1 this
    clear h
    have hyl := Bw.rv_lt x n
    have hy : Hid (WordOk (n : Int) ((Bw.rv x n : Nat) : Int)) := ⟨⟨by omega, by omega⟩, Int.natCast_nonneg _, by rw [Int.toNat_natCast]; exact Int.ofNat_lt.2 hyl⟩
    have C1 := Lib.hid (fun w => impl_Reverse_yes n x w hx)
    have C2 := Lib.hid (fun w => spec_Reverse_yes n x w hx)
    have C3 := Lib.hid (fun w => Bw.rv_rv hxl ▸ impl_Reverse_yes n (Bw.rv x n) w hy)
    have C4 := Lib.hid (fun w => Bw.zeros_turn hxl hn ▸ ZerosAbove_yes n (Bw.rv x n) w hy)
    have C5 := Lib.hid (fun w h => ZerosBelow_yes n x w hx h)
    obtain ⟨y, hyy⟩ : ∃ y, Bw.rv x n = y := ⟨_, rfl⟩
    obtain ⟨z, hzz⟩ : ∃ z, min n (Lib.ctz 64 x) = z := ⟨_, rfl⟩
    rw [hyy] at C1 C2 C3 C4
    rw [hzz] at C4 C5
    clear hyy hzz hxl hyl hy hn hw
    go_wp2_with fail
    (with_reducible refine (C1.out _).mono ?_)
    rintro e w2 ⟨rfl, hb⟩
    have HT := Lib.hid (HT.out.below hb)
    have B := Lib.hid (B.out.trans (hb.mono B.out.size))
    clear hb
    go_wp2_with (go_at_call 19; ((with_reducible refine (C2.out _).mono ?_); rintro e w' ⟨rfl, rfl⟩))
    go_wp2_with fail
    (with_reducible refine (C3.out _).mono ?_)
    rintro e w2 ⟨rfl, hb⟩
    have HT := Lib.hid (HT.out.below hb)
    have B := Lib.hid (B.out.trans (hb.mono B.out.size))
    clear hb
    go_wp2_with (first | (go_at_call 20; ((with_reducible refine (C4.out _).mono ?_); rintro e w' ⟨rfl, rfl⟩)) | (go_at_call 21; ((with_reducible refine (C5.out _ HT).mono ?_); rintro e w' ⟨rfl, rfl⟩)))
    go_ret
    exact ⟨ret_bool (by simp), B.out⟩
  · have hx := Lib.hid h
    clear h
    go_wp2_with fail
    (with_reducible refine (impl_Reverse_no n x _ hx).mono ?_)
    rintro e w2 ⟨rfl, hb⟩
    have HT := Lib.hid (HT.out.below hb)
    have B := Lib.hid (B.out.trans (hb.mono B.out.size))
    clear hb
    go_wp2_with (go_at_call 19; ((with_reducible refine (spec_Reverse_no n x _ hx).mono ?_); rintro e w' ⟨rfl, rfl⟩))
    refine (alive_any _).mono ?_
    rintro e w2 ⟨rfl, hb2⟩
    have HB2 := Lib.hid hb2
    clear hb2
    go_wp2_with fail
    go_ret
    exact ⟨rfl, B.out.trans (HB2.out.mono B.out.size)⟩

end Go.Proofs.YtbknmokoegembabDoor
