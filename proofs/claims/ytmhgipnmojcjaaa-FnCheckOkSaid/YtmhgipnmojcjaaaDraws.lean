/- Contracts: what the laws on polynomials draw. -/
import Derived.Test.YtmhgipnmojcjaaaDraw2
import Derived.Test.YtmhgipnmojcjaaaPoly6
import Derived.Deep.RegionWith

namespace Go.Proofs.Ytmhgipnmojcjaaa
open Go.RowKit
set_option linter.unusedVariables false

/-- a law's code: bytes that came in -/
def CodeIs (w : World) (a : Option Addr) (n cap : Nat) : Prop := Bytes w a n ∧ n ≤ cap ∧ cap ≤ 9223372036854775807

theorem code_of_row {w : World} {a : Option Addr} {n cap : Nat} {zs : List Int} (h : Bw.IsRow .u8 w a n cap zs) : CodeIs w a n cap := by
  rcases h with ⟨rfl, rfl, rfl, _⟩ | ⟨x, rfl, h1, h2, h3, hc, hw⟩
  · exact ⟨.inl rfl, Nat.le_refl _, by omega⟩
  · unfold maxLen at h2
    refine ⟨?_, h1, by omega⟩
    by_cases h0 : n = 0
    · exact .inl h0
    · obtain ⟨b, off, spot⟩ := x
      have h00 := hc 0 (by omega)
      have hspot : spot = none := by simpa [Addr.add] using World.cell?_spot h00
      subst hspot
      refine .inr ⟨b, off, fun i => zs.getD i 0, rfl, ?_, fun i hi => ⟨?_, ?_⟩⟩
      · rcases Nat.lt_or_ge b w.heap.size with h | h
        · exact h
        · exfalso
          have e : w.heap[b]? = none := Array.getElem?_eq_none h
          simp [World.cell?, Addr.add, e] at h00
      · have hm : zs.getD i 0 ∈ zs := by
          rw [List.getD_eq_getElem?_getD, List.getElem?_eq_getElem (by omega)]
          exact List.getElem_mem (by omega)
        have := bounds_u8 (hw _ hm)
        show 0 ≤ zs.getD i 0 ∧ zs.getD i 0 < 256
        omega
      · have := hc i (by omega)
        have ea : (⟨b, off, none⟩ : Addr).add i = ⟨b, off + i, none⟩ := by
          by_cases hz : i = 0
          · subst hz; simp [Addr.add]
          · simp [Addr.add, hz]
        rwa [ea] at this

theorem states_of (d : Int) : ∃ m : Int, wrap64 (2 ^ (min (max d 0) 8).toNat) = m ∧ 1 ≤ m ∧ m ≤ 256 := by
  refine ⟨_, rfl, ?_⟩
  obtain ⟨k, hk⟩ : ∃ k, (min (max d 0) 8).toNat = k := ⟨_, rfl⟩
  have h8 : k ≤ 8 := by omega
  have := Nat.pow_le_pow_right (n := 2) (by omega) h8
  have := Nat.two_pow_pos k
  rw [hk, Bw.two_pow_cast, Bw.w64n (by omega)]
  omega

theorem rd_drew {t : TypeId} {w : World} {g lim : Nat} (h : Bw.Rd t w g lim) : Bw.Rd t w.drew g lim := h.below (Below.refl _ _).drew

theorem grown_drew {a b : World} {row : Option Nat} (h : a.drew.grownBy b row) : a.grownBy b row := ⟨h.os, h.tape, h.output, h.size, h.block⟩


end Go.Proofs.Ytmhgipnmojcjaaa
