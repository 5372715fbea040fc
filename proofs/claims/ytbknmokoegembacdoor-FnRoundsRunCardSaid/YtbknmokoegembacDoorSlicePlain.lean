/- Slices of integers that are read, and those that a call makes. -/
import Derived.Test.YtbknmokoegembacDoorLeaf

namespace Bw
open Go Go.RowKit

/-- the number at a place, 0 where there is none -/
def nth (zs : List Int) (k : Nat) : Int := zs.getD k 0

theorem nth_lt {zs : List Int} {k : Nat} (h : k < zs.length) : zs[k]? = some (nth zs k) := by
  unfold nth; rw [List.getD_eq_getElem?_getD, List.getElem?_eq_getElem h]; rfl

theorem nth_eq {zs : List Int} {k : Nat} (h : k < zs.length) : nth zs k = zs[k] := by
  unfold nth; rw [List.getD_eq_getElem?_getD, List.getElem?_eq_getElem h]; rfl

theorem take_succ_nth {zs : List Int} {k : Nat} (h : k < zs.length) : zs.take (k + 1) = zs.take k ++ [nth zs k] := by
  rw [List.take_succ_eq_append_getElem h, nth_eq h]

/-- a value that reads as a list of integers: its cells lie in memory -/
def Reads (w : World) (v : Value) (zs : List Int) : Prop :=
  (zs = [] ∧ ∃ a cap, v = .slice a 0 cap) ∨
  (zs ≠ [] ∧ ∃ b off cap, v = .slice (some ⟨b, off, none⟩) zs.length cap ∧ zs.length ≤ cap ∧ b < w.heap.size ∧ ∀ i, i < zs.length → w.cell? ⟨b, off + i, none⟩ = some (.int .i64 (nth zs i)))

theorem Reads.below {w w' : World} {v : Value} {zs : List Int} (h : Reads w v zs) (hb : Below w.heap.size w w') : Reads w' v zs := by
  rcases h with h | ⟨h0, b, off, cap, hv, hc, hlt, hcell⟩
  · exact .inl h
  · exact .inr ⟨h0, b, off, cap, hv, hc, Nat.lt_of_lt_of_le hlt hb.size, fun i hi => (hb.cell (p := ⟨b, off + i, none⟩) hlt).trans (hcell i hi)⟩

/-- the same below a block number above it -/
theorem Reads.belowB {w w' : World} {B : Nat} {v : Value} {zs : List Int} (h : Reads w v zs) (hb : Below B w w') (hB : w.heap.size ≤ B) : Reads w' v zs := h.below (hb.mono hB)

theorem Reads.nil (w : World) (a : Option Addr) (cap : Nat) : Reads w (.slice a 0 cap) [] := .inl ⟨rfl, a, cap, rfl⟩

/-- what a call owns reads as what it owns -/
theorem Reads.of_owns {w : World} {base e : Nat} {v : Value} {n : Nat} {zs : List Int} (h : w.ownsRow base e 1 v n (zs.map (Value.int .i64))) : Reads w v zs ∧ n = zs.length := by
  have hl : zs.length = n := by have := h.1; simpa using this
  obtain ⟨h1, h2⟩ := h
  rcases h2 with ⟨rfl, rfl⟩ | ⟨g, cap, cur, rfl, hb, hg, hn, hm, hcs, ht⟩
  · exact ⟨.inl ⟨List.eq_nil_of_length_eq_zero hl, _, _, rfl⟩, hl.symm⟩
  · refine ⟨?_, hl.symm⟩
    by_cases h0 : zs = []
    · subst h0
      simp at hl
      subst hl
      exact .inl ⟨rfl, _, _, rfl⟩
    · refine .inr ⟨h0, g, 0, cap, by rw [hl], by omega, ?_, fun i hi => ?_⟩
      · exact (Array.getElem?_eq_some_iff.1 hg).1
      · have hown : w.ownsRow base e 1 (.slice (some ⟨g, 0, none⟩) n cap) n (zs.map (Value.int .i64)) := ⟨h1, .inr ⟨g, cap, cur, rfl, hb, hg, hn, hm, hcs, ht⟩⟩
        rw [Nat.zero_add, hown.cellAt i (by omega), List.getElem?_map, nth_lt hi]; rfl

/-- what has been filled in so far -/
def filled (zs : List Int) (k : Nat) : List Value := (zs.take k).map (Value.int .i64) ++ List.replicate (zs.length - k) (Value.int .i64 0)

theorem filled_end (zs : List Int) : filled zs zs.length = zs.map (Value.int .i64) := by simp [filled]

theorem filled_length (zs : List Int) {k : Nat} (hk : k ≤ zs.length) : (filled zs k).length = zs.length := by simp [filled]; omega

theorem filled_start {zs : List Int} : (Go.madeCells #[Value.int .i64 0] zs.length).toList = filled zs 0 := by
  simp [filled, madeCells]
  apply List.ext_getElem
  · simp
  · intro i h1 h2; simp [Nat.mod_one]

theorem filled_step {zs : List Int} {k : Nat} (hk : k < zs.length) : (filled zs k).set k (.int .i64 (nth zs k)) = filled zs (k + 1) := by
  have hl : ((zs.take k).map (Value.int .i64)).length = k := by simp; omega
  unfold filled
  rw [List.set_append_right _ _ (by omega), hl, Nat.sub_self, take_succ_nth hk]
  have : zs.length - k = (zs.length - (k + 1)) + 1 := by omega
  rw [this, List.replicate_succ]
  simp

theorem eq_of_nth {xs ys : List Int} (hl : xs.length = ys.length) (h : ∀ j, j < xs.length → nth xs j = nth ys j) : xs = ys := by
  apply List.ext_getElem hl
  intro i h1 h2
  rw [← nth_eq h1, ← nth_eq h2]; exact h i h1

theorem ne_of_nth {xs ys : List Int} {k : Nat} (h : nth xs k ≠ nth ys k) : xs ≠ ys := by rintro rfl; exact h rfl

/-- what is known of a slice of integers that came in: it is nil; or it leads to a row of 'cap' cells, the numbers 'zs' (the first 'len' are its elements) -/
def IsRow (k : IntKind) (w : World) (a : Option Addr) (len cap : Nat) (zs : List Int) : Prop :=
  (a = none ∧ len = 0 ∧ cap = 0 ∧ zs = []) ∨
  ∃ x, a = some x ∧ len ≤ cap ∧ cap ≤ maxLen ∧ zs.length = cap ∧ (∀ i, i < zs.length → w.cell? (x.add i) = some (.int k (zs.getD i 0))) ∧ ∀ n ∈ zs, (Lit.int k n).wf = true

theorem IsRow.len {k : IntKind} {w : World} {a : Option Addr} {len cap : Nat} {zs : List Int} (h : IsRow k w a len cap zs) : (zs.take len).length = len ∧ len ≤ 9223372036854775807 := by
  rcases h with ⟨_, rfl, _, rfl⟩ | ⟨x, _, h1, h2, h3, _⟩
  · simp
  · unfold maxLen at h2; simp; omega

theorem IsRow.reads {w : World} {a : Option Addr} {len cap : Nat} {zs : List Int} (h : IsRow .i64 w a len cap zs) : Reads w (.slice a len cap) (zs.take len) := by
  have hlen := h.len.1
  by_cases h0 : len = 0
  · subst h0; exact .inl ⟨by simp, a, cap, rfl⟩
  · rcases h with ⟨_, h1, _⟩ | ⟨x, rfl, h1, h2, h3, hc, _⟩
    · exact absurd h1 h0
    · obtain ⟨b, off, spot⟩ := x
      have h00 := hc 0 (by omega)
      have hspot : spot = none := by simpa [Addr.add] using World.cell?_spot h00
      subst hspot
      refine .inr ⟨by intro e; rw [e] at hlen; simp at hlen; omega, b, off, cap, by rw [hlen], by rw [hlen]; exact h1, ?_, fun i hi => ?_⟩
      · rcases Nat.lt_or_ge b w.heap.size with h | h
        · exact h
        · exfalso
          have e : w.heap[b]? = none := Array.getElem?_eq_none h
          simp [World.cell?, Addr.add, e] at h00
      · rw [hlen] at hi
        have := hc i (by omega)
        have ea : (⟨b, off, none⟩ : Addr).add i = ⟨b, off + i, none⟩ := by
          by_cases hz : i = 0
          · subst hz; simp [Addr.add]
          · simp [Addr.add, hz]
        rw [ea] at this
        have e : nth (zs.take len) i = zs.getD i 0 := by
          unfold nth
          rw [List.getD_eq_getElem?_getD, List.getD_eq_getElem?_getD, List.getElem?_take, if_pos hi]
        rw [e]
        exact this

end Bw
