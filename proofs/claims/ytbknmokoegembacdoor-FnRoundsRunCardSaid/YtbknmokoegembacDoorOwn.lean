/- Rows that a call has made: kept, marked, held against marks. -/
import Derived.Test.YtbknmokoegembacDoorSlice
import Derived.Maps.AppendAt
import Derived.OwnWalk
import Derived.Deep.Onto

namespace Bw
open Go Go.RowKit

theorem grown_transN {a b c : World} {row : Option Nat} (h : a.grownBy b row) (k : b.grownBy c row) : a.grownBy c row :=
  ⟨k.os.trans h.os, k.tape.trans h.tape, k.output.trans h.output, Nat.le_trans h.size k.size, fun i hi hr => (k.block i (Nat.lt_of_lt_of_le hi h.size) hr).trans (h.block i hi hr)⟩

/-- what the call owns: a slice of the integers zs -/
def Own (t : TypeId) (base : Nat) (w : World) (v : Value) (zs : List Int) : Prop := w.ownsRow base t 1 v zs.length (zs.map (Value.int .i64))

theorem Own.below {t : TypeId} {base : Nat} {w w' : World} {v : Value} {zs : List Int} (h : Own t base w v zs) (hb : Below w.heap.size w w') : Own t base w' v zs :=
  h.kept (grown_of_belowN hb) (by cases hv : v.ownBlock <;> simp)
where grown_of_belowN {a b : World} (h : Below a.heap.size a b) : a.grownBy b none := ⟨h.os, h.tape, h.output, h.size, fun i hi _ => h.block i hi⟩

theorem Own.mono {t : TypeId} {base base2 : Nat} {w : World} {v : Value} {zs : List Int} (h : Own t base w v zs) (hb : base2 ≤ base) : Own t base2 w v zs := World.ownsRow.mono h hb

theorem Own.reads {t : TypeId} {base : Nat} {w : World} {v : Value} {zs : List Int} (h : Own t base w v zs) : Reads w v zs := (Reads.of_owns h).1

/-- .. while another row is written -/
theorem Own.grown {t : TypeId} {base : Nat} {w w' : World} {v : Value} {zs : List Int} {row : Option Nat} (h : Own t base w v zs) (hg : w.grownBy w' row) (hne : v.ownBlock = none ∨ v.ownBlock ≠ row) : Own t base w' v zs := h.kept hg hne

theorem Own.ge {t : TypeId} {base : Nat} {w : World} {v : Value} {zs : List Int} (h : Own t base w v zs) : ∀ k, v.ownBlock = some k → base ≤ k ∧ k < w.heap.size := h.lt

/-- two rows of which one was there before the other one was made -/
theorem Own.apart {t : TypeId} {base base2 : Nat} {w w2 : World} {v v2 : Value} {zs zs2 : List Int} (h : Own t base w v zs) (h2 : Own t base2 w2 v2 zs2) (hb : w.heap.size ≤ base2) : v.ownBlock = none ∨ v.ownBlock ≠ v2.ownBlock := by
  cases hv : v.ownBlock with
  | none => exact .inl rfl
  | some k =>
    refine .inr fun e => ?_
    have h1 := (h.ge k hv).2
    have h3 := (h2.ge k e.symm).1
    omega

theorem Own.apart' {t : TypeId} {base base2 : Nat} {w w2 : World} {v v2 : Value} {zs zs2 : List Int} (h : Own t base w v zs) (h2 : Own t base2 w2 v2 zs2) (hb : w.heap.size ≤ base2) : v2.ownBlock = none ∨ v2.ownBlock ≠ v.ownBlock := by
  cases hv : v2.ownBlock with
  | none => exact .inl rfl
  | some k =>
    refine .inr fun e => ?_
    have h1 := (h.ge k e.symm).2
    have h3 := (h2.ge k hv).1
    omega

/-- a row that is not nil -/
theorem Own.some {t : TypeId} {base : Nat} {w : World} {v : Value} {zs : List Int} (h : Own t base w v zs) (h0 : zs ≠ []) : ∃ b cap, v = .slice (some ⟨b, 0, none⟩) zs.length cap ∧ base ≤ b ∧ b < w.heap.size := by
  have hlt := h.ge
  rcases h.2 with ⟨rfl, hn⟩ | ⟨b, cap, cur, rfl, _⟩
  · simp at hn; exact absurd hn h0
  · exact ⟨b, cap, rfl, hlt b rfl⟩

theorem Own.nil_or {t : TypeId} {base : Nat} {w : World} {v : Value} {zs : List Int} (h : Own t base w v zs) (h0 : zs = []) : ∃ a cap, v = .slice a 0 cap := by
  subst h0
  rcases h.2 with ⟨rfl, _⟩ | ⟨b, cap, cur, rfl, _⟩
  · exact ⟨_, _, rfl⟩
  · exact ⟨_, _, rfl⟩

theorem own_none (t : TypeId) (base : Nat) (w : World) : Own t base w (.slice none 0 0) [] := World.ownsRow_nil _ _ _ _

theorem Own.row {t : TypeId} {base : Nat} {w : World} {v : Value} {zs : List Int} (h : Own t base w v zs) : w.ownsRow base t 1 v zs.length (zs.map (Value.int .i64)) := h

theorem own_snoc {t : TypeId} {base : Nat} {w : World} {v : Value} {zs : List Int} {x : Int} (h : w.ownsRow base t 1 v (zs.length + 1) (zs.map (Value.int .i64) ++ [.int .i64 x])) : Own t base w v (zs ++ [x]) := by
  unfold Own
  rw [List.length_append, List.map_append]
  exact h

/-- the marks -/
def marks (n : Nat) : Nat → List Int
  | k => (List.range n).map fun j => ((j + k : Nat) : Int)

theorem marks_length (n k : Nat) : (marks n k).length = n := by simp [marks]

theorem marks_nth {n k j : Nat} (h : j < n) : nth (marks n k) j = ((j + k : Nat) : Int) := by
  rw [nth_eq (by rw [marks_length]; exact h)]; simp [marks]

/-- what has been marked so far -/
def marked (zs : List Int) (k : Nat) : Nat → List Int
  | 0 => zs
  | j + 1 => (marked zs k j).set j ((j + k : Nat) : Int)

theorem marked_succ (zs : List Int) (k j : Nat) : marked zs k (j + 1) = (marked zs k j).set j ((j + k : Nat) : Int) := rfl

theorem marked_length (zs : List Int) (k : Nat) : ∀ j, (marked zs k j).length = zs.length
  | 0 => rfl
  | j + 1 => by rw [marked_succ, List.length_set, marked_length zs k j]

theorem marked_nth (zs : List Int) (k : Nat) : ∀ j, j ≤ zs.length → ∀ i, i < j → nth (marked zs k j) i = ((i + k : Nat) : Int)
  | 0, _, i, hi => absurd hi (by omega)
  | j + 1, hj, i, hi => by
    rw [marked_succ]
    unfold nth
    rw [List.getD_eq_getElem?_getD, List.getElem?_set]
    by_cases e : j = i
    · subst e; simp [marked_length, show j < zs.length by omega]
    · rw [if_neg e]
      have ih := marked_nth zs k j (by omega) i (by omega)
      unfold nth at ih
      rwa [List.getD_eq_getElem?_getD] at ih

theorem marked_end (zs : List Int) (k : Nat) : marked zs k zs.length = marks zs.length k := by
  refine eq_of_nth (by rw [marked_length, marks_length]) fun j hj => ?_
  rw [marked_length] at hj
  rw [marked_nth zs k _ (Nat.le_refl _) j hj, marks_nth hj]

end Bw

namespace Go.Proofs.YtbknmokoegembacDoor
open Go.RowKit
set_option linter.unusedVariables false

theorem toIntS_own (v : Value) (zs : List Int) (w : World) (hr : Bw.Reads w v zs) (hn : zs.length ≤ 1048576) :
    Calls Tryd.prog 19 #[v] w fun e w' => ∃ r, e = .returned r ∧ Bw.Own 3 w.heap.size w' r zs ∧ Below w.heap.size w w' := toIntS_any v zs w hr hn

end Go.Proofs.YtbknmokoegembacDoor
