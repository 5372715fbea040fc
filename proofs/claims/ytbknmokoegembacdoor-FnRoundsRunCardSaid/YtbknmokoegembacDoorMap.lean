/- A look-up of a truth in a map that the call makes. -/
import Derived.Test.YtbknmokoegembacDoorSlice
import Derived.Maps.OwnOps
import Derived.Maps.OwnSet
import Derived.Maps.Views

namespace Bw
open Go Go.RowKit
open Go.Maps (Keyed)

theorem plain_bool_inv {H : Type} {P : Program} {e : TypeId} (he : P.underlying e = some .bool) {v : Value} {z : DataW H × List MemPlace} (h : plainElem P e v = some z) : ∃ c, v = .bool c ∧ z = (.lit (.bool c), []) := by
  unfold plainElem at h
  rw [he] at h
  cases v <;> simp at h
  exact ⟨_, rfl, h.symm⟩

theorem look_bool {H : Type} {P : Program} {k t e : TypeId} {w : World} {b n : Nat} {D : DataW H} (h : w.ownsMap P k (plainElem P e) b n D) (K : Keyed P k) (ht : P.underlying t = some (.map k e)) (he : P.underlying e = some .bool)
    (hz : (zeroValue e).run P w = .ok (.bool false) w) {key : Value} {kl : Lit} (hkey : keyOf P k key = some kl) :
    ∃ c, (Instr.lookup t (.map (some b)) key false).run P w = .ok (.bool c) w ∧ D.atKey kl (.lit (.bool false)) = .lit (.bool c) := by
  obtain ⟨v, ps, hrun, hv⟩ := h.lookup K ht hz (plainElem_bool he false) hkey
  obtain ⟨c, rfl, hc⟩ := plain_bool_inv he hv
  simp only [Prod.mk.injEq] at hc
  exact ⟨c, hrun, hc.1⟩

theorem wpList_look_bool {H : Type} {P : Program} (w : World) {ops : Array Oper} {rest : List Oper} {o : Oper} {a : Act} {Q : Exit → Act → World → Prop}
    (hg : o.guard = none) (m x : Operand) (t : TypeId) (hop : o.op = Op.lookup t m x false)
    (k e : TypeId) (K : Keyed P k) (ht : P.underlying t = some (.map k e)) (he : P.underlying e = some .bool) (hz : (zeroValue e).run P w = .ok (.bool false) w) (b n : Nat) (D : DataW H)
    (hm : a.eval m = .map (some b)) (hown : w.ownsMap P k (plainElem P e) b n D) (key : Value) (kl : Lit) (hx : a.eval x = key) (hkey : keyOf P k key = some kl)
    (hK : ∀ c : Bool, D.atKey kl (.lit (.bool false)) = .lit (.bool c) → wpList P ops Q rest (a.put o.dst (.bool c)) w) :
    wpList P ops Q (o :: rest) a w := by
  obtain ⟨c, hrun, hat⟩ := look_bool hown K ht he hz hkey
  refine wpList_plain hg fun K' hK' => ?_
  unfold Oper.wp
  simp [execOp, hop, hm, hx, hrun, Result.andThen]
  exact hK' _ _ (hK c hat)

/-- a set of numbers, kept as a map to truths -/
def SetOf (D : DataW Unit) (P : Int → Prop) : Prop := Maps.IsMap D ∧ ∀ x c, D.atKey (.int .i64 x) (.lit (.bool false)) = .lit (.bool c) → (c = true ↔ P x)

theorem SetOf.empty : SetOf (.map []) (fun _ => False) := by
  refine ⟨Maps.isMap_empty, fun x c h => ?_⟩
  have e : (DataW.map [] : DataW Unit).atKey (.int .i64 x) (.lit (.bool false)) = .lit (.bool false) := rfl
  rw [e] at h
  injection h with h
  injection h with h
  subst h
  simp

theorem SetOf.congr {D : DataW Unit} {P Q : Int → Prop} (h : SetOf D P) (he : ∀ x, P x ↔ Q x) : SetOf D Q :=
  ⟨h.1, fun x c hx => (h.2 x c hx).trans (he x)⟩

theorem SetOf.none (f : Nat → Int) : SetOf (.map []) (fun x => ∃ j, j < 0 ∧ f j = x) := by
  refine SetOf.empty.congr fun x => ?_
  constructor
  · intro h; cases h
  · rintro ⟨j, hj, _⟩; omega

theorem SetOf.put {D : DataW Unit} {P : Int → Prop} (h : SetOf D P) (n : Int) (hk : WideAt.IsKeyLit (.int .i64 n)) : SetOf (D.put (.int .i64 n) (.lit (.bool true))) (fun x => P x ∨ x = n) := by
  refine ⟨h.1.put _ _, fun x c hx => ?_⟩
  by_cases e : x = n
  · subst e
    rw [Maps.atKey_put_same h.1 hk] at hx
    injection hx with hx
    injection hx with hx
    subst hx
    simp
  · rw [Maps.atKey_put_other (by intro he; injection he with _ he; exact e he)] at hx
    have := h.2 x c hx
    simp [this, e]

end Bw
