/- The rounds of an order move bits as the order does: plain arithmetic. -/
import Derived.Test.YtbknmokoegembacDoorRndPlain
import Derived.Test.YtbknmokoegembacDoorFnOrdE

namespace Bw
open Go Go.RowKit
set_option linter.unusedVariables false

theorem nth_cx {L : List Int} {k i : Nat} (hk : k + 1 < L.length) : nth (cx L k) i = if nth L (k + 1) < nth L k then (if i = k then nth L (k + 1) else if i = k + 1 then nth L k else nth L i) else nth L i := by
  unfold cx
  split
  · rw [nth_put (by rw [List.length_set]; exact hk), nth_put (by omega)]
    by_cases h1 : i = k + 1
    · subst h1; rw [if_pos rfl, if_neg (by omega), if_pos rfl]
    · rw [if_neg h1]
      by_cases h0 : i = k
      · rw [if_pos h0, if_pos h0]
      · rw [if_neg h0, if_neg h0, if_neg h1]
  · rfl

theorem pl_cx {L : List Int} {k i : Nat} (hk : k + 1 < L.length) : pl (cx L k) i = if nth L (k + 1) < nth L k then (if i = k then pl L (k + 1) else if i = k + 1 then pl L k else pl L i) else pl L i := by
  unfold pl
  rw [nth_cx hk]
  split
  · split
    · rfl
    · split <;> rfl
  · rfl

theorem cx_ok {L : List Int} {k : Nat} (h : OrderOk L) (hk : k + 1 < L.length) : OrderOk (cx L k) := by
  have hlen := cx_length L k
  by_cases hc : nth L (k + 1) < nth L k
  · have e : ∀ i, nth (cx L k) i = nth L (if i = k then k + 1 else if i = k + 1 then k else i) := fun i => by
      rw [nth_cx hk, if_pos hc]
      split
      · rfl
      · split <;> rfl
    have hlt : ∀ i, i < L.length → (if i = k then k + 1 else if i = k + 1 then k else i) < L.length := fun i hi => by split; omega; split <;> omega
    refine ⟨by rw [hlen]; exact h.1, fun j hj => ?_⟩
    rw [hlen] at hj ⊢
    refine ⟨by rw [e j]; exact (h.2 _ (hlt j hj)).1, fun i hi => ?_⟩
    rw [e j, e i]
    have hne := h.pl_ne (hlt i (by omega)) (hlt j hj) (by split <;> split <;> (try split) <;> (try split) <;> omega)
    rw [h.pl_cast (hlt i (by omega)), h.pl_cast (hlt j hj)]
    omega
  · have e : cx L k = L := by unfold cx; rw [if_neg hc]
    rw [e]; exact h

/-- the bits lie where the list says: M holds them at their last places -/
def Lies (M X : Nat) (L : List Int) : Prop := OrderOk L ∧ X < 2 ^ L.length ∧ ∀ i, i < L.length → X.testBit i = M.testBit (pl L i)

theorem Lies.step {M X : Nat} {L : List Int} {k : Nat} (h : Lies M X L) (hk : k + 1 < L.length) : Lies M (if nth L (k + 1) < nth L k then xch X k else X) (cx L k) := by
  obtain ⟨h1, h2, h3⟩ := h
  refine ⟨cx_ok h1 hk, ?_, fun i hi => ?_⟩
  · rw [cx_length]
    split
    · exact xch_lt h2 hk
    · exact h2
  · rw [cx_length] at hi
    rw [pl_cx hk]
    split
    · rw [xch_bit]
      split
      · exact h3 _ hk
      · split
        · exact h3 _ (by omega)
        · exact h3 _ hi
    · exact h3 i hi

theorem rword_bit (l : List Int) (p : Nat) : ∀ j i, (rword l p j).testBit i = true ↔ ∃ t, t < j ∧ i = p + 2 * t ∧ nth (sq l p t) (p + 2 * t + 1) < nth (sq l p t) (p + 2 * t)
  | 0, i => by simp [rword]
  | j + 1, i => by
    have ih := rword_bit l p j i
    have hlt := rword_lt l p j
    rw [rword_succ]
    by_cases hc : nth (sq l p j) (p + 2 * j + 1) < nth (sq l p j) (p + 2 * j)
    · rw [if_pos hc, ← or_bit (testBit_of_lt hlt (Nat.le_refl _)), Nat.testBit_or, Nat.testBit_two_pow, Bool.or_eq_true, ih, decide_eq_true_eq]
      constructor
      · rintro (⟨t, h1, h2, h3⟩ | h)
        · exact ⟨t, by omega, h2, h3⟩
        · exact ⟨j, by omega, h.symm, hc⟩
      · rintro ⟨t, h1, h2, h3⟩
        by_cases e : t = j
        · subst e; exact .inr h2.symm
        · exact .inl ⟨t, by omega, h2, h3⟩
    · rw [if_neg hc, Nat.add_zero, ih]
      constructor
      · rintro ⟨t, h1, h2, h3⟩; exact ⟨t, by omega, h2, h3⟩
      · rintro ⟨t, h1, h2, h3⟩
        by_cases e : t = j
        · subst e; exact absurd h3 hc
        · exact ⟨t, by omega, h2, h3⟩

/-- a round's word, at the place of its t-th exchange -/
theorem rword_at {l : List Int} {p J t : Nat} (ht : t < J) : (rword l p J).testBit (p + 2 * t) = decide (nth (sq l p t) (p + 2 * t + 1) < nth (sq l p t) (p + 2 * t)) := by
  rw [Bool.eq_iff_iff, rword_bit, decide_eq_true_eq]
  constructor
  · rintro ⟨s, h1, h2, h3⟩
    have : s = t := by omega
    subst this; exact h3
  · intro h; exact ⟨t, ht, rfl, h⟩

theorem rword_odd {l : List Int} {p J t : Nat} : (rword l p J).testBit (p + 2 * t + 1) = false := by
  cases h : (rword l p J).testBit (p + 2 * t + 1)
  · rfl
  · obtain ⟨s, h1, h2, h3⟩ := (rword_bit l p J _).1 h; omega

theorem rword_below {l : List Int} {p J i : Nat} (hi : i < p) : (rword l p J).testBit i = false := by
  cases h : (rword l p J).testBit i
  · rfl
  · obtain ⟨s, h1, h2, h3⟩ := (rword_bit l p J _).1 h; omega

theorem rword_rnd (l : List Int) {n p : Nat} (hp : p ≤ 1) (hn : 1 ≤ n) : Rnd n (rword l p ((n - p) / 2)) := by
  have key : ∀ i, n - 1 ≤ i → (rword l p ((n - p) / 2)).testBit i = false := fun i hi => by
    cases h : (rword l p ((n - p) / 2)).testBit i
    · rfl
    · obtain ⟨s, h1, h2, h3⟩ := (rword_bit l p _ _).1 h; omega
  exact ⟨lt_of_bits fun i hi => key i (by omega), key _ (Nat.le_refl _)⟩

theorem xrow_none {x r : Nat} : ∀ {p : Nat}, (∀ i, i < p → r.testBit i = false) → xrow x r p = x
  | 0, _ => rfl
  | p + 1, h => by rw [xrow_succ, h p (by omega), if_neg (by simp)]; exact xrow_none fun i hi => h i (by omega)

/-- one round -/
theorem Lies.row {M X : Nat} {L : List Int} {p : Nat} (h : Lies M X L) (hp : p ≤ 1) : ∀ j, j ≤ (L.length - p) / 2 → Lies M (xrow X (rword L p ((L.length - p) / 2)) (p + 2 * j)) (sq L p j)
  | 0, _ => by
    rw [Nat.mul_zero, Nat.add_zero, xrow_none fun i hi => rword_below hi]; exact h
  | j + 1, hj => by
    have ih := Lies.row h hp j (by omega)
    have hlen := sq_length L p j
    have hst := ih.step (k := p + 2 * j) (by rw [hlen]; omega)
    have e : xrow X (rword L p ((L.length - p) / 2)) (p + 2 * (j + 1)) = if nth (sq L p j) (p + 2 * j + 1) < nth (sq L p j) (p + 2 * j) then xch (xrow X (rword L p ((L.length - p) / 2)) (p + 2 * j)) (p + 2 * j) else xrow X (rword L p ((L.length - p) / 2)) (p + 2 * j) := by
      show xrow X _ (p + 2 * j + 1 + 1) = _
      rw [xrow_succ, rword_odd, if_neg (by simp), xrow_succ, rword_at (by omega)]
      simp only [decide_eq_true_eq]
    rw [e, sq_succ]
    exact hst

theorem Lies.full {M X : Nat} {L : List Int} {p : Nat} (h : Lies M X L) (hp : p ≤ 1) : Lies M (xrow X (rword L p ((L.length - p) / 2)) L.length) (sq L p ((L.length - p) / 2)) := by
  have hn := h.1.1.1
  have hr := rword_rnd L hp hn
  have h1 := h.row hp _ (Nat.le_refl _)
  have e : xrow X (rword L p ((L.length - p) / 2)) L.length = xrow X (rword L p ((L.length - p) / 2)) (p + 2 * ((L.length - p) / 2)) := by
    rw [xrow_last hr (show L.length - 1 ≤ L.length by omega), xrow_last hr (show L.length - 1 ≤ p + 2 * ((L.length - p) / 2) by omega)]
  rw [e]; exact h1

theorem lies_first {zs : List Int} {x : Nat} (h : OrderOk zs) (hx : x < 2 ^ zs.length) : Lies (mv x zs zs.length) x zs :=
  ⟨h, hx, fun i hi => (mv_bit h x hi).symm⟩

theorem roundsOf_pl {l : List Int} {r : Nat} (h : r < l.length) : pl (roundsOf l) r = rword (sqs l r) (r % 2) ((l.length - r % 2) / 2) := by
  unfold pl; rw [roundsOf_nth h]; simp

theorem lies_rounds {zs : List Int} {x : Nat} (h : OrderOk zs) (hx : x < 2 ^ zs.length) : ∀ r, r ≤ zs.length → Lies (mv x zs zs.length) (runs zs.length x (roundsOf zs) r) (sqs zs r)
  | 0, _ => lies_first h hx
  | r + 1, hr => by
    have ih := lies_rounds h hx r (by omega)
    have h1 := ih.full (p := r % 2) (by omega)
    rw [sqs_length] at h1
    rw [runs_succ, roundsOf_pl (by omega), sqs_succ]
    exact h1

theorem sorted_is {L : List Int} (h : OrderOk L) (hs : ∀ k, k + 1 < L.length → nth L k ≤ nth L (k + 1)) : ∀ i, i < L.length → pl L i = i := by
  have hlt : ∀ k, k + 1 < L.length → pl L k < pl L (k + 1) := fun k hk => by
    have h1 := hs k hk
    have h2 := h.pl_ne (show k < L.length by omega) hk (by omega)
    rw [h.pl_cast (by omega), h.pl_cast hk] at h1
    omega
  have hge : ∀ i, i < L.length → i ≤ pl L i := by
    intro i
    induction i with
    | zero => intro _; omega
    | succ i ih => intro hi; have := ih (by omega); have := hlt i hi; omega
  have hle : ∀ d, d < L.length → pl L (L.length - 1 - d) ≤ L.length - 1 - d := by
    intro d
    induction d with
    | zero => intro hd; have := h.pl_lt (show L.length - 1 - 0 < L.length by omega); omega
    | succ d ih =>
      intro hd
      have h1 := ih (by omega)
      have h2 := hlt (L.length - 1 - (d + 1)) (by omega)
      rw [show L.length - 1 - (d + 1) + 1 = L.length - 1 - d by omega] at h2
      omega
  intro i hi
  have h1 := hge i hi
  have h2 := hle (L.length - 1 - i) (by omega)
  rw [show L.length - 1 - (L.length - 1 - i) = i by omega] at h2
  omega

/-- the rounds of an order move bits as the order does -/
theorem rounds_move {zs : List Int} {x : Nat} (h : OrderOk zs) (hx : x < 2 ^ zs.length) : runs zs.length x (roundsOf zs) zs.length = mv x zs zs.length := by
  obtain ⟨h1, h2, h3⟩ := lies_rounds h hx zs.length (Nat.le_refl _)
  have hs := sqs_sorted zs h.1.2
  rw [sqs_length] at h2 h3
  have hp := sorted_is h1 (by rw [sqs_length]; exact hs)
  rw [sqs_length] at hp
  have hm := mv_lt h x (Nat.le_refl zs.length)
  apply Nat.eq_of_testBit_eq
  intro i
  rcases Nat.lt_or_ge i zs.length with hi | hi
  · rw [h3 i hi, hp i hi]
  · rw [testBit_of_lt h2 hi, testBit_of_lt hm hi]

theorem rounds_rnd {zs : List Int} (h : OrderOk zs) {r : Nat} (hr : r < zs.length) : Rnd zs.length (pl (roundsOf zs) r) := by
  rw [roundsOf_pl hr]
  exact rword_rnd _ (by omega) h.1.1

end Bw
