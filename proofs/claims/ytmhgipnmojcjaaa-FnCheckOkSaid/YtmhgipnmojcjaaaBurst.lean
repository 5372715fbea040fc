/- Bursts of changes, in plain arithmetic. -/
import Derived.Test.YtmhgipnmojcjaaaCheckPlain
import Derived.Test.YtmhgipnmojcjaaaField

namespace Bw
open Go Go.RowKit

/-- the message, the changed message and the changes, up to k places from 'at' on; 'some' tells a change -/
structure Burst (zs os cs : List Int) (at_ k : Nat) (sm : Bool) : Prop where
  lo : os.length = zs.length
  lc : cs.length = zs.length
  bits : ∀ j, j < zs.length → (nth cs j = 0 ∧ nth os j = nth zs j) ∨ (nth cs j = 1 ∧ nth os j = 1 - nth zs j)
  out : ∀ j, j < zs.length → j < at_ ∨ at_ + k ≤ j → nth cs j = 0
  some : sm = true → ∃ j, j < zs.length ∧ nth cs j = 1

theorem nth_set {zs : List Int} {j i : Nat} {x : Int} (hj : j < zs.length) : nth (zs.set j x) i = if i = j then x else nth zs i := by
  unfold nth
  rw [List.getD_eq_getElem?_getD, List.getD_eq_getElem?_getD, List.getElem?_set]
  by_cases h : j = i
  · subst h; simp [hj]
  · have h' : ¬ i = j := fun e => h e.symm
    simp [h, h']

theorem nth_replicate (n j : Nat) : nth (List.replicate n (0 : Int)) j = 0 := by
  unfold nth
  rw [List.getD_eq_getElem?_getD, List.getElem?_replicate]
  split <;> rfl

theorem Burst.start (zs : List Int) (at_ : Nat) : Burst zs zs (List.replicate zs.length 0) at_ 0 false :=
  ⟨rfl, by simp, fun j _ => .inl ⟨nth_replicate _ _, rfl⟩, fun j _ _ => nth_replicate _ _, fun h => by cases h⟩

theorem Burst.skip {zs os cs : List Int} {at_ k : Nat} {sm : Bool} (h : Burst zs os cs at_ k sm) : Burst zs os cs at_ (k + 1) sm :=
  ⟨h.lo, h.lc, h.bits, fun j hj ho => h.out j hj (by omega), h.some⟩

theorem Burst.take {zs os cs : List Int} {at_ k : Nat} {sm : Bool} (h : Burst zs os cs at_ k sm) (hk : at_ + k < zs.length) :
    Burst zs (os.set (at_ + k) (1 - nth os (at_ + k))) (cs.set (at_ + k) 1) at_ (k + 1) true := by
  have hz := h.out (at_ + k) hk (by omega)
  have ho : nth os (at_ + k) = nth zs (at_ + k) := by
    rcases h.bits _ hk with ⟨_, h2⟩ | ⟨h1, _⟩
    · exact h2
    · rw [hz] at h1; exact absurd h1 (by decide)
  have l1 := h.lo
  have l2 := h.lc
  refine ⟨by simpa using l1, by simpa using l2, fun j hj => ?_, fun j hj hout => ?_, fun _ => ⟨at_ + k, hk, ?_⟩⟩
  · rw [nth_set (by omega), nth_set (by omega)]
    by_cases e : j = at_ + k
    · subst e; simp [ho]
    · simp only [e, if_false]; exact h.bits j hj
  · rw [nth_set (by omega), if_neg (by omega)]
    exact h.out j hj (by omega)
  · rw [nth_set (by omega), if_pos rfl]

theorem Burst.allBits {zs os cs : List Int} {at_ k : Nat} {sm : Bool} (h : Burst zs os cs at_ k sm) (hz : AllBits zs) : AllBits os ∧ AllBits cs := by
  have l1 := h.lo
  have l2 := h.lc
  constructor
  · intro j hj
    have := hz j (by omega)
    rcases h.bits j (by omega) with ⟨_, e⟩ | ⟨_, e⟩ <;> rw [e] <;> omega
  · intro j hj
    rcases h.bits j (by omega) with ⟨e, _⟩ | ⟨e, _⟩ <;> rw [e] <;> omega

/-- the changed message is the sum -/
theorem Burst.val {zs os cs : List Int} {at_ k : Nat} {sm : Bool} (h : Burst zs os cs at_ k sm) (hz : AllBits zs) : ∀ n, n ≤ zs.length → Bw.val os n = Bw.val zs n ^^^ Bw.val cs n
  | 0, _ => by simp [Bw.val]
  | n + 1, hn => by
    have ih := Burst.val h hz n (by omega)
    show 2 * Bw.val os n + (nth os n).toNat = (2 * Bw.val zs n + (nth zs n).toNat) ^^^ (2 * Bw.val cs n + (nth cs n).toNat)
    have key : ∀ (a b c A B C : Nat), a ≤ 1 → b ≤ 1 → c ≤ 1 → a = b ^^^ c → A = B ^^^ C → 2 * A + a = (2 * B + b) ^^^ (2 * C + c) := by
      intro a b c A B C ha hb hc e E
      rw [bit_add_xor ha, bit_add_xor hb, bit_add_xor hc, xor_four, ← xor_two_mul, ← e, ← E]
    rcases hz n (by omega) with z | z <;> rcases h.bits n (by omega) with ⟨c, o⟩ | ⟨c, o⟩ <;> rw [o, c, z] <;> refine key _ _ _ _ _ _ ?_ ?_ ?_ ?_ ih <;> decide

/-- a burst: what the changes come to -/
theorem val_zero {cs : List Int} {a : Nat} (h : ∀ j, j < a → nth cs j = 0) : val cs a = 0 := by
  induction a with
  | zero => rfl
  | succ a ih =>
    unfold val
    rw [ih (fun j hj => h j (by omega)), h a (by omega)]; rfl

theorem val_from {cs : List Int} {a n : Nat} (h0 : ∀ j, j < a → nth cs j = 0) (h : ∀ j, j < a + n → nth cs j = 0 ∨ nth cs j = 1) : val cs (a + n) < 2 ^ n := by
  induction n with
  | zero => rw [Nat.add_zero, val_zero h0]; exact Nat.two_pow_pos _
  | succ n ih =>
    have := ih (fun j hj => h j (by omega))
    have hb := h (a + n) (by omega)
    show 2 * val cs (a + n) + (nth cs (a + n)).toNat < _
    rw [Nat.pow_succ]
    rcases hb with hb | hb <;> rw [hb] <;> simp <;> omega

theorem val_tail {cs : List Int} {a n : Nat} (h : ∀ j, a ≤ j → j < a + n → nth cs j = 0) : val cs (a + n) = val cs a * 2 ^ n := by
  induction n with
  | zero => simp
  | succ n ih =>
    show 2 * val cs (a + n) + (nth cs (a + n)).toNat = _
    rw [ih (fun j h1 h2 => h j h1 (by omega)), h (a + n) (by omega) (by omega), Nat.pow_succ]
    show 2 * (val cs a * 2 ^ n) + 0 = _
    rw [Nat.add_zero, Nat.mul_left_comm, Nat.mul_comm 2]

theorem val_pos {cs : List Int} {n j : Nat} (hj : j < n) (h : nth cs j = 1) : 0 < val cs n := by
  induction n with
  | zero => omega
  | succ n ih =>
    show 0 < 2 * val cs n + (nth cs n).toNat
    by_cases e : j = n
    · subst e; rw [h]; simp
    · have := ih (by omega); omega

theorem twice_pow {p t : Nat} (hp : p % 2 = 1) (p0 : p ≠ 0) : ∀ n, pmod (t * 2 ^ n) p = 0 → pmod t p = 0
  | 0, h => by simpa using h
  | n + 1, h => by
    have e : t * 2 ^ (n + 1) = 2 * (t * 2 ^ n) := by rw [Nat.pow_succ, ← Nat.mul_assoc, Nat.mul_comm 2]
    rw [e] at h
    exact twice_pow hp p0 n (twice_cancel hp p0 h)

/-- the changes are no multiple of a polynomial with the power 0 -/
theorem Burst.rest {zs os cs : List Int} {at_ k : Nat} {sm : Bool} (h : Burst zs os cs at_ k sm) (hs : sm = true) {p : Nat} (hp : p % 2 = 1) (p0 : p ≠ 0) (hk : k ≤ p.log2) (hak : at_ + k ≤ zs.length) :
    pmod (Bw.val cs zs.length * 2 ^ p.log2) p ≠ 0 := by
  intro e
  obtain ⟨j, hj, hj1⟩ := h.some hs
  have hjl : j < at_ + k := by
    rcases Nat.lt_or_ge j (at_ + k) with h' | h'
    · exact h'
    · have := h.out j hj (.inr h'); rw [this] at hj1; exact absurd hj1 (by decide)
  have e1 := twice_pow hp p0 _ e
  have hv : Bw.val cs zs.length = Bw.val cs (at_ + k) * 2 ^ (zs.length - (at_ + k)) := by
    have := val_tail (cs := cs) (a := at_ + k) (n := zs.length - (at_ + k)) (fun j h1 h2 => h.out j (by omega) (.inr h1))
    rwa [Nat.add_sub_cancel' hak] at this
  rw [hv] at e1
  have e2 := twice_pow hp p0 _ e1
  have hlt : Bw.val cs (at_ + k) < 2 ^ k := val_from (fun j hj => h.out j (by omega) (.inl hj)) (fun j hj => by rcases h.bits j (by omega) with ⟨h', _⟩ | ⟨h', _⟩ <;> omega)
  have hle : 2 ^ k ≤ 2 ^ p.log2 := Nat.pow_le_pow_right (by omega) hk
  rw [pmod_small p0 (by omega)] at e2
  have := val_pos hjl hj1
  omega

/-- rests add up -/
theorem Burst.sum {zs os cs : List Int} {at_ k : Nat} {sm : Bool} (h : Burst zs os cs at_ k sm) (hz : AllBits zs) {p : Nat} (p0 : p ≠ 0) :
    pmod (Bw.val os zs.length * 2 ^ p.log2) p = pmod (Bw.val zs zs.length * 2 ^ p.log2) p ^^^ pmod (Bw.val cs zs.length * 2 ^ p.log2) p := by
  rw [h.val hz _ (Nat.le_refl _), ← mul_two_pow, xor_mul, mul_two_pow, mul_two_pow, pmod_xor _ _ p0]

end Bw
