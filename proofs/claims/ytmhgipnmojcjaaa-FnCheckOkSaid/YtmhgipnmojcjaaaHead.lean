/- What the translation's head says, read once: its signs written out, so that the closed facts of the rows are cheap. -/
import Derived.Test.YtmhgipnmojcjaaaRows
import Derived.ProofKit

namespace Go.Proofs.Ytmhgipnmojcjaaa.Head

theorem words_append : ∀ (a r : List Char), (∀ c ∈ a, c ≠ Char.ofNat 32) → wordsSigns (a ++ Char.ofNat 32 :: r) = a :: wordsSigns r
  | [], r, _ => rfl
  | c :: a, r, h => by
    have ih := words_append a r (fun x hx => h x (List.mem_cons_of_mem _ hx))
    have hc : c ≠ Char.ofNat 32 := h c (List.mem_cons_self ..)
    show wordsSigns (c :: (a ++ Char.ofNat 32 :: r)) = _
    rw [wordsSigns.eq_3 _ _ hc, ih]

def word1 : List Char := [104, 97, 114, 110, 101, 115, 115].map Char.ofNat

def word2 : List Char := [52, 49, 51, 53, 50, 53, 101, 102, 51, 100, 102, 48, 102, 50, 102, 54, 99, 51, 97, 57, 54, 51, 101, 53, 51, 102, 49, 49, 97, 56, 98, 48, 56, 100, 101, 52, 53, 49, 51, 55, 53, 49, 52, 50, 53, 102, 48, 99, 55, 55, 50, 97, 100, 97, 52, 100, 98, 102, 97, 53, 55, 97, 99, 49].map Char.ofNat

def word3 : List Char := [99, 117, 116].map Char.ofNat

def others : List Char := [97, 116, 32, 108, 111, 111, 112, 46, 101, 120, 97, 109, 112, 108, 101, 47, 98, 105, 116, 119, 111, 114, 100, 115, 47, 108, 97, 119, 115, 46, 70, 110, 67, 104, 101, 99, 107, 79, 102, 32, 108, 111, 111, 112, 46, 101, 120, 97, 109, 112, 108, 101, 47, 98, 105, 116, 119, 111, 114, 100, 115, 47, 108, 97, 119, 115, 46, 70, 110, 67, 104, 101, 99, 107, 79, 107].map Char.ofNat

theorem order : Try.prog.initOrder = String.ofList (word1 ++ Char.ofNat 32 :: (word2 ++ Char.ofNat 32 :: (word3 ++ Char.ofNat 32 :: others))) := by kernel_rfl

theorem words : wordsSigns Try.prog.initOrder.toList = word1 :: word2 :: word3 :: wordsSigns others := by
  rw [order, String.toList_ofList, words_append word1 _ (by decide +kernel), words_append word2 _ (by decide +kernel), words_append word3 _ (by decide +kernel)]

theorem behind (l : List (List Char)) : behindMainWord (word1 :: word2 :: word3 :: l) = word3 :: l := by kernel_rfl

theorem strip (l : List (List Char)) : stripLifts liftWords (word3 :: l) = ([], word3 :: l) := by kernel_rfl

theorem is_cut : word3 = "cut".toList := by kernel_rfl

theorem make_of (P : Program) (l : List (List Char)) (h : behindMainWord (wordsSigns P.initOrder.toList) = word3 :: l) (h2 : P.headLifts = []) : P.make = some .cut := by
  unfold Program.make
  rw [h, h2]
  kernel_rfl

theorem lifts_of (P : Program) (l : List (List Char)) (h : behindMainWord (wordsSigns P.initOrder.toList) = word3 :: l) (h2 : P.headLifts = []) : P.liftsFinal = false := by
  unfold Program.liftsFinal
  rw [h, h2]
  kernel_rfl

theorem head_of (P : Program) (l : List (List Char)) (h : behindMainWord (wordsSigns P.initOrder.toList) = word3 :: l) : P.headLifts = [] := by
  unfold Program.headLifts
  rw [h, strip]
  kernel_rfl

theorem enter_of (P : Program) (l : List (List Char)) (h : behindMainWord (wordsSigns P.initOrder.toList) = word3 :: l) (h1 : P.laysLater = false) (h2 : P.bearsReflect = false) (h3 : P.doorRows = []) : P.mayEnter = true := by
  unfold Program.mayEnter
  rw [h, h1, h2]
  unfold Program.doorFits
  rw [h3]
  simp only [strip]
  kernel_rfl

theorem behind_it : behindMainWord (wordsSigns Try.prog.initOrder.toList) = word3 :: wordsSigns others := by rw [words, behind]

theorem head_lifts : Try.prog.headLifts = [] := head_of _ _ behind_it

theorem lifts : Try.prog.liftsFinal = false := lifts_of _ _ behind_it head_lifts

theorem made : Try.prog.make = some .cut := make_of _ _ behind_it head_lifts

theorem later : Try.prog.laysLater = false := by kernel_rfl

theorem reflect : Try.prog.bearsReflect = false := by kernel_rfl

theorem rows : Try.prog.doorRows = [] := by kernel_rfl

theorem enter : Try.prog.mayEnter = true := enter_of _ _ behind_it later reflect rows

end Go.Proofs.Ytmhgipnmojcjaaa.Head
