/-
  No cell of these rows narrows 'for every input' (looked for: loops, veiled, ifaces, maps, wideKeys, modest, calm, conditions, laid).
  DERIVED. THE GIVEN ROWS OF THIS SEAT. 6 by the template 'for every input the law returns true; each argument reads behind the call as it read before'; 0 by the template 'total and deterministic' (their statements: YtknchojfhpchiaaTotals.lean).
  GIVEN WITH THE SEED: the statements are not yours to turn. If you find one false, say at which input.
  Laid BY PROGRAM, IN A SANDBOX (cutbox-rows.mjs): the forced cells as the released guide's own fill.sh prints them over the translation 3c9e2234a0c4ec62… (all of the seat's roots in one cut). By AI agents, Wed Nov 11 2026. No macro, syntax, notation, axiom, sorry.
-/
import Derived.Test.YtknchojfhpchiaaChecked
import GoSem.Claim
import GoSem.ClaimJoined
import GoSem.ClaimMapViews
import Derived.JoinedTies
import Derived.KernelRfl
namespace Go.Proofs.Ytknchojfhpchiaa
/- THE CELL 'sum', in the pinned program and in every row, IS THE sha256 OF THE DUMP (.gsa) THAT YtknchojfhpchiaaProg.lean LOADS. Nothing in Lean hashes anything: it is a label: what it is worth is what the hold of that sum in a sandbox is worth. -/
noncomputable def Try.pinned : Pinned := { name := "ytknchojfhpchiaa", sum := "3c9e2234a0c4ec624da86b61e4a479ca69434e11b01b39f89b0f971794758599", checked := Try.checked }
namespace Rows
def none {H : Type} : Left H := { results := [], args := [] }

/-- 'laws.FnExactLanesValid': WHATEVER THE INPUT: true; the input reads as it did. -/
def fnExactLanesValidSpec : ChangeSpec := { name := "fnExactLanesValid", fn := fun _ => fun
  | [d1, d2] => { results := [.lit (.bool true)], args := [d1, d2] }
  | _ => none }
def fnExactLanesValidRow : OpenClaim := { program := "ytknchojfhpchiaa", sum := "3c9e2234a0c4ec624da86b61e4a479ca69434e11b01b39f89b0f971794758599", func := "loop.example/bitwords/laws.FnExactLanesValid", spec := "fnExactLanesValid", apart := false }
def FnExactLanesValidSaid : Prop := fnExactLanesValidRow.holds Try.pinned (OpenSpec.ofChange fnExactLanesValidSpec)

/-- ITS FALSE NEIGHBOUR: 'it returns false'. Refute it at one input. -/
def fnExactLanesValidWrong : ChangeSpec := { name := "fnExactLanesValid", fn := fun _ => fun
  | [d1, d2] => { results := [.lit (.bool false)], args := [d1, d2] }
  | _ => none }
def FnExactLanesValidWrongFalsely : Prop := fnExactLanesValidRow.holds Try.pinned (OpenSpec.ofChange fnExactLanesValidWrong)

/-- 'laws.FnExactMaskOf': WHATEVER THE INPUT: true; the input reads as it did. -/
def fnExactMaskOfSpec : ChangeSpec := { name := "fnExactMaskOf", fn := fun _ => fun
  | [d1, d2] => { results := [.lit (.bool true)], args := [d1, d2] }
  | _ => none }
def fnExactMaskOfRow : OpenClaim := { program := "ytknchojfhpchiaa", sum := "3c9e2234a0c4ec624da86b61e4a479ca69434e11b01b39f89b0f971794758599", func := "loop.example/bitwords/laws.FnExactMaskOf", spec := "fnExactMaskOf", apart := false }
def FnExactMaskOfSaid : Prop := fnExactMaskOfRow.holds Try.pinned (OpenSpec.ofChange fnExactMaskOfSpec)

/-- ITS FALSE NEIGHBOUR: 'it returns false'. Refute it at one input. -/
def fnExactMaskOfWrong : ChangeSpec := { name := "fnExactMaskOf", fn := fun _ => fun
  | [d1, d2] => { results := [.lit (.bool false)], args := [d1, d2] }
  | _ => none }
def FnExactMaskOfWrongFalsely : Prop := fnExactMaskOfRow.holds Try.pinned (OpenSpec.ofChange fnExactMaskOfWrong)

/-- 'laws.FnExactTopsOf': WHATEVER THE INPUT: true; the input reads as it did. -/
def fnExactTopsOfSpec : ChangeSpec := { name := "fnExactTopsOf", fn := fun _ => fun
  | [d1, d2] => { results := [.lit (.bool true)], args := [d1, d2] }
  | _ => none }
def fnExactTopsOfRow : OpenClaim := { program := "ytknchojfhpchiaa", sum := "3c9e2234a0c4ec624da86b61e4a479ca69434e11b01b39f89b0f971794758599", func := "loop.example/bitwords/laws.FnExactTopsOf", spec := "fnExactTopsOf", unfollowed := true, recurses := true, apart := false }
def FnExactTopsOfSaid : Prop := fnExactTopsOfRow.holds Try.pinned (OpenSpec.ofChange fnExactTopsOfSpec)

/-- ITS FALSE NEIGHBOUR: 'it returns false'. Refute it at one input. -/
def fnExactTopsOfWrong : ChangeSpec := { name := "fnExactTopsOf", fn := fun _ => fun
  | [d1, d2] => { results := [.lit (.bool false)], args := [d1, d2] }
  | _ => none }
def FnExactTopsOfWrongFalsely : Prop := fnExactTopsOfRow.holds Try.pinned (OpenSpec.ofChange fnExactTopsOfWrong)

/-- 'laws.FnExactReverse': WHATEVER THE INPUT: true; the input reads as it did. -/
def fnExactReverseSpec : ChangeSpec := { name := "fnExactReverse", fn := fun _ => fun
  | [d1, d2] => { results := [.lit (.bool true)], args := [d1, d2] }
  | _ => none }
def fnExactReverseRow : OpenClaim := { program := "ytknchojfhpchiaa", sum := "3c9e2234a0c4ec624da86b61e4a479ca69434e11b01b39f89b0f971794758599", func := "loop.example/bitwords/laws.FnExactReverse", spec := "fnExactReverse", unfollowed := true, recurses := true, apart := false }
def FnExactReverseSaid : Prop := fnExactReverseRow.holds Try.pinned (OpenSpec.ofChange fnExactReverseSpec)

/-- ITS FALSE NEIGHBOUR: 'it returns false'. Refute it at one input. -/
def fnExactReverseWrong : ChangeSpec := { name := "fnExactReverse", fn := fun _ => fun
  | [d1, d2] => { results := [.lit (.bool false)], args := [d1, d2] }
  | _ => none }
def FnExactReverseWrongFalsely : Prop := fnExactReverseRow.holds Try.pinned (OpenSpec.ofChange fnExactReverseWrong)

/-- 'laws.FnExactMeanDown': WHATEVER THE INPUT: true; the input reads as it did. -/
def fnExactMeanDownSpec : ChangeSpec := { name := "fnExactMeanDown", fn := fun _ => fun
  | [d1, d2, d3] => { results := [.lit (.bool true)], args := [d1, d2, d3] }
  | _ => none }
def fnExactMeanDownRow : OpenClaim := { program := "ytknchojfhpchiaa", sum := "3c9e2234a0c4ec624da86b61e4a479ca69434e11b01b39f89b0f971794758599", func := "loop.example/bitwords/laws.FnExactMeanDown", spec := "fnExactMeanDown", unfollowed := true, recurses := true, apart := false }
def FnExactMeanDownSaid : Prop := fnExactMeanDownRow.holds Try.pinned (OpenSpec.ofChange fnExactMeanDownSpec)

/-- ITS FALSE NEIGHBOUR: 'it returns false'. Refute it at one input. -/
def fnExactMeanDownWrong : ChangeSpec := { name := "fnExactMeanDown", fn := fun _ => fun
  | [d1, d2, d3] => { results := [.lit (.bool false)], args := [d1, d2, d3] }
  | _ => none }
def FnExactMeanDownWrongFalsely : Prop := fnExactMeanDownRow.holds Try.pinned (OpenSpec.ofChange fnExactMeanDownWrong)

/-- 'laws.FnExactReverseByHalves': WHATEVER THE INPUT: true; the input reads as it did. -/
def fnExactReverseByHalvesSpec : ChangeSpec := { name := "fnExactReverseByHalves", fn := fun _ => fun
  | [d] => { results := [.lit (.bool true)], args := [d] }
  | _ => none }
def fnExactReverseByHalvesRow : OpenClaim := { program := "ytknchojfhpchiaa", sum := "3c9e2234a0c4ec624da86b61e4a479ca69434e11b01b39f89b0f971794758599", func := "loop.example/bitwords/laws.FnExactReverseByHalves", spec := "fnExactReverseByHalves", unfollowed := true, recurses := true, apart := false }
def FnExactReverseByHalvesSaid : Prop := fnExactReverseByHalvesRow.holds Try.pinned (OpenSpec.ofChange fnExactReverseByHalvesSpec)

/-- ITS FALSE NEIGHBOUR: 'it returns false'. Refute it at one input. -/
def fnExactReverseByHalvesWrong : ChangeSpec := { name := "fnExactReverseByHalves", fn := fun _ => fun
  | [d] => { results := [.lit (.bool false)], args := [d] }
  | _ => none }
def FnExactReverseByHalvesWrongFalsely : Prop := fnExactReverseByHalvesRow.holds Try.pinned (OpenSpec.ofChange fnExactReverseByHalvesWrong)

/- THE SECOND FORM. 'bulk': how many values and letters a reading holds, each counted each time it is reached (what is shared counts as often as it is met; a slice's spare places count too). A statement '..UptoSaid' is the law's where the arguments, and the package variables that the reading takes, are together of bulk at most 1048576: NARROWER than '..Said'. Prove '..Said' where nothing that the law and all that it calls make is longer than what came in: it says more and counts as full. Else prove '..UptoSaid'. A law counts once. -/
mutual
def uptoBulk {H : Type} : DataW H → Nat
  | .lit (.string bytes) => bytes.length + 1
  | .lit _ => 1
  | .nil => 1
  | .ptr d => uptoBulk d + 1
  | .slice elems spare => uptoBulkAll elems + uptoBulkAll spare + 1
  | .agg parts => uptoBulkAll parts + 1
  | .iface _ d => uptoBulk d + 1
  | .map entries => uptoBulkEntries entries + 1
  | .held _ => 1
def uptoBulkAll {H : Type} : List (DataW H) → Nat
  | [] => 0
  | d :: r => uptoBulk d + uptoBulkAll r
def uptoBulkEntries {H : Type} : List (Lit × DataW H) → Nat
  | [] => 0
  | x :: r => uptoBulkEntry x + uptoBulkEntries r
def uptoBulkEntry {H : Type} : Lit × DataW H → Nat
  | (.string bytes, d) => bytes.length + uptoBulk d + 1
  | (_, d) => uptoBulk d + 1
 end
def uptoSmall : (H : Type) → List (DataW H) → Bool := fun _ ds => decide (uptoBulkAll ds ≤ 1048576)
def OpenSpec.upto (s : _root_.Go.ChangeSpec) : _root_.Go.OpenSpec := { _root_.Go.OpenSpec.ofChange s with cond := some uptoSmall }

/-- 'laws.FnExactLanesValid', WHERE WHAT IT READS IS OF BULK AT MOST 1048576: true; the input reads as it did. -/
def fnExactLanesValidUptoRow : OpenClaim := { program := "ytknchojfhpchiaa", sum := "3c9e2234a0c4ec624da86b61e4a479ca69434e11b01b39f89b0f971794758599", func := "loop.example/bitwords/laws.FnExactLanesValid", spec := "fnExactLanesValid", apart := false, narrowed := true }
def FnExactLanesValidUptoSaid : Prop := fnExactLanesValidUptoRow.holds Try.pinned (OpenSpec.upto fnExactLanesValidSpec)

/-- 'laws.FnExactMaskOf', WHERE WHAT IT READS IS OF BULK AT MOST 1048576: true; the input reads as it did. -/
def fnExactMaskOfUptoRow : OpenClaim := { program := "ytknchojfhpchiaa", sum := "3c9e2234a0c4ec624da86b61e4a479ca69434e11b01b39f89b0f971794758599", func := "loop.example/bitwords/laws.FnExactMaskOf", spec := "fnExactMaskOf", apart := false, narrowed := true }
def FnExactMaskOfUptoSaid : Prop := fnExactMaskOfUptoRow.holds Try.pinned (OpenSpec.upto fnExactMaskOfSpec)

/-- 'laws.FnExactTopsOf', WHERE WHAT IT READS IS OF BULK AT MOST 1048576: true; the input reads as it did. -/
def fnExactTopsOfUptoRow : OpenClaim := { program := "ytknchojfhpchiaa", sum := "3c9e2234a0c4ec624da86b61e4a479ca69434e11b01b39f89b0f971794758599", func := "loop.example/bitwords/laws.FnExactTopsOf", spec := "fnExactTopsOf", unfollowed := true, recurses := true, apart := false, narrowed := true }
def FnExactTopsOfUptoSaid : Prop := fnExactTopsOfUptoRow.holds Try.pinned (OpenSpec.upto fnExactTopsOfSpec)

/-- 'laws.FnExactReverse', WHERE WHAT IT READS IS OF BULK AT MOST 1048576: true; the input reads as it did. -/
def fnExactReverseUptoRow : OpenClaim := { program := "ytknchojfhpchiaa", sum := "3c9e2234a0c4ec624da86b61e4a479ca69434e11b01b39f89b0f971794758599", func := "loop.example/bitwords/laws.FnExactReverse", spec := "fnExactReverse", unfollowed := true, recurses := true, apart := false, narrowed := true }
def FnExactReverseUptoSaid : Prop := fnExactReverseUptoRow.holds Try.pinned (OpenSpec.upto fnExactReverseSpec)

/-- 'laws.FnExactMeanDown', WHERE WHAT IT READS IS OF BULK AT MOST 1048576: true; the input reads as it did. -/
def fnExactMeanDownUptoRow : OpenClaim := { program := "ytknchojfhpchiaa", sum := "3c9e2234a0c4ec624da86b61e4a479ca69434e11b01b39f89b0f971794758599", func := "loop.example/bitwords/laws.FnExactMeanDown", spec := "fnExactMeanDown", unfollowed := true, recurses := true, apart := false, narrowed := true }
def FnExactMeanDownUptoSaid : Prop := fnExactMeanDownUptoRow.holds Try.pinned (OpenSpec.upto fnExactMeanDownSpec)

/-- 'laws.FnExactReverseByHalves', WHERE WHAT IT READS IS OF BULK AT MOST 1048576: true; the input reads as it did. -/
def fnExactReverseByHalvesUptoRow : OpenClaim := { program := "ytknchojfhpchiaa", sum := "3c9e2234a0c4ec624da86b61e4a479ca69434e11b01b39f89b0f971794758599", func := "loop.example/bitwords/laws.FnExactReverseByHalves", spec := "fnExactReverseByHalves", unfollowed := true, recurses := true, apart := false, narrowed := true }
def FnExactReverseByHalvesUptoSaid : Prop := fnExactReverseByHalvesUptoRow.holds Try.pinned (OpenSpec.upto fnExactReverseByHalvesSpec)

end Rows
end Go.Proofs.Ytknchojfhpchiaa
