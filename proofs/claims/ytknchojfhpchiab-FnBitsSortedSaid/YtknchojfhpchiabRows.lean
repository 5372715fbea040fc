/-
  No cell of these rows narrows 'for every input' (looked for: loops, veiled, ifaces, maps, wideKeys, modest, calm, conditions, laid).
  DERIVED. THE GIVEN ROWS OF THIS SEAT. 6 by the template 'for every input the law returns true; each argument reads behind the call as it read before'; 0 by the template 'total and deterministic' (their statements: YtknchojfhpchiabTotals.lean).
  GIVEN WITH THE SEED: the statements are not yours to turn. If you find one false, say at which input.
  Laid BY PROGRAM, IN A SANDBOX (cutbox-rows.mjs): the forced cells as the released guide's own fill.sh prints them over the translation badd6faa78faa836… (all of the seat's roots in one cut). By AI agents, Wed Nov 11 2026. No macro, syntax, notation, axiom, sorry.
-/
import Derived.Test.YtknchojfhpchiabChecked
import GoSem.Claim
import GoSem.ClaimJoined
import GoSem.ClaimMapViews
import Derived.JoinedTies
import Derived.KernelRfl
namespace Go.Proofs.Ytknchojfhpchiab
/- THE CELL 'sum', in the pinned program and in every row, IS THE sha256 OF THE DUMP (.gsa) THAT YtknchojfhpchiabProg.lean LOADS. Nothing in Lean hashes anything: it is a label: what it is worth is what the hold of that sum in a sandbox is worth. -/
noncomputable def Try.pinned : Pinned := { name := "ytknchojfhpchiab", sum := "badd6faa78faa8362e1375c0effba728aa7812b0cddf1a5d5c3d74129b39725f", checked := Try.checked }
namespace Rows
def none {H : Type} : Left H := { results := [], args := [] }

/-- 'laws.FnExactMeanUp': WHATEVER THE INPUT: true; the input reads as it did. -/
def fnExactMeanUpSpec : ChangeSpec := { name := "fnExactMeanUp", fn := fun _ => fun
  | [d1, d2, d3] => { results := [.lit (.bool true)], args := [d1, d2, d3] }
  | _ => none }
def fnExactMeanUpRow : OpenClaim := { program := "ytknchojfhpchiab", sum := "badd6faa78faa8362e1375c0effba728aa7812b0cddf1a5d5c3d74129b39725f", func := "loop.example/bitwords/laws.FnExactMeanUp", spec := "fnExactMeanUp", unfollowed := true, recurses := true, apart := false }
def FnExactMeanUpSaid : Prop := fnExactMeanUpRow.holds Try.pinned (OpenSpec.ofChange fnExactMeanUpSpec)

/-- ITS FALSE NEIGHBOUR: 'it returns false'. Refute it at one input. -/
def fnExactMeanUpWrong : ChangeSpec := { name := "fnExactMeanUp", fn := fun _ => fun
  | [d1, d2, d3] => { results := [.lit (.bool false)], args := [d1, d2, d3] }
  | _ => none }
def FnExactMeanUpWrongFalsely : Prop := fnExactMeanUpRow.holds Try.pinned (OpenSpec.ofChange fnExactMeanUpWrong)

/-- 'laws.FnExactBitsSorted': WHATEVER THE INPUT: true; the input reads as it did. -/
def fnExactBitsSortedSpec : ChangeSpec := { name := "fnExactBitsSorted", fn := fun _ => fun
  | [d1, d2] => { results := [.lit (.bool true)], args := [d1, d2] }
  | _ => none }
def fnExactBitsSortedRow : OpenClaim := { program := "ytknchojfhpchiab", sum := "badd6faa78faa8362e1375c0effba728aa7812b0cddf1a5d5c3d74129b39725f", func := "loop.example/bitwords/laws.FnExactBitsSorted", spec := "fnExactBitsSorted", unfollowed := true, recurses := true, apart := false }
def FnExactBitsSortedSaid : Prop := fnExactBitsSortedRow.holds Try.pinned (OpenSpec.ofChange fnExactBitsSortedSpec)

/-- ITS FALSE NEIGHBOUR: 'it returns false'. Refute it at one input. -/
def fnExactBitsSortedWrong : ChangeSpec := { name := "fnExactBitsSorted", fn := fun _ => fun
  | [d1, d2] => { results := [.lit (.bool false)], args := [d1, d2] }
  | _ => none }
def FnExactBitsSortedWrongFalsely : Prop := fnExactBitsSortedRow.holds Try.pinned (OpenSpec.ofChange fnExactBitsSortedWrong)

/-- 'laws.FnReverseByHalves': WHATEVER THE INPUT: true; the input reads as it did. -/
def fnReverseByHalvesSpec : ChangeSpec := { name := "fnReverseByHalves", fn := fun _ => fun
  | [d] => { results := [.lit (.bool true)], args := [d] }
  | _ => none }
def fnReverseByHalvesRow : OpenClaim := { program := "ytknchojfhpchiab", sum := "badd6faa78faa8362e1375c0effba728aa7812b0cddf1a5d5c3d74129b39725f", func := "loop.example/bitwords/laws.FnReverseByHalves", spec := "fnReverseByHalves", unfollowed := true, recurses := true, apart := false }
def FnReverseByHalvesSaid : Prop := fnReverseByHalvesRow.holds Try.pinned (OpenSpec.ofChange fnReverseByHalvesSpec)

/-- ITS FALSE NEIGHBOUR: 'it returns false'. Refute it at one input. -/
def fnReverseByHalvesWrong : ChangeSpec := { name := "fnReverseByHalves", fn := fun _ => fun
  | [d] => { results := [.lit (.bool false)], args := [d] }
  | _ => none }
def FnReverseByHalvesWrongFalsely : Prop := fnReverseByHalvesRow.holds Try.pinned (OpenSpec.ofChange fnReverseByHalvesWrong)

/-- 'laws.FnBitsSorted': WHATEVER THE INPUT: true; the input reads as it did. -/
def fnBitsSortedSpec : ChangeSpec := { name := "fnBitsSorted", fn := fun _ => fun
  | [d] => { results := [.lit (.bool true)], args := [d] }
  | _ => none }
def fnBitsSortedRow : OpenClaim := { program := "ytknchojfhpchiab", sum := "badd6faa78faa8362e1375c0effba728aa7812b0cddf1a5d5c3d74129b39725f", func := "loop.example/bitwords/laws.FnBitsSorted", spec := "fnBitsSorted", unfollowed := true, recurses := true, apart := false }
def FnBitsSortedSaid : Prop := fnBitsSortedRow.holds Try.pinned (OpenSpec.ofChange fnBitsSortedSpec)

/-- ITS FALSE NEIGHBOUR: 'it returns false'. Refute it at one input. -/
def fnBitsSortedWrong : ChangeSpec := { name := "fnBitsSorted", fn := fun _ => fun
  | [d] => { results := [.lit (.bool false)], args := [d] }
  | _ => none }
def FnBitsSortedWrongFalsely : Prop := fnBitsSortedRow.holds Try.pinned (OpenSpec.ofChange fnBitsSortedWrong)

/-- 'laws.FnExactOrderValid': WHATEVER THE INPUT: true; the input reads as it did. -/
def fnExactOrderValidSpec : ChangeSpec := { name := "fnExactOrderValid", fn := fun _ => fun
  | [d] => { results := [.lit (.bool true)], args := [d] }
  | _ => none }
def fnExactOrderValidRow : OpenClaim := { program := "ytknchojfhpchiab", sum := "badd6faa78faa8362e1375c0effba728aa7812b0cddf1a5d5c3d74129b39725f", func := "loop.example/bitwords/laws.FnExactOrderValid", spec := "fnExactOrderValid", apart := false }
def FnExactOrderValidSaid : Prop := fnExactOrderValidRow.holds Try.pinned (OpenSpec.ofChange fnExactOrderValidSpec)

/-- ITS FALSE NEIGHBOUR: 'it returns false'. Refute it at one input. -/
def fnExactOrderValidWrong : ChangeSpec := { name := "fnExactOrderValid", fn := fun _ => fun
  | [d] => { results := [.lit (.bool false)], args := [d] }
  | _ => none }
def FnExactOrderValidWrongFalsely : Prop := fnExactOrderValidRow.holds Try.pinned (OpenSpec.ofChange fnExactOrderValidWrong)

/-- 'laws.FnExactOrderThen': WHATEVER THE INPUT: true; the input reads as it did. -/
def fnExactOrderThenSpec : ChangeSpec := { name := "fnExactOrderThen", fn := fun _ => fun
  | [d1, d2] => { results := [.lit (.bool true)], args := [d1, d2] }
  | _ => none }
def fnExactOrderThenRow : OpenClaim := { program := "ytknchojfhpchiab", sum := "badd6faa78faa8362e1375c0effba728aa7812b0cddf1a5d5c3d74129b39725f", func := "loop.example/bitwords/laws.FnExactOrderThen", spec := "fnExactOrderThen", apart := false }
def FnExactOrderThenSaid : Prop := fnExactOrderThenRow.holds Try.pinned (OpenSpec.ofChange fnExactOrderThenSpec)

/-- ITS FALSE NEIGHBOUR: 'it returns false'. Refute it at one input. -/
def fnExactOrderThenWrong : ChangeSpec := { name := "fnExactOrderThen", fn := fun _ => fun
  | [d1, d2] => { results := [.lit (.bool false)], args := [d1, d2] }
  | _ => none }
def FnExactOrderThenWrongFalsely : Prop := fnExactOrderThenRow.holds Try.pinned (OpenSpec.ofChange fnExactOrderThenWrong)

/- THE SECOND FORM. 'bulk': how many values and letters a reading holds, each counted each time it is reached (what is shared counts as often as it is met; a slice's spare places count too). A statement '..UptoSaid' is the law's where the arguments, and the package variables that the reading takes, are together of bulk at most 1048576: NARROWER than '..Said'. Prove '..Said' where nothing that the law and all that it calls make is longer than what came in: it says more and counts as full. Else prove '..UptoSaid'. A law counts once. -/
mutual
def uptoBulk {H : Type} : DataW H → Nat
  | .lit (.string bytes) => bytes.length + 1
  | .lit _ => 1
  | .nil => 1
  | .ptr d => uptoBulk d + 1
  | .slice elems spare => uptoBulkAll elems + uptoBulkAll spare + 1
  | .agg parts => uptoBulkAll parts + 1
  | .iface _ d => uptoBulk d + 1
  | .map entries => uptoBulkEntries entries + 1
  | .held _ => 1
def uptoBulkAll {H : Type} : List (DataW H) → Nat
  | [] => 0
  | d :: r => uptoBulk d + uptoBulkAll r
def uptoBulkEntries {H : Type} : List (Lit × DataW H) → Nat
  | [] => 0
  | x :: r => uptoBulkEntry x + uptoBulkEntries r
def uptoBulkEntry {H : Type} : Lit × DataW H → Nat
  | (.string bytes, d) => bytes.length + uptoBulk d + 1
  | (_, d) => uptoBulk d + 1
 end
def uptoSmall : (H : Type) → List (DataW H) → Bool := fun _ ds => decide (uptoBulkAll ds ≤ 1048576)
def OpenSpec.upto (s : _root_.Go.ChangeSpec) : _root_.Go.OpenSpec := { _root_.Go.OpenSpec.ofChange s with cond := some uptoSmall }

/-- 'laws.FnExactMeanUp', WHERE WHAT IT READS IS OF BULK AT MOST 1048576: true; the input reads as it did. -/
def fnExactMeanUpUptoRow : OpenClaim := { program := "ytknchojfhpchiab", sum := "badd6faa78faa8362e1375c0effba728aa7812b0cddf1a5d5c3d74129b39725f", func := "loop.example/bitwords/laws.FnExactMeanUp", spec := "fnExactMeanUp", unfollowed := true, recurses := true, apart := false, narrowed := true }
def FnExactMeanUpUptoSaid : Prop := fnExactMeanUpUptoRow.holds Try.pinned (OpenSpec.upto fnExactMeanUpSpec)

/-- 'laws.FnExactBitsSorted', WHERE WHAT IT READS IS OF BULK AT MOST 1048576: true; the input reads as it did. -/
def fnExactBitsSortedUptoRow : OpenClaim := { program := "ytknchojfhpchiab", sum := "badd6faa78faa8362e1375c0effba728aa7812b0cddf1a5d5c3d74129b39725f", func := "loop.example/bitwords/laws.FnExactBitsSorted", spec := "fnExactBitsSorted", unfollowed := true, recurses := true, apart := false, narrowed := true }
def FnExactBitsSortedUptoSaid : Prop := fnExactBitsSortedUptoRow.holds Try.pinned (OpenSpec.upto fnExactBitsSortedSpec)

/-- 'laws.FnReverseByHalves', WHERE WHAT IT READS IS OF BULK AT MOST 1048576: true; the input reads as it did. -/
def fnReverseByHalvesUptoRow : OpenClaim := { program := "ytknchojfhpchiab", sum := "badd6faa78faa8362e1375c0effba728aa7812b0cddf1a5d5c3d74129b39725f", func := "loop.example/bitwords/laws.FnReverseByHalves", spec := "fnReverseByHalves", unfollowed := true, recurses := true, apart := false, narrowed := true }
def FnReverseByHalvesUptoSaid : Prop := fnReverseByHalvesUptoRow.holds Try.pinned (OpenSpec.upto fnReverseByHalvesSpec)

/-- 'laws.FnBitsSorted', WHERE WHAT IT READS IS OF BULK AT MOST 1048576: true; the input reads as it did. -/
def fnBitsSortedUptoRow : OpenClaim := { program := "ytknchojfhpchiab", sum := "badd6faa78faa8362e1375c0effba728aa7812b0cddf1a5d5c3d74129b39725f", func := "loop.example/bitwords/laws.FnBitsSorted", spec := "fnBitsSorted", unfollowed := true, recurses := true, apart := false, narrowed := true }
def FnBitsSortedUptoSaid : Prop := fnBitsSortedUptoRow.holds Try.pinned (OpenSpec.upto fnBitsSortedSpec)

/-- 'laws.FnExactOrderValid', WHERE WHAT IT READS IS OF BULK AT MOST 1048576: true; the input reads as it did. -/
def fnExactOrderValidUptoRow : OpenClaim := { program := "ytknchojfhpchiab", sum := "badd6faa78faa8362e1375c0effba728aa7812b0cddf1a5d5c3d74129b39725f", func := "loop.example/bitwords/laws.FnExactOrderValid", spec := "fnExactOrderValid", apart := false, narrowed := true }
def FnExactOrderValidUptoSaid : Prop := fnExactOrderValidUptoRow.holds Try.pinned (OpenSpec.upto fnExactOrderValidSpec)

/-- 'laws.FnExactOrderThen', WHERE WHAT IT READS IS OF BULK AT MOST 1048576: true; the input reads as it did. -/
def fnExactOrderThenUptoRow : OpenClaim := { program := "ytknchojfhpchiab", sum := "badd6faa78faa8362e1375c0effba728aa7812b0cddf1a5d5c3d74129b39725f", func := "loop.example/bitwords/laws.FnExactOrderThen", spec := "fnExactOrderThen", apart := false, narrowed := true }
def FnExactOrderThenUptoSaid : Prop := fnExactOrderThenUptoRow.holds Try.pinned (OpenSpec.upto fnExactOrderThenSpec)

end Rows
end Go.Proofs.Ytknchojfhpchiab
