/-
  No cell of these rows narrows 'for every input' (looked for: loops, veiled, ifaces, maps, wideKeys, modest, calm, conditions, laid).
  DERIVED. THE GIVEN ROWS OF THIS SEAT. 6 by the template 'for every input the law returns true; each argument reads behind the call as it read before'; 0 by the template 'total and deterministic' (their statements: YtknchojfhpchiacTotals.lean).
  GIVEN WITH THE SEED: the statements are not yours to turn. If you find one false, say at which input.
  Laid BY PROGRAM, IN A SANDBOX (cutbox-rows.mjs): the forced cells as the released guide's own fill.sh prints them over the translation 2b2586def983b973… (all of the seat's roots in one cut). By AI agents, Wed Nov 11 2026. No macro, syntax, notation, axiom, sorry.
-/
import Derived.Test.YtknchojfhpchiacChecked
import GoSem.Claim
import GoSem.ClaimJoined
import GoSem.ClaimMapViews
import Derived.JoinedTies
import Derived.KernelRfl
namespace Go.Proofs.Ytknchojfhpchiac
/- THE CELL 'sum', in the pinned program and in every row, IS THE sha256 OF THE DUMP (.gsa) THAT YtknchojfhpchiacProg.lean LOADS. Nothing in Lean hashes anything: it is a label: what it is worth is what the hold of that sum in a sandbox is worth. -/
noncomputable def Try.pinned : Pinned := { name := "ytknchojfhpchiac", sum := "2b2586def983b97398868f566a83c41e383f78a331a03b1a8e8b4eee8b7db7a8", checked := Try.checked }
namespace Rows
def none {H : Type} : Left H := { results := [], args := [] }

/-- 'laws.FnExactBitsMoved': WHATEVER THE INPUT: true; the input reads as it did. -/
def fnExactBitsMovedSpec : ChangeSpec := { name := "fnExactBitsMoved", fn := fun _ => fun
  | [d1, d2] => { results := [.lit (.bool true)], args := [d1, d2] }
  | _ => none }
def fnExactBitsMovedRow : OpenClaim := { program := "ytknchojfhpchiac", sum := "2b2586def983b97398868f566a83c41e383f78a331a03b1a8e8b4eee8b7db7a8", func := "loop.example/bitwords/laws.FnExactBitsMoved", spec := "fnExactBitsMoved", apart := false }
def FnExactBitsMovedSaid : Prop := fnExactBitsMovedRow.holds Try.pinned (OpenSpec.ofChange fnExactBitsMovedSpec)

/-- ITS FALSE NEIGHBOUR: 'it returns false'. Refute it at one input. -/
def fnExactBitsMovedWrong : ChangeSpec := { name := "fnExactBitsMoved", fn := fun _ => fun
  | [d1, d2] => { results := [.lit (.bool false)], args := [d1, d2] }
  | _ => none }
def FnExactBitsMovedWrongFalsely : Prop := fnExactBitsMovedRow.holds Try.pinned (OpenSpec.ofChange fnExactBitsMovedWrong)

/-- 'laws.FnExactOrderBack': WHATEVER THE INPUT: true; the input reads as it did. -/
def fnExactOrderBackSpec : ChangeSpec := { name := "fnExactOrderBack", fn := fun _ => fun
  | [d] => { results := [.lit (.bool true)], args := [d] }
  | _ => none }
def fnExactOrderBackRow : OpenClaim := { program := "ytknchojfhpchiac", sum := "2b2586def983b97398868f566a83c41e383f78a331a03b1a8e8b4eee8b7db7a8", func := "loop.example/bitwords/laws.FnExactOrderBack", spec := "fnExactOrderBack", apart := false }
def FnExactOrderBackSaid : Prop := fnExactOrderBackRow.holds Try.pinned (OpenSpec.ofChange fnExactOrderBackSpec)

/-- ITS FALSE NEIGHBOUR: 'it returns false'. Refute it at one input. -/
def fnExactOrderBackWrong : ChangeSpec := { name := "fnExactOrderBack", fn := fun _ => fun
  | [d] => { results := [.lit (.bool false)], args := [d] }
  | _ => none }
def FnExactOrderBackWrongFalsely : Prop := fnExactOrderBackRow.holds Try.pinned (OpenSpec.ofChange fnExactOrderBackWrong)

/-- 'laws.FnExactRoundsOf': WHATEVER THE INPUT: true; the input reads as it did. -/
def fnExactRoundsOfSpec : ChangeSpec := { name := "fnExactRoundsOf", fn := fun _ => fun
  | [d] => { results := [.lit (.bool true)], args := [d] }
  | _ => none }
def fnExactRoundsOfRow : OpenClaim := { program := "ytknchojfhpchiac", sum := "2b2586def983b97398868f566a83c41e383f78a331a03b1a8e8b4eee8b7db7a8", func := "loop.example/bitwords/laws.FnExactRoundsOf", spec := "fnExactRoundsOf", apart := false }
def FnExactRoundsOfSaid : Prop := fnExactRoundsOfRow.holds Try.pinned (OpenSpec.ofChange fnExactRoundsOfSpec)

/-- ITS FALSE NEIGHBOUR: 'it returns false'. Refute it at one input. -/
def fnExactRoundsOfWrong : ChangeSpec := { name := "fnExactRoundsOf", fn := fun _ => fun
  | [d] => { results := [.lit (.bool false)], args := [d] }
  | _ => none }
def FnExactRoundsOfWrongFalsely : Prop := fnExactRoundsOfRow.holds Try.pinned (OpenSpec.ofChange fnExactRoundsOfWrong)

/-- 'laws.FnOrderValid': WHATEVER THE INPUT: true; the input reads as it did. -/
def fnOrderValidSpec : ChangeSpec := { name := "fnOrderValid", fn := fun _ => fun
  | [d] => { results := [.lit (.bool true)], args := [d] }
  | _ => none }
def fnOrderValidRow : OpenClaim := { program := "ytknchojfhpchiac", sum := "2b2586def983b97398868f566a83c41e383f78a331a03b1a8e8b4eee8b7db7a8", func := "loop.example/bitwords/laws.FnOrderValid", spec := "fnOrderValid", unfollowed := true, recurses := true, apart := false }
def FnOrderValidSaid : Prop := fnOrderValidRow.holds Try.pinned (OpenSpec.ofChange fnOrderValidSpec)

/-- ITS FALSE NEIGHBOUR: 'it returns false'. Refute it at one input. -/
def fnOrderValidWrong : ChangeSpec := { name := "fnOrderValid", fn := fun _ => fun
  | [d] => { results := [.lit (.bool false)], args := [d] }
  | _ => none }
def FnOrderValidWrongFalsely : Prop := fnOrderValidRow.holds Try.pinned (OpenSpec.ofChange fnOrderValidWrong)

/-- 'laws.FnOrderBack': WHATEVER THE INPUT: true; the input reads as it did. -/
def fnOrderBackSpec : ChangeSpec := { name := "fnOrderBack", fn := fun _ => fun
  | [d] => { results := [.lit (.bool true)], args := [d] }
  | _ => none }
def fnOrderBackRow : OpenClaim := { program := "ytknchojfhpchiac", sum := "2b2586def983b97398868f566a83c41e383f78a331a03b1a8e8b4eee8b7db7a8", func := "loop.example/bitwords/laws.FnOrderBack", spec := "fnOrderBack", unfollowed := true, recurses := true, apart := false }
def FnOrderBackSaid : Prop := fnOrderBackRow.holds Try.pinned (OpenSpec.ofChange fnOrderBackSpec)

/-- ITS FALSE NEIGHBOUR: 'it returns false'. Refute it at one input. -/
def fnOrderBackWrong : ChangeSpec := { name := "fnOrderBack", fn := fun _ => fun
  | [d] => { results := [.lit (.bool false)], args := [d] }
  | _ => none }
def FnOrderBackWrongFalsely : Prop := fnOrderBackRow.holds Try.pinned (OpenSpec.ofChange fnOrderBackWrong)

/-- 'laws.FnOrderThen': WHATEVER THE INPUT: true; the input reads as it did. -/
def fnOrderThenSpec : ChangeSpec := { name := "fnOrderThen", fn := fun _ => fun
  | [d] => { results := [.lit (.bool true)], args := [d] }
  | _ => none }
def fnOrderThenRow : OpenClaim := { program := "ytknchojfhpchiac", sum := "2b2586def983b97398868f566a83c41e383f78a331a03b1a8e8b4eee8b7db7a8", func := "loop.example/bitwords/laws.FnOrderThen", spec := "fnOrderThen", unfollowed := true, recurses := true, apart := false }
def FnOrderThenSaid : Prop := fnOrderThenRow.holds Try.pinned (OpenSpec.ofChange fnOrderThenSpec)

/-- ITS FALSE NEIGHBOUR: 'it returns false'. Refute it at one input. -/
def fnOrderThenWrong : ChangeSpec := { name := "fnOrderThen", fn := fun _ => fun
  | [d] => { results := [.lit (.bool false)], args := [d] }
  | _ => none }
def FnOrderThenWrongFalsely : Prop := fnOrderThenRow.holds Try.pinned (OpenSpec.ofChange fnOrderThenWrong)

/- THE SECOND FORM. 'bulk': how many values and letters a reading holds, each counted each time it is reached (what is shared counts as often as it is met; a slice's spare places count too). A statement '..UptoSaid' is the law's where the arguments, and the package variables that the reading takes, are together of bulk at most 1048576: NARROWER than '..Said'. Prove '..Said' where nothing that the law and all that it calls make is longer than what came in: it says more and counts as full. Else prove '..UptoSaid'. A law counts once. -/
mutual
def uptoBulk {H : Type} : DataW H → Nat
  | .lit (.string bytes) => bytes.length + 1
  | .lit _ => 1
  | .nil => 1
  | .ptr d => uptoBulk d + 1
  | .slice elems spare => uptoBulkAll elems + uptoBulkAll spare + 1
  | .agg parts => uptoBulkAll parts + 1
  | .iface _ d => uptoBulk d + 1
  | .map entries => uptoBulkEntries entries + 1
  | .held _ => 1
def uptoBulkAll {H : Type} : List (DataW H) → Nat
  | [] => 0
  | d :: r => uptoBulk d + uptoBulkAll r
def uptoBulkEntries {H : Type} : List (Lit × DataW H) → Nat
  | [] => 0
  | x :: r => uptoBulkEntry x + uptoBulkEntries r
def uptoBulkEntry {H : Type} : Lit × DataW H → Nat
  | (.string bytes, d) => bytes.length + uptoBulk d + 1
  | (_, d) => uptoBulk d + 1
 end
def uptoSmall : (H : Type) → List (DataW H) → Bool := fun _ ds => decide (uptoBulkAll ds ≤ 1048576)
def OpenSpec.upto (s : _root_.Go.ChangeSpec) : _root_.Go.OpenSpec := { _root_.Go.OpenSpec.ofChange s with cond := some uptoSmall }

/-- 'laws.FnExactBitsMoved', WHERE WHAT IT READS IS OF BULK AT MOST 1048576: true; the input reads as it did. -/
def fnExactBitsMovedUptoRow : OpenClaim := { program := "ytknchojfhpchiac", sum := "2b2586def983b97398868f566a83c41e383f78a331a03b1a8e8b4eee8b7db7a8", func := "loop.example/bitwords/laws.FnExactBitsMoved", spec := "fnExactBitsMoved", apart := false, narrowed := true }
def FnExactBitsMovedUptoSaid : Prop := fnExactBitsMovedUptoRow.holds Try.pinned (OpenSpec.upto fnExactBitsMovedSpec)

/-- 'laws.FnExactOrderBack', WHERE WHAT IT READS IS OF BULK AT MOST 1048576: true; the input reads as it did. -/
def fnExactOrderBackUptoRow : OpenClaim := { program := "ytknchojfhpchiac", sum := "2b2586def983b97398868f566a83c41e383f78a331a03b1a8e8b4eee8b7db7a8", func := "loop.example/bitwords/laws.FnExactOrderBack", spec := "fnExactOrderBack", apart := false, narrowed := true }
def FnExactOrderBackUptoSaid : Prop := fnExactOrderBackUptoRow.holds Try.pinned (OpenSpec.upto fnExactOrderBackSpec)

/-- 'laws.FnExactRoundsOf', WHERE WHAT IT READS IS OF BULK AT MOST 1048576: true; the input reads as it did. -/
def fnExactRoundsOfUptoRow : OpenClaim := { program := "ytknchojfhpchiac", sum := "2b2586def983b97398868f566a83c41e383f78a331a03b1a8e8b4eee8b7db7a8", func := "loop.example/bitwords/laws.FnExactRoundsOf", spec := "fnExactRoundsOf", apart := false, narrowed := true }
def FnExactRoundsOfUptoSaid : Prop := fnExactRoundsOfUptoRow.holds Try.pinned (OpenSpec.upto fnExactRoundsOfSpec)

/-- 'laws.FnOrderValid', WHERE WHAT IT READS IS OF BULK AT MOST 1048576: true; the input reads as it did. -/
def fnOrderValidUptoRow : OpenClaim := { program := "ytknchojfhpchiac", sum := "2b2586def983b97398868f566a83c41e383f78a331a03b1a8e8b4eee8b7db7a8", func := "loop.example/bitwords/laws.FnOrderValid", spec := "fnOrderValid", unfollowed := true, recurses := true, apart := false, narrowed := true }
def FnOrderValidUptoSaid : Prop := fnOrderValidUptoRow.holds Try.pinned (OpenSpec.upto fnOrderValidSpec)

/-- 'laws.FnOrderBack', WHERE WHAT IT READS IS OF BULK AT MOST 1048576: true; the input reads as it did. -/
def fnOrderBackUptoRow : OpenClaim := { program := "ytknchojfhpchiac", sum := "2b2586def983b97398868f566a83c41e383f78a331a03b1a8e8b4eee8b7db7a8", func := "loop.example/bitwords/laws.FnOrderBack", spec := "fnOrderBack", unfollowed := true, recurses := true, apart := false, narrowed := true }
def FnOrderBackUptoSaid : Prop := fnOrderBackUptoRow.holds Try.pinned (OpenSpec.upto fnOrderBackSpec)

/-- 'laws.FnOrderThen', WHERE WHAT IT READS IS OF BULK AT MOST 1048576: true; the input reads as it did. -/
def fnOrderThenUptoRow : OpenClaim := { program := "ytknchojfhpchiac", sum := "2b2586def983b97398868f566a83c41e383f78a331a03b1a8e8b4eee8b7db7a8", func := "loop.example/bitwords/laws.FnOrderThen", spec := "fnOrderThen", unfollowed := true, recurses := true, apart := false, narrowed := true }
def FnOrderThenUptoSaid : Prop := fnOrderThenUptoRow.holds Try.pinned (OpenSpec.upto fnOrderThenSpec)

end Rows
end Go.Proofs.Ytknchojfhpchiac
