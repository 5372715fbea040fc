/-
  NARROWER THAN 'FOR EVERY INPUT', by the rows' own cells (each row's printed sentence says how): FnExactTogether: laid · FnWeave: laid · FnReverse: laid · FnGather: laid · FnScatter: laid · FnUnweave: laid.
  DERIVED. THE GIVEN ROWS OF THIS SEAT. 6 by the template 'for every input the law returns true; each argument reads behind the call as it read before'; 0 by the template 'total and deterministic' (their statements: YtbknmokoegembabDoorTotals.lean).
  GIVEN WITH THE SEED: the statements are not yours to turn. If you find one false, say at which input.
  Laid BY PROGRAM, IN A SANDBOX (cutbox-rows.mjs): the forced cells as the released guide's own fill.sh prints them over the translation 58ef7379782c6e53… (all of the seat's roots in one cut). By AI agents, Wed Nov 11 2026. No macro, syntax, notation, axiom, sorry.
-/
import Derived.Test.YtbknmokoegembabDoorChecked
import GoSem.Claim
import GoSem.ClaimJoined
import GoSem.ClaimMapViews
import Derived.JoinedTies
import Derived.KernelRfl
namespace Go.Proofs.YtbknmokoegembabDoor
/- THE CELL 'sum', in the pinned program and in every row, IS THE sha256 OF THE DUMP (.gsa) THAT YtbknmokoegembabDoorProg.lean LOADS. Nothing in Lean hashes anything: it is a label: what it is worth is what the hold of that sum in a sandbox is worth. -/
noncomputable def Tryd.pinned : Pinned := { name := "ytbknmokoegembabdoor", sum := "58ef7379782c6e5316ea2a5fd1ee1944a15117f865c8a7bfa52898728a152b0a", checked := Tryd.checked }
namespace Rows
def none {H : Type} : Left H := { results := [], args := [] }

/- WHAT THE LISTED PACKAGE-LEVEL VARIABLES READ AS WHEN THE CALL BEGINS. Each datum BY PROGRAM (the guide's laid-datum.mjs) off the statement by which the dump's own 'gosem.cut.vars' lays the variable. In a bare row this is a premise. The card (YtbknmokoegembabDoorCards.lean) ties it to the program's text. -/
def laid_math_bits_deBruijn32tab {H : Type} : DataW H := .agg [.lit (.int .u8 0), .lit (.int .u8 1), .lit (.int .u8 28), .lit (.int .u8 2), .lit (.int .u8 29), .lit (.int .u8 14), .lit (.int .u8 24), .lit (.int .u8 3), .lit (.int .u8 30), .lit (.int .u8 22), .lit (.int .u8 20), .lit (.int .u8 15), .lit (.int .u8 25), .lit (.int .u8 17), .lit (.int .u8 4), .lit (.int .u8 8), .lit (.int .u8 31), .lit (.int .u8 27), .lit (.int .u8 13), .lit (.int .u8 23), .lit (.int .u8 21), .lit (.int .u8 19), .lit (.int .u8 16), .lit (.int .u8 7), .lit (.int .u8 26), .lit (.int .u8 12), .lit (.int .u8 18), .lit (.int .u8 6), .lit (.int .u8 11), .lit (.int .u8 5), .lit (.int .u8 10), .lit (.int .u8 9)]
def laid_math_bits_deBruijn64tab {H : Type} : DataW H := .agg [.lit (.int .u8 0), .lit (.int .u8 1), .lit (.int .u8 56), .lit (.int .u8 2), .lit (.int .u8 57), .lit (.int .u8 49), .lit (.int .u8 28), .lit (.int .u8 3), .lit (.int .u8 61), .lit (.int .u8 58), .lit (.int .u8 42), .lit (.int .u8 50), .lit (.int .u8 38), .lit (.int .u8 29), .lit (.int .u8 17), .lit (.int .u8 4), .lit (.int .u8 62), .lit (.int .u8 47), .lit (.int .u8 59), .lit (.int .u8 36), .lit (.int .u8 45), .lit (.int .u8 43), .lit (.int .u8 51), .lit (.int .u8 22), .lit (.int .u8 53), .lit (.int .u8 39), .lit (.int .u8 33), .lit (.int .u8 30), .lit (.int .u8 24), .lit (.int .u8 18), .lit (.int .u8 12), .lit (.int .u8 5), .lit (.int .u8 63), .lit (.int .u8 55), .lit (.int .u8 48), .lit (.int .u8 27), .lit (.int .u8 60), .lit (.int .u8 41), .lit (.int .u8 37), .lit (.int .u8 16), .lit (.int .u8 46), .lit (.int .u8 35), .lit (.int .u8 44), .lit (.int .u8 21), .lit (.int .u8 52), .lit (.int .u8 32), .lit (.int .u8 23), .lit (.int .u8 11), .lit (.int .u8 54), .lit (.int .u8 26), .lit (.int .u8 40), .lit (.int .u8 15), .lit (.int .u8 34), .lit (.int .u8 20), .lit (.int .u8 31), .lit (.int .u8 10), .lit (.int .u8 25), .lit (.int .u8 14), .lit (.int .u8 19), .lit (.int .u8 9), .lit (.int .u8 13), .lit (.int .u8 8), .lit (.int .u8 7), .lit (.int .u8 6)]

/-- 'laws.FnExactTogether': WHATEVER THE INPUT: true; the input reads as it did. -/
def fnExactTogetherSpec : ChangeSpec := { name := "fnExactTogether", fn := fun _ => fun
  | [d1, d2, d3] => { results := [.lit (.bool true)], args := [d1, d2, d3] }
  | _ => none }
def fnExactTogetherRow : OpenClaim := { program := "ytbknmokoegembabdoor", sum := "58ef7379782c6e5316ea2a5fd1ee1944a15117f865c8a7bfa52898728a152b0a", func := "loop.example/bitwords/laws.FnExactTogether", spec := "fnExactTogether", unfollowed := true, recurses := true, named := ["math/bits.deBruijn32tab", "math/bits.deBruijn64tab"], apart := false, laid := [("math/bits.deBruijn32tab", laid_math_bits_deBruijn32tab), ("math/bits.deBruijn64tab", laid_math_bits_deBruijn64tab)] }
def FnExactTogetherSaid : Prop := fnExactTogetherRow.holds Tryd.pinned (OpenSpec.ofChange fnExactTogetherSpec)

/-- ITS FALSE NEIGHBOUR: 'it returns false'. Refute it at one input. -/
def fnExactTogetherWrong : ChangeSpec := { name := "fnExactTogether", fn := fun _ => fun
  | [d1, d2, d3] => { results := [.lit (.bool false)], args := [d1, d2, d3] }
  | _ => none }
def FnExactTogetherWrongFalsely : Prop := fnExactTogetherRow.holds Tryd.pinned (OpenSpec.ofChange fnExactTogetherWrong)

/-- 'laws.FnWeave': WHATEVER THE INPUT: true; the input reads as it did. -/
def fnWeaveSpec : ChangeSpec := { name := "fnWeave", fn := fun _ => fun
  | [d] => { results := [.lit (.bool true)], args := [d] }
  | _ => none }
def fnWeaveRow : OpenClaim := { program := "ytbknmokoegembabdoor", sum := "58ef7379782c6e5316ea2a5fd1ee1944a15117f865c8a7bfa52898728a152b0a", func := "loop.example/bitwords/laws.FnWeave", spec := "fnWeave", unfollowed := true, recurses := true, named := ["math/bits.deBruijn32tab", "math/bits.deBruijn64tab"], apart := false, laid := [("math/bits.deBruijn32tab", laid_math_bits_deBruijn32tab), ("math/bits.deBruijn64tab", laid_math_bits_deBruijn64tab)] }
def FnWeaveSaid : Prop := fnWeaveRow.holds Tryd.pinned (OpenSpec.ofChange fnWeaveSpec)

/-- ITS FALSE NEIGHBOUR: 'it returns false'. Refute it at one input. -/
def fnWeaveWrong : ChangeSpec := { name := "fnWeave", fn := fun _ => fun
  | [d] => { results := [.lit (.bool false)], args := [d] }
  | _ => none }
def FnWeaveWrongFalsely : Prop := fnWeaveRow.holds Tryd.pinned (OpenSpec.ofChange fnWeaveWrong)

/-- 'laws.FnReverse': WHATEVER THE INPUT: true; the input reads as it did. -/
def fnReverseSpec : ChangeSpec := { name := "fnReverse", fn := fun _ => fun
  | [d] => { results := [.lit (.bool true)], args := [d] }
  | _ => none }
def fnReverseRow : OpenClaim := { program := "ytbknmokoegembabdoor", sum := "58ef7379782c6e5316ea2a5fd1ee1944a15117f865c8a7bfa52898728a152b0a", func := "loop.example/bitwords/laws.FnReverse", spec := "fnReverse", unfollowed := true, recurses := true, named := ["math/bits.deBruijn32tab", "math/bits.deBruijn64tab"], apart := false, laid := [("math/bits.deBruijn32tab", laid_math_bits_deBruijn32tab), ("math/bits.deBruijn64tab", laid_math_bits_deBruijn64tab)] }
def FnReverseSaid : Prop := fnReverseRow.holds Tryd.pinned (OpenSpec.ofChange fnReverseSpec)

/-- ITS FALSE NEIGHBOUR: 'it returns false'. Refute it at one input. -/
def fnReverseWrong : ChangeSpec := { name := "fnReverse", fn := fun _ => fun
  | [d] => { results := [.lit (.bool false)], args := [d] }
  | _ => none }
def FnReverseWrongFalsely : Prop := fnReverseRow.holds Tryd.pinned (OpenSpec.ofChange fnReverseWrong)

/-- 'laws.FnGather': WHATEVER THE INPUT: true; the input reads as it did. -/
def fnGatherSpec : ChangeSpec := { name := "fnGather", fn := fun _ => fun
  | [d] => { results := [.lit (.bool true)], args := [d] }
  | _ => none }
def fnGatherRow : OpenClaim := { program := "ytbknmokoegembabdoor", sum := "58ef7379782c6e5316ea2a5fd1ee1944a15117f865c8a7bfa52898728a152b0a", func := "loop.example/bitwords/laws.FnGather", spec := "fnGather", unfollowed := true, recurses := true, named := ["math/bits.deBruijn32tab", "math/bits.deBruijn64tab"], apart := false, laid := [("math/bits.deBruijn32tab", laid_math_bits_deBruijn32tab), ("math/bits.deBruijn64tab", laid_math_bits_deBruijn64tab)] }
def FnGatherSaid : Prop := fnGatherRow.holds Tryd.pinned (OpenSpec.ofChange fnGatherSpec)

/-- ITS FALSE NEIGHBOUR: 'it returns false'. Refute it at one input. -/
def fnGatherWrong : ChangeSpec := { name := "fnGather", fn := fun _ => fun
  | [d] => { results := [.lit (.bool false)], args := [d] }
  | _ => none }
def FnGatherWrongFalsely : Prop := fnGatherRow.holds Tryd.pinned (OpenSpec.ofChange fnGatherWrong)

/-- 'laws.FnScatter': WHATEVER THE INPUT: true; the input reads as it did. -/
def fnScatterSpec : ChangeSpec := { name := "fnScatter", fn := fun _ => fun
  | [d] => { results := [.lit (.bool true)], args := [d] }
  | _ => none }
def fnScatterRow : OpenClaim := { program := "ytbknmokoegembabdoor", sum := "58ef7379782c6e5316ea2a5fd1ee1944a15117f865c8a7bfa52898728a152b0a", func := "loop.example/bitwords/laws.FnScatter", spec := "fnScatter", unfollowed := true, recurses := true, named := ["math/bits.deBruijn32tab", "math/bits.deBruijn64tab"], apart := false, laid := [("math/bits.deBruijn32tab", laid_math_bits_deBruijn32tab), ("math/bits.deBruijn64tab", laid_math_bits_deBruijn64tab)] }
def FnScatterSaid : Prop := fnScatterRow.holds Tryd.pinned (OpenSpec.ofChange fnScatterSpec)

/-- ITS FALSE NEIGHBOUR: 'it returns false'. Refute it at one input. -/
def fnScatterWrong : ChangeSpec := { name := "fnScatter", fn := fun _ => fun
  | [d] => { results := [.lit (.bool false)], args := [d] }
  | _ => none }
def FnScatterWrongFalsely : Prop := fnScatterRow.holds Tryd.pinned (OpenSpec.ofChange fnScatterWrong)

/-- 'laws.FnUnweave': WHATEVER THE INPUT: true; the input reads as it did. -/
def fnUnweaveSpec : ChangeSpec := { name := "fnUnweave", fn := fun _ => fun
  | [d] => { results := [.lit (.bool true)], args := [d] }
  | _ => none }
def fnUnweaveRow : OpenClaim := { program := "ytbknmokoegembabdoor", sum := "58ef7379782c6e5316ea2a5fd1ee1944a15117f865c8a7bfa52898728a152b0a", func := "loop.example/bitwords/laws.FnUnweave", spec := "fnUnweave", unfollowed := true, recurses := true, named := ["math/bits.deBruijn32tab", "math/bits.deBruijn64tab"], apart := false, laid := [("math/bits.deBruijn32tab", laid_math_bits_deBruijn32tab), ("math/bits.deBruijn64tab", laid_math_bits_deBruijn64tab)] }
def FnUnweaveSaid : Prop := fnUnweaveRow.holds Tryd.pinned (OpenSpec.ofChange fnUnweaveSpec)

/-- ITS FALSE NEIGHBOUR: 'it returns false'. Refute it at one input. -/
def fnUnweaveWrong : ChangeSpec := { name := "fnUnweave", fn := fun _ => fun
  | [d] => { results := [.lit (.bool false)], args := [d] }
  | _ => none }
def FnUnweaveWrongFalsely : Prop := fnUnweaveRow.holds Tryd.pinned (OpenSpec.ofChange fnUnweaveWrong)

/- THE SECOND FORM. 'bulk': how many values and letters a reading holds, each counted each time it is reached (what is shared counts as often as it is met; a slice's spare places count too). A statement '..UptoSaid' is the law's where the arguments, and the package variables that the reading takes, are together of bulk at most 1048576: NARROWER than '..Said'. Prove '..Said' where nothing that the law and all that it calls make is longer than what came in: it says more and counts as full. Else prove '..UptoSaid'. A law counts once. -/
mutual
def uptoBulk {H : Type} : DataW H → Nat
  | .lit (.string bytes) => bytes.length + 1
  | .lit _ => 1
  | .nil => 1
  | .ptr d => uptoBulk d + 1
  | .slice elems spare => uptoBulkAll elems + uptoBulkAll spare + 1
  | .agg parts => uptoBulkAll parts + 1
  | .iface _ d => uptoBulk d + 1
  | .map entries => uptoBulkEntries entries + 1
  | .held _ => 1
def uptoBulkAll {H : Type} : List (DataW H) → Nat
  | [] => 0
  | d :: r => uptoBulk d + uptoBulkAll r
def uptoBulkEntries {H : Type} : List (Lit × DataW H) → Nat
  | [] => 0
  | x :: r => uptoBulkEntry x + uptoBulkEntries r
def uptoBulkEntry {H : Type} : Lit × DataW H → Nat
  | (.string bytes, d) => bytes.length + uptoBulk d + 1
  | (_, d) => uptoBulk d + 1
 end
def uptoSmall : (H : Type) → List (DataW H) → Bool := fun _ ds => decide (uptoBulkAll ds ≤ 1048576)
def OpenSpec.upto (s : _root_.Go.ChangeSpec) : _root_.Go.OpenSpec := { _root_.Go.OpenSpec.ofChange s with cond := some uptoSmall }

/-- 'laws.FnExactTogether', WHERE WHAT IT READS IS OF BULK AT MOST 1048576: true; the input reads as it did. -/
def fnExactTogetherUptoRow : OpenClaim := { program := "ytbknmokoegembabdoor", sum := "58ef7379782c6e5316ea2a5fd1ee1944a15117f865c8a7bfa52898728a152b0a", func := "loop.example/bitwords/laws.FnExactTogether", spec := "fnExactTogether", unfollowed := true, recurses := true, named := ["math/bits.deBruijn32tab", "math/bits.deBruijn64tab"], apart := false, laid := [("math/bits.deBruijn32tab", laid_math_bits_deBruijn32tab), ("math/bits.deBruijn64tab", laid_math_bits_deBruijn64tab)], narrowed := true }
def FnExactTogetherUptoSaid : Prop := fnExactTogetherUptoRow.holds Tryd.pinned (OpenSpec.upto fnExactTogetherSpec)

/-- 'laws.FnWeave', WHERE WHAT IT READS IS OF BULK AT MOST 1048576: true; the input reads as it did. -/
def fnWeaveUptoRow : OpenClaim := { program := "ytbknmokoegembabdoor", sum := "58ef7379782c6e5316ea2a5fd1ee1944a15117f865c8a7bfa52898728a152b0a", func := "loop.example/bitwords/laws.FnWeave", spec := "fnWeave", unfollowed := true, recurses := true, named := ["math/bits.deBruijn32tab", "math/bits.deBruijn64tab"], apart := false, laid := [("math/bits.deBruijn32tab", laid_math_bits_deBruijn32tab), ("math/bits.deBruijn64tab", laid_math_bits_deBruijn64tab)], narrowed := true }
def FnWeaveUptoSaid : Prop := fnWeaveUptoRow.holds Tryd.pinned (OpenSpec.upto fnWeaveSpec)

/-- 'laws.FnReverse', WHERE WHAT IT READS IS OF BULK AT MOST 1048576: true; the input reads as it did. -/
def fnReverseUptoRow : OpenClaim := { program := "ytbknmokoegembabdoor", sum := "58ef7379782c6e5316ea2a5fd1ee1944a15117f865c8a7bfa52898728a152b0a", func := "loop.example/bitwords/laws.FnReverse", spec := "fnReverse", unfollowed := true, recurses := true, named := ["math/bits.deBruijn32tab", "math/bits.deBruijn64tab"], apart := false, laid := [("math/bits.deBruijn32tab", laid_math_bits_deBruijn32tab), ("math/bits.deBruijn64tab", laid_math_bits_deBruijn64tab)], narrowed := true }
def FnReverseUptoSaid : Prop := fnReverseUptoRow.holds Tryd.pinned (OpenSpec.upto fnReverseSpec)

/-- 'laws.FnGather', WHERE WHAT IT READS IS OF BULK AT MOST 1048576: true; the input reads as it did. -/
def fnGatherUptoRow : OpenClaim := { program := "ytbknmokoegembabdoor", sum := "58ef7379782c6e5316ea2a5fd1ee1944a15117f865c8a7bfa52898728a152b0a", func := "loop.example/bitwords/laws.FnGather", spec := "fnGather", unfollowed := true, recurses := true, named := ["math/bits.deBruijn32tab", "math/bits.deBruijn64tab"], apart := false, laid := [("math/bits.deBruijn32tab", laid_math_bits_deBruijn32tab), ("math/bits.deBruijn64tab", laid_math_bits_deBruijn64tab)], narrowed := true }
def FnGatherUptoSaid : Prop := fnGatherUptoRow.holds Tryd.pinned (OpenSpec.upto fnGatherSpec)

/-- 'laws.FnScatter', WHERE WHAT IT READS IS OF BULK AT MOST 1048576: true; the input reads as it did. -/
def fnScatterUptoRow : OpenClaim := { program := "ytbknmokoegembabdoor", sum := "58ef7379782c6e5316ea2a5fd1ee1944a15117f865c8a7bfa52898728a152b0a", func := "loop.example/bitwords/laws.FnScatter", spec := "fnScatter", unfollowed := true, recurses := true, named := ["math/bits.deBruijn32tab", "math/bits.deBruijn64tab"], apart := false, laid := [("math/bits.deBruijn32tab", laid_math_bits_deBruijn32tab), ("math/bits.deBruijn64tab", laid_math_bits_deBruijn64tab)], narrowed := true }
def FnScatterUptoSaid : Prop := fnScatterUptoRow.holds Tryd.pinned (OpenSpec.upto fnScatterSpec)

/-- 'laws.FnUnweave', WHERE WHAT IT READS IS OF BULK AT MOST 1048576: true; the input reads as it did. -/
def fnUnweaveUptoRow : OpenClaim := { program := "ytbknmokoegembabdoor", sum := "58ef7379782c6e5316ea2a5fd1ee1944a15117f865c8a7bfa52898728a152b0a", func := "loop.example/bitwords/laws.FnUnweave", spec := "fnUnweave", unfollowed := true, recurses := true, named := ["math/bits.deBruijn32tab", "math/bits.deBruijn64tab"], apart := false, laid := [("math/bits.deBruijn32tab", laid_math_bits_deBruijn32tab), ("math/bits.deBruijn64tab", laid_math_bits_deBruijn64tab)], narrowed := true }
def FnUnweaveUptoSaid : Prop := fnUnweaveUptoRow.holds Tryd.pinned (OpenSpec.upto fnUnweaveSpec)

end Rows
end Go.Proofs.YtbknmokoegembabDoor
