/-
  NARROWER THAN 'FOR EVERY INPUT', by the rows' own cells (each row's printed sentence says how): FnSeparate: laid · FnExactUnweave: laid · FnExactWeave: laid · FnExactGather: laid · FnExactScatter: laid · FnExactSeparate: laid.
  DERIVED. THE GIVEN ROWS OF THIS SEAT. 6 by the template 'for every input the law returns true; each argument reads behind the call as it read before'; 0 by the template 'total and deterministic' (their statements: YtbknmokoegembaaDoorTotals.lean).
  GIVEN WITH THE SEED: the statements are not yours to turn. If you find one false, say at which input.
  Laid BY PROGRAM, IN A SANDBOX (cutbox-rows.mjs): the forced cells as the released guide's own fill.sh prints them over the translation d6716a71f669f145… (all of the seat's roots in one cut). By AI agents, Wed Nov 11 2026. No macro, syntax, notation, axiom, sorry.
-/
import Derived.Test.YtbknmokoegembaaDoorChecked
import GoSem.Claim
import GoSem.ClaimJoined
import GoSem.ClaimMapViews
import Derived.JoinedTies
import Derived.KernelRfl
namespace Go.Proofs.YtbknmokoegembaaDoor
/- THE CELL 'sum', in the pinned program and in every row, IS THE sha256 OF THE DUMP (.gsa) THAT YtbknmokoegembaaDoorProg.lean LOADS. Nothing in Lean hashes anything: it is a label: what it is worth is what the hold of that sum in a sandbox is worth. -/
noncomputable def Tryd.pinned : Pinned := { name := "ytbknmokoegembaadoor", sum := "d6716a71f669f1453a43c4683206f61408bb6e400914792461fa12bd6bd08d46", checked := Tryd.checked }
namespace Rows
def none {H : Type} : Left H := { results := [], args := [] }

/- WHAT THE LISTED PACKAGE-LEVEL VARIABLES READ AS WHEN THE CALL BEGINS. Each datum BY PROGRAM (the guide's laid-datum.mjs) off the statement by which the dump's own 'gosem.cut.vars' lays the variable. In a bare row this is a premise. The card (YtbknmokoegembaaDoorCards.lean) ties it to the program's text. -/
def laid_math_bits_deBruijn32tab {H : Type} : DataW H := .agg [.lit (.int .u8 0), .lit (.int .u8 1), .lit (.int .u8 28), .lit (.int .u8 2), .lit (.int .u8 29), .lit (.int .u8 14), .lit (.int .u8 24), .lit (.int .u8 3), .lit (.int .u8 30), .lit (.int .u8 22), .lit (.int .u8 20), .lit (.int .u8 15), .lit (.int .u8 25), .lit (.int .u8 17), .lit (.int .u8 4), .lit (.int .u8 8), .lit (.int .u8 31), .lit (.int .u8 27), .lit (.int .u8 13), .lit (.int .u8 23), .lit (.int .u8 21), .lit (.int .u8 19), .lit (.int .u8 16), .lit (.int .u8 7), .lit (.int .u8 26), .lit (.int .u8 12), .lit (.int .u8 18), .lit (.int .u8 6), .lit (.int .u8 11), .lit (.int .u8 5), .lit (.int .u8 10), .lit (.int .u8 9)]
def laid_math_bits_deBruijn64tab {H : Type} : DataW H := .agg [.lit (.int .u8 0), .lit (.int .u8 1), .lit (.int .u8 56), .lit (.int .u8 2), .lit (.int .u8 57), .lit (.int .u8 49), .lit (.int .u8 28), .lit (.int .u8 3), .lit (.int .u8 61), .lit (.int .u8 58), .lit (.int .u8 42), .lit (.int .u8 50), .lit (.int .u8 38), .lit (.int .u8 29), .lit (.int .u8 17), .lit (.int .u8 4), .lit (.int .u8 62), .lit (.int .u8 47), .lit (.int .u8 59), .lit (.int .u8 36), .lit (.int .u8 45), .lit (.int .u8 43), .lit (.int .u8 51), .lit (.int .u8 22), .lit (.int .u8 53), .lit (.int .u8 39), .lit (.int .u8 33), .lit (.int .u8 30), .lit (.int .u8 24), .lit (.int .u8 18), .lit (.int .u8 12), .lit (.int .u8 5), .lit (.int .u8 63), .lit (.int .u8 55), .lit (.int .u8 48), .lit (.int .u8 27), .lit (.int .u8 60), .lit (.int .u8 41), .lit (.int .u8 37), .lit (.int .u8 16), .lit (.int .u8 46), .lit (.int .u8 35), .lit (.int .u8 44), .lit (.int .u8 21), .lit (.int .u8 52), .lit (.int .u8 32), .lit (.int .u8 23), .lit (.int .u8 11), .lit (.int .u8 54), .lit (.int .u8 26), .lit (.int .u8 40), .lit (.int .u8 15), .lit (.int .u8 34), .lit (.int .u8 20), .lit (.int .u8 31), .lit (.int .u8 10), .lit (.int .u8 25), .lit (.int .u8 14), .lit (.int .u8 19), .lit (.int .u8 9), .lit (.int .u8 13), .lit (.int .u8 8), .lit (.int .u8 7), .lit (.int .u8 6)]

/-- 'laws.FnSeparate': WHATEVER THE INPUT: true; the input reads as it did. -/
def fnSeparateSpec : ChangeSpec := { name := "fnSeparate", fn := fun _ => fun
  | [d] => { results := [.lit (.bool true)], args := [d] }
  | _ => none }
def fnSeparateRow : OpenClaim := { program := "ytbknmokoegembaadoor", sum := "d6716a71f669f1453a43c4683206f61408bb6e400914792461fa12bd6bd08d46", func := "loop.example/bitwords/laws.FnSeparate", spec := "fnSeparate", unfollowed := true, recurses := true, named := ["math/bits.deBruijn32tab", "math/bits.deBruijn64tab"], apart := false, laid := [("math/bits.deBruijn32tab", laid_math_bits_deBruijn32tab), ("math/bits.deBruijn64tab", laid_math_bits_deBruijn64tab)] }
def FnSeparateSaid : Prop := fnSeparateRow.holds Tryd.pinned (OpenSpec.ofChange fnSeparateSpec)

/-- ITS FALSE NEIGHBOUR: 'it returns false'. Refute it at one input. -/
def fnSeparateWrong : ChangeSpec := { name := "fnSeparate", fn := fun _ => fun
  | [d] => { results := [.lit (.bool false)], args := [d] }
  | _ => none }
def FnSeparateWrongFalsely : Prop := fnSeparateRow.holds Tryd.pinned (OpenSpec.ofChange fnSeparateWrong)

/-- 'laws.FnExactUnweave': WHATEVER THE INPUT: true; the input reads as it did. -/
def fnExactUnweaveSpec : ChangeSpec := { name := "fnExactUnweave", fn := fun _ => fun
  | [d1, d2] => { results := [.lit (.bool true)], args := [d1, d2] }
  | _ => none }
def fnExactUnweaveRow : OpenClaim := { program := "ytbknmokoegembaadoor", sum := "d6716a71f669f1453a43c4683206f61408bb6e400914792461fa12bd6bd08d46", func := "loop.example/bitwords/laws.FnExactUnweave", spec := "fnExactUnweave", named := ["math/bits.deBruijn32tab", "math/bits.deBruijn64tab"], apart := false, laid := [("math/bits.deBruijn32tab", laid_math_bits_deBruijn32tab), ("math/bits.deBruijn64tab", laid_math_bits_deBruijn64tab)] }
def FnExactUnweaveSaid : Prop := fnExactUnweaveRow.holds Tryd.pinned (OpenSpec.ofChange fnExactUnweaveSpec)

/-- ITS FALSE NEIGHBOUR: 'it returns false'. Refute it at one input. -/
def fnExactUnweaveWrong : ChangeSpec := { name := "fnExactUnweave", fn := fun _ => fun
  | [d1, d2] => { results := [.lit (.bool false)], args := [d1, d2] }
  | _ => none }
def FnExactUnweaveWrongFalsely : Prop := fnExactUnweaveRow.holds Tryd.pinned (OpenSpec.ofChange fnExactUnweaveWrong)

/-- 'laws.FnExactWeave': WHATEVER THE INPUT: true; the input reads as it did. -/
def fnExactWeaveSpec : ChangeSpec := { name := "fnExactWeave", fn := fun _ => fun
  | [d1, d2, d3] => { results := [.lit (.bool true)], args := [d1, d2, d3] }
  | _ => none }
def fnExactWeaveRow : OpenClaim := { program := "ytbknmokoegembaadoor", sum := "d6716a71f669f1453a43c4683206f61408bb6e400914792461fa12bd6bd08d46", func := "loop.example/bitwords/laws.FnExactWeave", spec := "fnExactWeave", named := ["math/bits.deBruijn32tab", "math/bits.deBruijn64tab"], apart := false, laid := [("math/bits.deBruijn32tab", laid_math_bits_deBruijn32tab), ("math/bits.deBruijn64tab", laid_math_bits_deBruijn64tab)] }
def FnExactWeaveSaid : Prop := fnExactWeaveRow.holds Tryd.pinned (OpenSpec.ofChange fnExactWeaveSpec)

/-- ITS FALSE NEIGHBOUR: 'it returns false'. Refute it at one input. -/
def fnExactWeaveWrong : ChangeSpec := { name := "fnExactWeave", fn := fun _ => fun
  | [d1, d2, d3] => { results := [.lit (.bool false)], args := [d1, d2, d3] }
  | _ => none }
def FnExactWeaveWrongFalsely : Prop := fnExactWeaveRow.holds Tryd.pinned (OpenSpec.ofChange fnExactWeaveWrong)

/-- 'laws.FnExactGather': WHATEVER THE INPUT: true; the input reads as it did. -/
def fnExactGatherSpec : ChangeSpec := { name := "fnExactGather", fn := fun _ => fun
  | [d1, d2, d3] => { results := [.lit (.bool true)], args := [d1, d2, d3] }
  | _ => none }
def fnExactGatherRow : OpenClaim := { program := "ytbknmokoegembaadoor", sum := "d6716a71f669f1453a43c4683206f61408bb6e400914792461fa12bd6bd08d46", func := "loop.example/bitwords/laws.FnExactGather", spec := "fnExactGather", unfollowed := true, recurses := true, named := ["math/bits.deBruijn32tab", "math/bits.deBruijn64tab"], apart := false, laid := [("math/bits.deBruijn32tab", laid_math_bits_deBruijn32tab), ("math/bits.deBruijn64tab", laid_math_bits_deBruijn64tab)] }
def FnExactGatherSaid : Prop := fnExactGatherRow.holds Tryd.pinned (OpenSpec.ofChange fnExactGatherSpec)

/-- ITS FALSE NEIGHBOUR: 'it returns false'. Refute it at one input. -/
def fnExactGatherWrong : ChangeSpec := { name := "fnExactGather", fn := fun _ => fun
  | [d1, d2, d3] => { results := [.lit (.bool false)], args := [d1, d2, d3] }
  | _ => none }
def FnExactGatherWrongFalsely : Prop := fnExactGatherRow.holds Tryd.pinned (OpenSpec.ofChange fnExactGatherWrong)

/-- 'laws.FnExactScatter': WHATEVER THE INPUT: true; the input reads as it did. -/
def fnExactScatterSpec : ChangeSpec := { name := "fnExactScatter", fn := fun _ => fun
  | [d1, d2, d3] => { results := [.lit (.bool true)], args := [d1, d2, d3] }
  | _ => none }
def fnExactScatterRow : OpenClaim := { program := "ytbknmokoegembaadoor", sum := "d6716a71f669f1453a43c4683206f61408bb6e400914792461fa12bd6bd08d46", func := "loop.example/bitwords/laws.FnExactScatter", spec := "fnExactScatter", unfollowed := true, recurses := true, named := ["math/bits.deBruijn32tab", "math/bits.deBruijn64tab"], apart := false, laid := [("math/bits.deBruijn32tab", laid_math_bits_deBruijn32tab), ("math/bits.deBruijn64tab", laid_math_bits_deBruijn64tab)] }
def FnExactScatterSaid : Prop := fnExactScatterRow.holds Tryd.pinned (OpenSpec.ofChange fnExactScatterSpec)

/-- ITS FALSE NEIGHBOUR: 'it returns false'. Refute it at one input. -/
def fnExactScatterWrong : ChangeSpec := { name := "fnExactScatter", fn := fun _ => fun
  | [d1, d2, d3] => { results := [.lit (.bool false)], args := [d1, d2, d3] }
  | _ => none }
def FnExactScatterWrongFalsely : Prop := fnExactScatterRow.holds Tryd.pinned (OpenSpec.ofChange fnExactScatterWrong)

/-- 'laws.FnExactSeparate': WHATEVER THE INPUT: true; the input reads as it did. -/
def fnExactSeparateSpec : ChangeSpec := { name := "fnExactSeparate", fn := fun _ => fun
  | [d1, d2, d3] => { results := [.lit (.bool true)], args := [d1, d2, d3] }
  | _ => none }
def fnExactSeparateRow : OpenClaim := { program := "ytbknmokoegembaadoor", sum := "d6716a71f669f1453a43c4683206f61408bb6e400914792461fa12bd6bd08d46", func := "loop.example/bitwords/laws.FnExactSeparate", spec := "fnExactSeparate", unfollowed := true, recurses := true, named := ["math/bits.deBruijn32tab", "math/bits.deBruijn64tab"], apart := false, laid := [("math/bits.deBruijn32tab", laid_math_bits_deBruijn32tab), ("math/bits.deBruijn64tab", laid_math_bits_deBruijn64tab)] }
def FnExactSeparateSaid : Prop := fnExactSeparateRow.holds Tryd.pinned (OpenSpec.ofChange fnExactSeparateSpec)

/-- ITS FALSE NEIGHBOUR: 'it returns false'. Refute it at one input. -/
def fnExactSeparateWrong : ChangeSpec := { name := "fnExactSeparate", fn := fun _ => fun
  | [d1, d2, d3] => { results := [.lit (.bool false)], args := [d1, d2, d3] }
  | _ => none }
def FnExactSeparateWrongFalsely : Prop := fnExactSeparateRow.holds Tryd.pinned (OpenSpec.ofChange fnExactSeparateWrong)

/- THE SECOND FORM. 'bulk': how many values and letters a reading holds, each counted each time it is reached (what is shared counts as often as it is met; a slice's spare places count too). A statement '..UptoSaid' is the law's where the arguments, and the package variables that the reading takes, are together of bulk at most 1048576: NARROWER than '..Said'. Prove '..Said' where nothing that the law and all that it calls make is longer than what came in: it says more and counts as full. Else prove '..UptoSaid'. A law counts once. -/
mutual
def uptoBulk {H : Type} : DataW H → Nat
  | .lit (.string bytes) => bytes.length + 1
  | .lit _ => 1
  | .nil => 1
  | .ptr d => uptoBulk d + 1
  | .slice elems spare => uptoBulkAll elems + uptoBulkAll spare + 1
  | .agg parts => uptoBulkAll parts + 1
  | .iface _ d => uptoBulk d + 1
  | .map entries => uptoBulkEntries entries + 1
  | .held _ => 1
def uptoBulkAll {H : Type} : List (DataW H) → Nat
  | [] => 0
  | d :: r => uptoBulk d + uptoBulkAll r
def uptoBulkEntries {H : Type} : List (Lit × DataW H) → Nat
  | [] => 0
  | x :: r => uptoBulkEntry x + uptoBulkEntries r
def uptoBulkEntry {H : Type} : Lit × DataW H → Nat
  | (.string bytes, d) => bytes.length + uptoBulk d + 1
  | (_, d) => uptoBulk d + 1
 end
def uptoSmall : (H : Type) → List (DataW H) → Bool := fun _ ds => decide (uptoBulkAll ds ≤ 1048576)
def OpenSpec.upto (s : _root_.Go.ChangeSpec) : _root_.Go.OpenSpec := { _root_.Go.OpenSpec.ofChange s with cond := some uptoSmall }

/-- 'laws.FnSeparate', WHERE WHAT IT READS IS OF BULK AT MOST 1048576: true; the input reads as it did. -/
def fnSeparateUptoRow : OpenClaim := { program := "ytbknmokoegembaadoor", sum := "d6716a71f669f1453a43c4683206f61408bb6e400914792461fa12bd6bd08d46", func := "loop.example/bitwords/laws.FnSeparate", spec := "fnSeparate", unfollowed := true, recurses := true, named := ["math/bits.deBruijn32tab", "math/bits.deBruijn64tab"], apart := false, laid := [("math/bits.deBruijn32tab", laid_math_bits_deBruijn32tab), ("math/bits.deBruijn64tab", laid_math_bits_deBruijn64tab)], narrowed := true }
def FnSeparateUptoSaid : Prop := fnSeparateUptoRow.holds Tryd.pinned (OpenSpec.upto fnSeparateSpec)

/-- 'laws.FnExactUnweave', WHERE WHAT IT READS IS OF BULK AT MOST 1048576: true; the input reads as it did. -/
def fnExactUnweaveUptoRow : OpenClaim := { program := "ytbknmokoegembaadoor", sum := "d6716a71f669f1453a43c4683206f61408bb6e400914792461fa12bd6bd08d46", func := "loop.example/bitwords/laws.FnExactUnweave", spec := "fnExactUnweave", named := ["math/bits.deBruijn32tab", "math/bits.deBruijn64tab"], apart := false, laid := [("math/bits.deBruijn32tab", laid_math_bits_deBruijn32tab), ("math/bits.deBruijn64tab", laid_math_bits_deBruijn64tab)], narrowed := true }
def FnExactUnweaveUptoSaid : Prop := fnExactUnweaveUptoRow.holds Tryd.pinned (OpenSpec.upto fnExactUnweaveSpec)

/-- 'laws.FnExactWeave', WHERE WHAT IT READS IS OF BULK AT MOST 1048576: true; the input reads as it did. -/
def fnExactWeaveUptoRow : OpenClaim := { program := "ytbknmokoegembaadoor", sum := "d6716a71f669f1453a43c4683206f61408bb6e400914792461fa12bd6bd08d46", func := "loop.example/bitwords/laws.FnExactWeave", spec := "fnExactWeave", named := ["math/bits.deBruijn32tab", "math/bits.deBruijn64tab"], apart := false, laid := [("math/bits.deBruijn32tab", laid_math_bits_deBruijn32tab), ("math/bits.deBruijn64tab", laid_math_bits_deBruijn64tab)], narrowed := true }
def FnExactWeaveUptoSaid : Prop := fnExactWeaveUptoRow.holds Tryd.pinned (OpenSpec.upto fnExactWeaveSpec)

/-- 'laws.FnExactGather', WHERE WHAT IT READS IS OF BULK AT MOST 1048576: true; the input reads as it did. -/
def fnExactGatherUptoRow : OpenClaim := { program := "ytbknmokoegembaadoor", sum := "d6716a71f669f1453a43c4683206f61408bb6e400914792461fa12bd6bd08d46", func := "loop.example/bitwords/laws.FnExactGather", spec := "fnExactGather", unfollowed := true, recurses := true, named := ["math/bits.deBruijn32tab", "math/bits.deBruijn64tab"], apart := false, laid := [("math/bits.deBruijn32tab", laid_math_bits_deBruijn32tab), ("math/bits.deBruijn64tab", laid_math_bits_deBruijn64tab)], narrowed := true }
def FnExactGatherUptoSaid : Prop := fnExactGatherUptoRow.holds Tryd.pinned (OpenSpec.upto fnExactGatherSpec)

/-- 'laws.FnExactScatter', WHERE WHAT IT READS IS OF BULK AT MOST 1048576: true; the input reads as it did. -/
def fnExactScatterUptoRow : OpenClaim := { program := "ytbknmokoegembaadoor", sum := "d6716a71f669f1453a43c4683206f61408bb6e400914792461fa12bd6bd08d46", func := "loop.example/bitwords/laws.FnExactScatter", spec := "fnExactScatter", unfollowed := true, recurses := true, named := ["math/bits.deBruijn32tab", "math/bits.deBruijn64tab"], apart := false, laid := [("math/bits.deBruijn32tab", laid_math_bits_deBruijn32tab), ("math/bits.deBruijn64tab", laid_math_bits_deBruijn64tab)], narrowed := true }
def FnExactScatterUptoSaid : Prop := fnExactScatterUptoRow.holds Tryd.pinned (OpenSpec.upto fnExactScatterSpec)

/-- 'laws.FnExactSeparate', WHERE WHAT IT READS IS OF BULK AT MOST 1048576: true; the input reads as it did. -/
def fnExactSeparateUptoRow : OpenClaim := { program := "ytbknmokoegembaadoor", sum := "d6716a71f669f1453a43c4683206f61408bb6e400914792461fa12bd6bd08d46", func := "loop.example/bitwords/laws.FnExactSeparate", spec := "fnExactSeparate", unfollowed := true, recurses := true, named := ["math/bits.deBruijn32tab", "math/bits.deBruijn64tab"], apart := false, laid := [("math/bits.deBruijn32tab", laid_math_bits_deBruijn32tab), ("math/bits.deBruijn64tab", laid_math_bits_deBruijn64tab)], narrowed := true }
def FnExactSeparateUptoSaid : Prop := fnExactSeparateUptoRow.holds Tryd.pinned (OpenSpec.upto fnExactSeparateSpec)

end Rows
end Go.Proofs.YtbknmokoegembaaDoor
