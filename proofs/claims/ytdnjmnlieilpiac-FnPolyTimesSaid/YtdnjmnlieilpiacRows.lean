/-
  No cell of these rows narrows 'for every input' (looked for: loops, veiled, ifaces, maps, wideKeys, modest, calm, conditions, laid).
  DERIVED. THE GIVEN ROWS OF THIS SEAT. 6 by the template 'for every input the law returns true; each argument reads behind the call as it read before'; 0 by the template 'total and deterministic' (their statements: YtdnjmnlieilpiacTotals.lean).
  GIVEN WITH THE SEED: the statements are not yours to turn. If you find one false, say at which input.
  Laid BY PROGRAM, IN A SANDBOX (cutbox-rows.mjs): the forced cells as the released guide's own fill.sh prints them over the translation dab260c93809049c… (all of the seat's roots in one cut). By AI agents, Wed Nov 11 2026. No macro, syntax, notation, axiom, sorry.
-/
import Derived.Test.YtdnjmnlieilpiacChecked
import GoSem.Claim
import GoSem.ClaimJoined
import GoSem.ClaimMapViews
import Derived.JoinedTies
import Derived.KernelRfl
namespace Go.Proofs.Ytdnjmnlieilpiac
/- THE CELL 'sum', in the pinned program and in every row, IS THE sha256 OF THE DUMP (.gsa) THAT YtdnjmnlieilpiacProg.lean LOADS. Nothing in Lean hashes anything: it is a label: what it is worth is what the hold of that sum in a sandbox is worth. -/
noncomputable def Try.pinned : Pinned := { name := "ytdnjmnlieilpiac", sum := "dab260c93809049c4b8e37a8fa1767cd9e2308e471a3e9e4d12d158f31b976bf", checked := Try.checked }
namespace Rows
def none {H : Type} : Left H := { results := [], args := [] }

/-- 'laws.FnExactCheckOk': WHATEVER THE INPUT: true; the input reads as it did. -/
def fnExactCheckOkSpec : ChangeSpec := { name := "fnExactCheckOk", fn := fun _ => fun
  | [d1, d2, d3] => { results := [.lit (.bool true)], args := [d1, d2, d3] }
  | _ => none }
def fnExactCheckOkRow : OpenClaim := { program := "ytdnjmnlieilpiac", sum := "dab260c93809049c4b8e37a8fa1767cd9e2308e471a3e9e4d12d158f31b976bf", func := "loop.example/bitwords/laws.FnExactCheckOk", spec := "fnExactCheckOk", apart := false }
def FnExactCheckOkSaid : Prop := fnExactCheckOkRow.holds Try.pinned (OpenSpec.ofChange fnExactCheckOkSpec)

/-- ITS FALSE NEIGHBOUR: 'it returns false'. Refute it at one input. -/
def fnExactCheckOkWrong : ChangeSpec := { name := "fnExactCheckOk", fn := fun _ => fun
  | [d1, d2, d3] => { results := [.lit (.bool false)], args := [d1, d2, d3] }
  | _ => none }
def FnExactCheckOkWrongFalsely : Prop := fnExactCheckOkRow.holds Try.pinned (OpenSpec.ofChange fnExactCheckOkWrong)

/-- 'laws.FnPolyDegree': WHATEVER THE INPUT: true; the input reads as it did. -/
def fnPolyDegreeSpec : ChangeSpec := { name := "fnPolyDegree", fn := fun _ => fun
  | [d1, d2] => { results := [.lit (.bool true)], args := [d1, d2] }
  | _ => none }
def fnPolyDegreeRow : OpenClaim := { program := "ytdnjmnlieilpiac", sum := "dab260c93809049c4b8e37a8fa1767cd9e2308e471a3e9e4d12d158f31b976bf", func := "loop.example/bitwords/laws.FnPolyDegree", spec := "fnPolyDegree", unfollowed := true, recurses := true, apart := false }
def FnPolyDegreeSaid : Prop := fnPolyDegreeRow.holds Try.pinned (OpenSpec.ofChange fnPolyDegreeSpec)

/-- ITS FALSE NEIGHBOUR: 'it returns false'. Refute it at one input. -/
def fnPolyDegreeWrong : ChangeSpec := { name := "fnPolyDegree", fn := fun _ => fun
  | [d1, d2] => { results := [.lit (.bool false)], args := [d1, d2] }
  | _ => none }
def FnPolyDegreeWrongFalsely : Prop := fnPolyDegreeRow.holds Try.pinned (OpenSpec.ofChange fnPolyDegreeWrong)

/-- 'laws.FnPolyAdd': WHATEVER THE INPUT: true; the input reads as it did. -/
def fnPolyAddSpec : ChangeSpec := { name := "fnPolyAdd", fn := fun _ => fun
  | [d] => { results := [.lit (.bool true)], args := [d] }
  | _ => none }
def fnPolyAddRow : OpenClaim := { program := "ytdnjmnlieilpiac", sum := "dab260c93809049c4b8e37a8fa1767cd9e2308e471a3e9e4d12d158f31b976bf", func := "loop.example/bitwords/laws.FnPolyAdd", spec := "fnPolyAdd", unfollowed := true, recurses := true, apart := false }
def FnPolyAddSaid : Prop := fnPolyAddRow.holds Try.pinned (OpenSpec.ofChange fnPolyAddSpec)

/-- ITS FALSE NEIGHBOUR: 'it returns false'. Refute it at one input. -/
def fnPolyAddWrong : ChangeSpec := { name := "fnPolyAdd", fn := fun _ => fun
  | [d] => { results := [.lit (.bool false)], args := [d] }
  | _ => none }
def FnPolyAddWrongFalsely : Prop := fnPolyAddRow.holds Try.pinned (OpenSpec.ofChange fnPolyAddWrong)

/-- 'laws.FnPolyTimes': WHATEVER THE INPUT: true; the input reads as it did. -/
def fnPolyTimesSpec : ChangeSpec := { name := "fnPolyTimes", fn := fun _ => fun
  | [d1, d2] => { results := [.lit (.bool true)], args := [d1, d2] }
  | _ => none }
def fnPolyTimesRow : OpenClaim := { program := "ytdnjmnlieilpiac", sum := "dab260c93809049c4b8e37a8fa1767cd9e2308e471a3e9e4d12d158f31b976bf", func := "loop.example/bitwords/laws.FnPolyTimes", spec := "fnPolyTimes", unfollowed := true, recurses := true, apart := false }
def FnPolyTimesSaid : Prop := fnPolyTimesRow.holds Try.pinned (OpenSpec.ofChange fnPolyTimesSpec)

/-- ITS FALSE NEIGHBOUR: 'it returns false'. Refute it at one input. -/
def fnPolyTimesWrong : ChangeSpec := { name := "fnPolyTimes", fn := fun _ => fun
  | [d1, d2] => { results := [.lit (.bool false)], args := [d1, d2] }
  | _ => none }
def FnPolyTimesWrongFalsely : Prop := fnPolyTimesRow.holds Try.pinned (OpenSpec.ofChange fnPolyTimesWrong)

/-- 'laws.FnExactFieldTimes': WHATEVER THE INPUT: true; the input reads as it did. -/
def fnExactFieldTimesSpec : ChangeSpec := { name := "fnExactFieldTimes", fn := fun _ => fun
  | [d1, d2, d3] => { results := [.lit (.bool true)], args := [d1, d2, d3] }
  | _ => none }
def fnExactFieldTimesRow : OpenClaim := { program := "ytdnjmnlieilpiac", sum := "dab260c93809049c4b8e37a8fa1767cd9e2308e471a3e9e4d12d158f31b976bf", func := "loop.example/bitwords/laws.FnExactFieldTimes", spec := "fnExactFieldTimes", apart := false }
def FnExactFieldTimesSaid : Prop := fnExactFieldTimesRow.holds Try.pinned (OpenSpec.ofChange fnExactFieldTimesSpec)

/-- ITS FALSE NEIGHBOUR: 'it returns false'. Refute it at one input. -/
def fnExactFieldTimesWrong : ChangeSpec := { name := "fnExactFieldTimes", fn := fun _ => fun
  | [d1, d2, d3] => { results := [.lit (.bool false)], args := [d1, d2, d3] }
  | _ => none }
def FnExactFieldTimesWrongFalsely : Prop := fnExactFieldTimesRow.holds Try.pinned (OpenSpec.ofChange fnExactFieldTimesWrong)

/-- 'laws.FnExactFieldInverse': WHATEVER THE INPUT: true; the input reads as it did. -/
def fnExactFieldInverseSpec : ChangeSpec := { name := "fnExactFieldInverse", fn := fun _ => fun
  | [d1, d2] => { results := [.lit (.bool true)], args := [d1, d2] }
  | _ => none }
def fnExactFieldInverseRow : OpenClaim := { program := "ytdnjmnlieilpiac", sum := "dab260c93809049c4b8e37a8fa1767cd9e2308e471a3e9e4d12d158f31b976bf", func := "loop.example/bitwords/laws.FnExactFieldInverse", spec := "fnExactFieldInverse", apart := false }
def FnExactFieldInverseSaid : Prop := fnExactFieldInverseRow.holds Try.pinned (OpenSpec.ofChange fnExactFieldInverseSpec)

/-- ITS FALSE NEIGHBOUR: 'it returns false'. Refute it at one input. -/
def fnExactFieldInverseWrong : ChangeSpec := { name := "fnExactFieldInverse", fn := fun _ => fun
  | [d1, d2] => { results := [.lit (.bool false)], args := [d1, d2] }
  | _ => none }
def FnExactFieldInverseWrongFalsely : Prop := fnExactFieldInverseRow.holds Try.pinned (OpenSpec.ofChange fnExactFieldInverseWrong)

/- THE SECOND FORM. 'bulk': how many values and letters a reading holds, each counted each time it is reached (what is shared counts as often as it is met; a slice's spare places count too). A statement '..UptoSaid' is the law's where the arguments, and the package variables that the reading takes, are together of bulk at most 1048576: NARROWER than '..Said'. Prove '..Said' where nothing that the law and all that it calls make is longer than what came in: it says more and counts as full. Else prove '..UptoSaid'. A law counts once. -/
mutual
def uptoBulk {H : Type} : DataW H → Nat
  | .lit (.string bytes) => bytes.length + 1
  | .lit _ => 1
  | .nil => 1
  | .ptr d => uptoBulk d + 1
  | .slice elems spare => uptoBulkAll elems + uptoBulkAll spare + 1
  | .agg parts => uptoBulkAll parts + 1
  | .iface _ d => uptoBulk d + 1
  | .map entries => uptoBulkEntries entries + 1
  | .held _ => 1
def uptoBulkAll {H : Type} : List (DataW H) → Nat
  | [] => 0
  | d :: r => uptoBulk d + uptoBulkAll r
def uptoBulkEntries {H : Type} : List (Lit × DataW H) → Nat
  | [] => 0
  | x :: r => uptoBulkEntry x + uptoBulkEntries r
def uptoBulkEntry {H : Type} : Lit × DataW H → Nat
  | (.string bytes, d) => bytes.length + uptoBulk d + 1
  | (_, d) => uptoBulk d + 1
 end
def uptoSmall : (H : Type) → List (DataW H) → Bool := fun _ ds => decide (uptoBulkAll ds ≤ 1048576)
def OpenSpec.upto (s : _root_.Go.ChangeSpec) : _root_.Go.OpenSpec := { _root_.Go.OpenSpec.ofChange s with cond := some uptoSmall }

/-- 'laws.FnExactCheckOk', WHERE WHAT IT READS IS OF BULK AT MOST 1048576: true; the input reads as it did. -/
def fnExactCheckOkUptoRow : OpenClaim := { program := "ytdnjmnlieilpiac", sum := "dab260c93809049c4b8e37a8fa1767cd9e2308e471a3e9e4d12d158f31b976bf", func := "loop.example/bitwords/laws.FnExactCheckOk", spec := "fnExactCheckOk", apart := false, narrowed := true }
def FnExactCheckOkUptoSaid : Prop := fnExactCheckOkUptoRow.holds Try.pinned (OpenSpec.upto fnExactCheckOkSpec)

/-- 'laws.FnPolyDegree', WHERE WHAT IT READS IS OF BULK AT MOST 1048576: true; the input reads as it did. -/
def fnPolyDegreeUptoRow : OpenClaim := { program := "ytdnjmnlieilpiac", sum := "dab260c93809049c4b8e37a8fa1767cd9e2308e471a3e9e4d12d158f31b976bf", func := "loop.example/bitwords/laws.FnPolyDegree", spec := "fnPolyDegree", unfollowed := true, recurses := true, apart := false, narrowed := true }
def FnPolyDegreeUptoSaid : Prop := fnPolyDegreeUptoRow.holds Try.pinned (OpenSpec.upto fnPolyDegreeSpec)

/-- 'laws.FnPolyAdd', WHERE WHAT IT READS IS OF BULK AT MOST 1048576: true; the input reads as it did. -/
def fnPolyAddUptoRow : OpenClaim := { program := "ytdnjmnlieilpiac", sum := "dab260c93809049c4b8e37a8fa1767cd9e2308e471a3e9e4d12d158f31b976bf", func := "loop.example/bitwords/laws.FnPolyAdd", spec := "fnPolyAdd", unfollowed := true, recurses := true, apart := false, narrowed := true }
def FnPolyAddUptoSaid : Prop := fnPolyAddUptoRow.holds Try.pinned (OpenSpec.upto fnPolyAddSpec)

/-- 'laws.FnPolyTimes', WHERE WHAT IT READS IS OF BULK AT MOST 1048576: true; the input reads as it did. -/
def fnPolyTimesUptoRow : OpenClaim := { program := "ytdnjmnlieilpiac", sum := "dab260c93809049c4b8e37a8fa1767cd9e2308e471a3e9e4d12d158f31b976bf", func := "loop.example/bitwords/laws.FnPolyTimes", spec := "fnPolyTimes", unfollowed := true, recurses := true, apart := false, narrowed := true }
def FnPolyTimesUptoSaid : Prop := fnPolyTimesUptoRow.holds Try.pinned (OpenSpec.upto fnPolyTimesSpec)

/-- 'laws.FnExactFieldTimes', WHERE WHAT IT READS IS OF BULK AT MOST 1048576: true; the input reads as it did. -/
def fnExactFieldTimesUptoRow : OpenClaim := { program := "ytdnjmnlieilpiac", sum := "dab260c93809049c4b8e37a8fa1767cd9e2308e471a3e9e4d12d158f31b976bf", func := "loop.example/bitwords/laws.FnExactFieldTimes", spec := "fnExactFieldTimes", apart := false, narrowed := true }
def FnExactFieldTimesUptoSaid : Prop := fnExactFieldTimesUptoRow.holds Try.pinned (OpenSpec.upto fnExactFieldTimesSpec)

/-- 'laws.FnExactFieldInverse', WHERE WHAT IT READS IS OF BULK AT MOST 1048576: true; the input reads as it did. -/
def fnExactFieldInverseUptoRow : OpenClaim := { program := "ytdnjmnlieilpiac", sum := "dab260c93809049c4b8e37a8fa1767cd9e2308e471a3e9e4d12d158f31b976bf", func := "loop.example/bitwords/laws.FnExactFieldInverse", spec := "fnExactFieldInverse", apart := false, narrowed := true }
def FnExactFieldInverseUptoSaid : Prop := fnExactFieldInverseUptoRow.holds Try.pinned (OpenSpec.upto fnExactFieldInverseSpec)

end Rows
end Go.Proofs.Ytdnjmnlieilpiac
