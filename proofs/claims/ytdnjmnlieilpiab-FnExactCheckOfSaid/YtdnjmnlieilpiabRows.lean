/-
  No cell of these rows narrows 'for every input' (looked for: loops, veiled, ifaces, maps, wideKeys, modest, calm, conditions, laid).
  DERIVED. THE GIVEN ROWS OF THIS SEAT. 6 by the template 'for every input the law returns true; each argument reads behind the call as it read before'; 0 by the template 'total and deterministic' (their statements: YtdnjmnlieilpiabTotals.lean).
  GIVEN WITH THE SEED: the statements are not yours to turn. If you find one false, say at which input.
  Laid BY PROGRAM, IN A SANDBOX (cutbox-rows.mjs): the forced cells as the released guide's own fill.sh prints them over the translation 7942cafeb7169aa8… (all of the seat's roots in one cut). By AI agents, Wed Nov 11 2026. No macro, syntax, notation, axiom, sorry.
-/
import Derived.Test.YtdnjmnlieilpiabChecked
import GoSem.Claim
import GoSem.ClaimJoined
import GoSem.ClaimMapViews
import Derived.JoinedTies
import Derived.KernelRfl
namespace Go.Proofs.Ytdnjmnlieilpiab
/- THE CELL 'sum', in the pinned program and in every row, IS THE sha256 OF THE DUMP (.gsa) THAT YtdnjmnlieilpiabProg.lean LOADS. Nothing in Lean hashes anything: it is a label: what it is worth is what the hold of that sum in a sandbox is worth. -/
noncomputable def Try.pinned : Pinned := { name := "ytdnjmnlieilpiab", sum := "7942cafeb7169aa84a4c4eaed636ec4109e747ab06cc713b976f1ed212af8380", checked := Try.checked }
namespace Rows
def none {H : Type} : Left H := { results := [], args := [] }

/-- 'laws.FnExactPolyDivide': WHATEVER THE INPUT: true; the input reads as it did. -/
def fnExactPolyDivideSpec : ChangeSpec := { name := "fnExactPolyDivide", fn := fun _ => fun
  | [d1, d2] => { results := [.lit (.bool true)], args := [d1, d2] }
  | _ => none }
def fnExactPolyDivideRow : OpenClaim := { program := "ytdnjmnlieilpiab", sum := "7942cafeb7169aa84a4c4eaed636ec4109e747ab06cc713b976f1ed212af8380", func := "loop.example/bitwords/laws.FnExactPolyDivide", spec := "fnExactPolyDivide", apart := false }
def FnExactPolyDivideSaid : Prop := fnExactPolyDivideRow.holds Try.pinned (OpenSpec.ofChange fnExactPolyDivideSpec)

/-- ITS FALSE NEIGHBOUR: 'it returns false'. Refute it at one input. -/
def fnExactPolyDivideWrong : ChangeSpec := { name := "fnExactPolyDivide", fn := fun _ => fun
  | [d1, d2] => { results := [.lit (.bool false)], args := [d1, d2] }
  | _ => none }
def FnExactPolyDivideWrongFalsely : Prop := fnExactPolyDivideRow.holds Try.pinned (OpenSpec.ofChange fnExactPolyDivideWrong)

/-- 'laws.FnExactPolyCommon': WHATEVER THE INPUT: true; the input reads as it did. -/
def fnExactPolyCommonSpec : ChangeSpec := { name := "fnExactPolyCommon", fn := fun _ => fun
  | [d1, d2] => { results := [.lit (.bool true)], args := [d1, d2] }
  | _ => none }
def fnExactPolyCommonRow : OpenClaim := { program := "ytdnjmnlieilpiab", sum := "7942cafeb7169aa84a4c4eaed636ec4109e747ab06cc713b976f1ed212af8380", func := "loop.example/bitwords/laws.FnExactPolyCommon", spec := "fnExactPolyCommon", apart := false }
def FnExactPolyCommonSaid : Prop := fnExactPolyCommonRow.holds Try.pinned (OpenSpec.ofChange fnExactPolyCommonSpec)

/-- ITS FALSE NEIGHBOUR: 'it returns false'. Refute it at one input. -/
def fnExactPolyCommonWrong : ChangeSpec := { name := "fnExactPolyCommon", fn := fun _ => fun
  | [d1, d2] => { results := [.lit (.bool false)], args := [d1, d2] }
  | _ => none }
def FnExactPolyCommonWrongFalsely : Prop := fnExactPolyCommonRow.holds Try.pinned (OpenSpec.ofChange fnExactPolyCommonWrong)

/-- 'laws.FnExactRegisterNext': WHATEVER THE INPUT: true; the input reads as it did. -/
def fnExactRegisterNextSpec : ChangeSpec := { name := "fnExactRegisterNext", fn := fun _ => fun
  | [d1, d2] => { results := [.lit (.bool true)], args := [d1, d2] }
  | _ => none }
def fnExactRegisterNextRow : OpenClaim := { program := "ytdnjmnlieilpiab", sum := "7942cafeb7169aa84a4c4eaed636ec4109e747ab06cc713b976f1ed212af8380", func := "loop.example/bitwords/laws.FnExactRegisterNext", spec := "fnExactRegisterNext", apart := false }
def FnExactRegisterNextSaid : Prop := fnExactRegisterNextRow.holds Try.pinned (OpenSpec.ofChange fnExactRegisterNextSpec)

/-- ITS FALSE NEIGHBOUR: 'it returns false'. Refute it at one input. -/
def fnExactRegisterNextWrong : ChangeSpec := { name := "fnExactRegisterNext", fn := fun _ => fun
  | [d1, d2] => { results := [.lit (.bool false)], args := [d1, d2] }
  | _ => none }
def FnExactRegisterNextWrongFalsely : Prop := fnExactRegisterNextRow.holds Try.pinned (OpenSpec.ofChange fnExactRegisterNextWrong)

/-- 'laws.FnExactPolyPrime': WHATEVER THE INPUT: true; the input reads as it did. -/
def fnExactPolyPrimeSpec : ChangeSpec := { name := "fnExactPolyPrime", fn := fun _ => fun
  | [d] => { results := [.lit (.bool true)], args := [d] }
  | _ => none }
def fnExactPolyPrimeRow : OpenClaim := { program := "ytdnjmnlieilpiab", sum := "7942cafeb7169aa84a4c4eaed636ec4109e747ab06cc713b976f1ed212af8380", func := "loop.example/bitwords/laws.FnExactPolyPrime", spec := "fnExactPolyPrime", apart := false }
def FnExactPolyPrimeSaid : Prop := fnExactPolyPrimeRow.holds Try.pinned (OpenSpec.ofChange fnExactPolyPrimeSpec)

/-- ITS FALSE NEIGHBOUR: 'it returns false'. Refute it at one input. -/
def fnExactPolyPrimeWrong : ChangeSpec := { name := "fnExactPolyPrime", fn := fun _ => fun
  | [d] => { results := [.lit (.bool false)], args := [d] }
  | _ => none }
def FnExactPolyPrimeWrongFalsely : Prop := fnExactPolyPrimeRow.holds Try.pinned (OpenSpec.ofChange fnExactPolyPrimeWrong)

/-- 'laws.FnExactRegisterPeriod': WHATEVER THE INPUT: true; the input reads as it did. -/
def fnExactRegisterPeriodSpec : ChangeSpec := { name := "fnExactRegisterPeriod", fn := fun _ => fun
  | [d] => { results := [.lit (.bool true)], args := [d] }
  | _ => none }
def fnExactRegisterPeriodRow : OpenClaim := { program := "ytdnjmnlieilpiab", sum := "7942cafeb7169aa84a4c4eaed636ec4109e747ab06cc713b976f1ed212af8380", func := "loop.example/bitwords/laws.FnExactRegisterPeriod", spec := "fnExactRegisterPeriod", apart := false }
def FnExactRegisterPeriodSaid : Prop := fnExactRegisterPeriodRow.holds Try.pinned (OpenSpec.ofChange fnExactRegisterPeriodSpec)

/-- ITS FALSE NEIGHBOUR: 'it returns false'. Refute it at one input. -/
def fnExactRegisterPeriodWrong : ChangeSpec := { name := "fnExactRegisterPeriod", fn := fun _ => fun
  | [d] => { results := [.lit (.bool false)], args := [d] }
  | _ => none }
def FnExactRegisterPeriodWrongFalsely : Prop := fnExactRegisterPeriodRow.holds Try.pinned (OpenSpec.ofChange fnExactRegisterPeriodWrong)

/-- 'laws.FnExactCheckOf': WHATEVER THE INPUT: true; the input reads as it did. -/
def fnExactCheckOfSpec : ChangeSpec := { name := "fnExactCheckOf", fn := fun _ => fun
  | [d1, d2] => { results := [.lit (.bool true)], args := [d1, d2] }
  | _ => none }
def fnExactCheckOfRow : OpenClaim := { program := "ytdnjmnlieilpiab", sum := "7942cafeb7169aa84a4c4eaed636ec4109e747ab06cc713b976f1ed212af8380", func := "loop.example/bitwords/laws.FnExactCheckOf", spec := "fnExactCheckOf", apart := false }
def FnExactCheckOfSaid : Prop := fnExactCheckOfRow.holds Try.pinned (OpenSpec.ofChange fnExactCheckOfSpec)

/-- ITS FALSE NEIGHBOUR: 'it returns false'. Refute it at one input. -/
def fnExactCheckOfWrong : ChangeSpec := { name := "fnExactCheckOf", fn := fun _ => fun
  | [d1, d2] => { results := [.lit (.bool false)], args := [d1, d2] }
  | _ => none }
def FnExactCheckOfWrongFalsely : Prop := fnExactCheckOfRow.holds Try.pinned (OpenSpec.ofChange fnExactCheckOfWrong)

/- THE SECOND FORM. 'bulk': how many values and letters a reading holds, each counted each time it is reached (what is shared counts as often as it is met; a slice's spare places count too). A statement '..UptoSaid' is the law's where the arguments, and the package variables that the reading takes, are together of bulk at most 1048576: NARROWER than '..Said'. Prove '..Said' where nothing that the law and all that it calls make is longer than what came in: it says more and counts as full. Else prove '..UptoSaid'. A law counts once. -/
mutual
def uptoBulk {H : Type} : DataW H → Nat
  | .lit (.string bytes) => bytes.length + 1
  | .lit _ => 1
  | .nil => 1
  | .ptr d => uptoBulk d + 1
  | .slice elems spare => uptoBulkAll elems + uptoBulkAll spare + 1
  | .agg parts => uptoBulkAll parts + 1
  | .iface _ d => uptoBulk d + 1
  | .map entries => uptoBulkEntries entries + 1
  | .held _ => 1
def uptoBulkAll {H : Type} : List (DataW H) → Nat
  | [] => 0
  | d :: r => uptoBulk d + uptoBulkAll r
def uptoBulkEntries {H : Type} : List (Lit × DataW H) → Nat
  | [] => 0
  | x :: r => uptoBulkEntry x + uptoBulkEntries r
def uptoBulkEntry {H : Type} : Lit × DataW H → Nat
  | (.string bytes, d) => bytes.length + uptoBulk d + 1
  | (_, d) => uptoBulk d + 1
 end
def uptoSmall : (H : Type) → List (DataW H) → Bool := fun _ ds => decide (uptoBulkAll ds ≤ 1048576)
def OpenSpec.upto (s : _root_.Go.ChangeSpec) : _root_.Go.OpenSpec := { _root_.Go.OpenSpec.ofChange s with cond := some uptoSmall }

/-- 'laws.FnExactPolyDivide', WHERE WHAT IT READS IS OF BULK AT MOST 1048576: true; the input reads as it did. -/
def fnExactPolyDivideUptoRow : OpenClaim := { program := "ytdnjmnlieilpiab", sum := "7942cafeb7169aa84a4c4eaed636ec4109e747ab06cc713b976f1ed212af8380", func := "loop.example/bitwords/laws.FnExactPolyDivide", spec := "fnExactPolyDivide", apart := false, narrowed := true }
def FnExactPolyDivideUptoSaid : Prop := fnExactPolyDivideUptoRow.holds Try.pinned (OpenSpec.upto fnExactPolyDivideSpec)

/-- 'laws.FnExactPolyCommon', WHERE WHAT IT READS IS OF BULK AT MOST 1048576: true; the input reads as it did. -/
def fnExactPolyCommonUptoRow : OpenClaim := { program := "ytdnjmnlieilpiab", sum := "7942cafeb7169aa84a4c4eaed636ec4109e747ab06cc713b976f1ed212af8380", func := "loop.example/bitwords/laws.FnExactPolyCommon", spec := "fnExactPolyCommon", apart := false, narrowed := true }
def FnExactPolyCommonUptoSaid : Prop := fnExactPolyCommonUptoRow.holds Try.pinned (OpenSpec.upto fnExactPolyCommonSpec)

/-- 'laws.FnExactRegisterNext', WHERE WHAT IT READS IS OF BULK AT MOST 1048576: true; the input reads as it did. -/
def fnExactRegisterNextUptoRow : OpenClaim := { program := "ytdnjmnlieilpiab", sum := "7942cafeb7169aa84a4c4eaed636ec4109e747ab06cc713b976f1ed212af8380", func := "loop.example/bitwords/laws.FnExactRegisterNext", spec := "fnExactRegisterNext", apart := false, narrowed := true }
def FnExactRegisterNextUptoSaid : Prop := fnExactRegisterNextUptoRow.holds Try.pinned (OpenSpec.upto fnExactRegisterNextSpec)

/-- 'laws.FnExactPolyPrime', WHERE WHAT IT READS IS OF BULK AT MOST 1048576: true; the input reads as it did. -/
def fnExactPolyPrimeUptoRow : OpenClaim := { program := "ytdnjmnlieilpiab", sum := "7942cafeb7169aa84a4c4eaed636ec4109e747ab06cc713b976f1ed212af8380", func := "loop.example/bitwords/laws.FnExactPolyPrime", spec := "fnExactPolyPrime", apart := false, narrowed := true }
def FnExactPolyPrimeUptoSaid : Prop := fnExactPolyPrimeUptoRow.holds Try.pinned (OpenSpec.upto fnExactPolyPrimeSpec)

/-- 'laws.FnExactRegisterPeriod', WHERE WHAT IT READS IS OF BULK AT MOST 1048576: true; the input reads as it did. -/
def fnExactRegisterPeriodUptoRow : OpenClaim := { program := "ytdnjmnlieilpiab", sum := "7942cafeb7169aa84a4c4eaed636ec4109e747ab06cc713b976f1ed212af8380", func := "loop.example/bitwords/laws.FnExactRegisterPeriod", spec := "fnExactRegisterPeriod", apart := false, narrowed := true }
def FnExactRegisterPeriodUptoSaid : Prop := fnExactRegisterPeriodUptoRow.holds Try.pinned (OpenSpec.upto fnExactRegisterPeriodSpec)

/-- 'laws.FnExactCheckOf', WHERE WHAT IT READS IS OF BULK AT MOST 1048576: true; the input reads as it did. -/
def fnExactCheckOfUptoRow : OpenClaim := { program := "ytdnjmnlieilpiab", sum := "7942cafeb7169aa84a4c4eaed636ec4109e747ab06cc713b976f1ed212af8380", func := "loop.example/bitwords/laws.FnExactCheckOf", spec := "fnExactCheckOf", apart := false, narrowed := true }
def FnExactCheckOfUptoSaid : Prop := fnExactCheckOfUptoRow.holds Try.pinned (OpenSpec.upto fnExactCheckOfSpec)

end Rows
end Go.Proofs.Ytdnjmnlieilpiab
