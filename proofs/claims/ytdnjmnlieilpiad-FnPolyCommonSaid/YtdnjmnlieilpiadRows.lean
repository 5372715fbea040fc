/-
  No cell of these rows narrows 'for every input' (looked for: loops, veiled, ifaces, maps, wideKeys, modest, calm, conditions, laid).
  DERIVED. THE GIVEN ROWS OF THIS SEAT. 6 by the template 'for every input the law returns true; each argument reads behind the call as it read before'; 0 by the template 'total and deterministic' (their statements: YtdnjmnlieilpiadTotals.lean).
  GIVEN WITH THE SEED: the statements are not yours to turn. If you find one false, say at which input.
  Laid BY PROGRAM, IN A SANDBOX (cutbox-rows.mjs): the forced cells as the released guide's own fill.sh prints them over the translation 16e9395e56aef342… (all of the seat's roots in one cut). By AI agents, Wed Nov 11 2026. No macro, syntax, notation, axiom, sorry.
-/
import Derived.Test.YtdnjmnlieilpiadChecked
import GoSem.Claim
import GoSem.ClaimJoined
import GoSem.ClaimMapViews
import Derived.JoinedTies
import Derived.KernelRfl
namespace Go.Proofs.Ytdnjmnlieilpiad
/- THE CELL 'sum', in the pinned program and in every row, IS THE sha256 OF THE DUMP (.gsa) THAT YtdnjmnlieilpiadProg.lean LOADS. Nothing in Lean hashes anything: it is a label: what it is worth is what the hold of that sum in a sandbox is worth. -/
noncomputable def Try.pinned : Pinned := { name := "ytdnjmnlieilpiad", sum := "16e9395e56aef3429ae3f63a26484e7fb80e839bbae082e3f6e60a7763968dd8", checked := Try.checked }
namespace Rows
def none {H : Type} : Left H := { results := [], args := [] }

/-- 'laws.FnRegisterNext': WHATEVER THE INPUT: true; the input reads as it did. -/
def fnRegisterNextSpec : ChangeSpec := { name := "fnRegisterNext", fn := fun _ => fun
  | [d1, d2] => { results := [.lit (.bool true)], args := [d1, d2] }
  | _ => none }
def fnRegisterNextRow : OpenClaim := { program := "ytdnjmnlieilpiad", sum := "16e9395e56aef3429ae3f63a26484e7fb80e839bbae082e3f6e60a7763968dd8", func := "loop.example/bitwords/laws.FnRegisterNext", spec := "fnRegisterNext", unfollowed := true, recurses := true, apart := false }
def FnRegisterNextSaid : Prop := fnRegisterNextRow.holds Try.pinned (OpenSpec.ofChange fnRegisterNextSpec)

/-- ITS FALSE NEIGHBOUR: 'it returns false'. Refute it at one input. -/
def fnRegisterNextWrong : ChangeSpec := { name := "fnRegisterNext", fn := fun _ => fun
  | [d1, d2] => { results := [.lit (.bool false)], args := [d1, d2] }
  | _ => none }
def FnRegisterNextWrongFalsely : Prop := fnRegisterNextRow.holds Try.pinned (OpenSpec.ofChange fnRegisterNextWrong)

/-- 'laws.FnCheckOf': WHATEVER THE INPUT: true; the input reads as it did. -/
def fnCheckOfSpec : ChangeSpec := { name := "fnCheckOf", fn := fun _ => fun
  | [d1, d2] => { results := [.lit (.bool true)], args := [d1, d2] }
  | _ => none }
def fnCheckOfRow : OpenClaim := { program := "ytdnjmnlieilpiad", sum := "16e9395e56aef3429ae3f63a26484e7fb80e839bbae082e3f6e60a7763968dd8", func := "loop.example/bitwords/laws.FnCheckOf", spec := "fnCheckOf", unfollowed := true, recurses := true, apart := false }
def FnCheckOfSaid : Prop := fnCheckOfRow.holds Try.pinned (OpenSpec.ofChange fnCheckOfSpec)

/-- ITS FALSE NEIGHBOUR: 'it returns false'. Refute it at one input. -/
def fnCheckOfWrong : ChangeSpec := { name := "fnCheckOf", fn := fun _ => fun
  | [d1, d2] => { results := [.lit (.bool false)], args := [d1, d2] }
  | _ => none }
def FnCheckOfWrongFalsely : Prop := fnCheckOfRow.holds Try.pinned (OpenSpec.ofChange fnCheckOfWrong)

/-- 'laws.FnRegisterPeriod': WHATEVER THE INPUT: true; the input reads as it did. -/
def fnRegisterPeriodSpec : ChangeSpec := { name := "fnRegisterPeriod", fn := fun _ => fun
  | [d] => { results := [.lit (.bool true)], args := [d] }
  | _ => none }
def fnRegisterPeriodRow : OpenClaim := { program := "ytdnjmnlieilpiad", sum := "16e9395e56aef3429ae3f63a26484e7fb80e839bbae082e3f6e60a7763968dd8", func := "loop.example/bitwords/laws.FnRegisterPeriod", spec := "fnRegisterPeriod", unfollowed := true, recurses := true, apart := false }
def FnRegisterPeriodSaid : Prop := fnRegisterPeriodRow.holds Try.pinned (OpenSpec.ofChange fnRegisterPeriodSpec)

/-- ITS FALSE NEIGHBOUR: 'it returns false'. Refute it at one input. -/
def fnRegisterPeriodWrong : ChangeSpec := { name := "fnRegisterPeriod", fn := fun _ => fun
  | [d] => { results := [.lit (.bool false)], args := [d] }
  | _ => none }
def FnRegisterPeriodWrongFalsely : Prop := fnRegisterPeriodRow.holds Try.pinned (OpenSpec.ofChange fnRegisterPeriodWrong)

/-- 'laws.FnPolyDivide': WHATEVER THE INPUT: true; the input reads as it did. -/
def fnPolyDivideSpec : ChangeSpec := { name := "fnPolyDivide", fn := fun _ => fun
  | [d] => { results := [.lit (.bool true)], args := [d] }
  | _ => none }
def fnPolyDivideRow : OpenClaim := { program := "ytdnjmnlieilpiad", sum := "16e9395e56aef3429ae3f63a26484e7fb80e839bbae082e3f6e60a7763968dd8", func := "loop.example/bitwords/laws.FnPolyDivide", spec := "fnPolyDivide", unfollowed := true, recurses := true, apart := false }
def FnPolyDivideSaid : Prop := fnPolyDivideRow.holds Try.pinned (OpenSpec.ofChange fnPolyDivideSpec)

/-- ITS FALSE NEIGHBOUR: 'it returns false'. Refute it at one input. -/
def fnPolyDivideWrong : ChangeSpec := { name := "fnPolyDivide", fn := fun _ => fun
  | [d] => { results := [.lit (.bool false)], args := [d] }
  | _ => none }
def FnPolyDivideWrongFalsely : Prop := fnPolyDivideRow.holds Try.pinned (OpenSpec.ofChange fnPolyDivideWrong)

/-- 'laws.FnCheckOk': WHATEVER THE INPUT: true; the input reads as it did. -/
def fnCheckOkSpec : ChangeSpec := { name := "fnCheckOk", fn := fun _ => fun
  | [d] => { results := [.lit (.bool true)], args := [d] }
  | _ => none }
def fnCheckOkRow : OpenClaim := { program := "ytdnjmnlieilpiad", sum := "16e9395e56aef3429ae3f63a26484e7fb80e839bbae082e3f6e60a7763968dd8", func := "loop.example/bitwords/laws.FnCheckOk", spec := "fnCheckOk", unfollowed := true, recurses := true, apart := false }
def FnCheckOkSaid : Prop := fnCheckOkRow.holds Try.pinned (OpenSpec.ofChange fnCheckOkSpec)

/-- ITS FALSE NEIGHBOUR: 'it returns false'. Refute it at one input. -/
def fnCheckOkWrong : ChangeSpec := { name := "fnCheckOk", fn := fun _ => fun
  | [d] => { results := [.lit (.bool false)], args := [d] }
  | _ => none }
def FnCheckOkWrongFalsely : Prop := fnCheckOkRow.holds Try.pinned (OpenSpec.ofChange fnCheckOkWrong)

/-- 'laws.FnPolyCommon': WHATEVER THE INPUT: true; the input reads as it did. -/
def fnPolyCommonSpec : ChangeSpec := { name := "fnPolyCommon", fn := fun _ => fun
  | [d] => { results := [.lit (.bool true)], args := [d] }
  | _ => none }
def fnPolyCommonRow : OpenClaim := { program := "ytdnjmnlieilpiad", sum := "16e9395e56aef3429ae3f63a26484e7fb80e839bbae082e3f6e60a7763968dd8", func := "loop.example/bitwords/laws.FnPolyCommon", spec := "fnPolyCommon", unfollowed := true, recurses := true, apart := false }
def FnPolyCommonSaid : Prop := fnPolyCommonRow.holds Try.pinned (OpenSpec.ofChange fnPolyCommonSpec)

/-- ITS FALSE NEIGHBOUR: 'it returns false'. Refute it at one input. -/
def fnPolyCommonWrong : ChangeSpec := { name := "fnPolyCommon", fn := fun _ => fun
  | [d] => { results := [.lit (.bool false)], args := [d] }
  | _ => none }
def FnPolyCommonWrongFalsely : Prop := fnPolyCommonRow.holds Try.pinned (OpenSpec.ofChange fnPolyCommonWrong)

/- THE SECOND FORM. 'bulk': how many values and letters a reading holds, each counted each time it is reached (what is shared counts as often as it is met; a slice's spare places count too). A statement '..UptoSaid' is the law's where the arguments, and the package variables that the reading takes, are together of bulk at most 1048576: NARROWER than '..Said'. Prove '..Said' where nothing that the law and all that it calls make is longer than what came in: it says more and counts as full. Else prove '..UptoSaid'. A law counts once. -/
mutual
def uptoBulk {H : Type} : DataW H → Nat
  | .lit (.string bytes) => bytes.length + 1
  | .lit _ => 1
  | .nil => 1
  | .ptr d => uptoBulk d + 1
  | .slice elems spare => uptoBulkAll elems + uptoBulkAll spare + 1
  | .agg parts => uptoBulkAll parts + 1
  | .iface _ d => uptoBulk d + 1
  | .map entries => uptoBulkEntries entries + 1
  | .held _ => 1
def uptoBulkAll {H : Type} : List (DataW H) → Nat
  | [] => 0
  | d :: r => uptoBulk d + uptoBulkAll r
def uptoBulkEntries {H : Type} : List (Lit × DataW H) → Nat
  | [] => 0
  | x :: r => uptoBulkEntry x + uptoBulkEntries r
def uptoBulkEntry {H : Type} : Lit × DataW H → Nat
  | (.string bytes, d) => bytes.length + uptoBulk d + 1
  | (_, d) => uptoBulk d + 1
 end
def uptoSmall : (H : Type) → List (DataW H) → Bool := fun _ ds => decide (uptoBulkAll ds ≤ 1048576)
def OpenSpec.upto (s : _root_.Go.ChangeSpec) : _root_.Go.OpenSpec := { _root_.Go.OpenSpec.ofChange s with cond := some uptoSmall }

/-- 'laws.FnRegisterNext', WHERE WHAT IT READS IS OF BULK AT MOST 1048576: true; the input reads as it did. -/
def fnRegisterNextUptoRow : OpenClaim := { program := "ytdnjmnlieilpiad", sum := "16e9395e56aef3429ae3f63a26484e7fb80e839bbae082e3f6e60a7763968dd8", func := "loop.example/bitwords/laws.FnRegisterNext", spec := "fnRegisterNext", unfollowed := true, recurses := true, apart := false, narrowed := true }
def FnRegisterNextUptoSaid : Prop := fnRegisterNextUptoRow.holds Try.pinned (OpenSpec.upto fnRegisterNextSpec)

/-- 'laws.FnCheckOf', WHERE WHAT IT READS IS OF BULK AT MOST 1048576: true; the input reads as it did. -/
def fnCheckOfUptoRow : OpenClaim := { program := "ytdnjmnlieilpiad", sum := "16e9395e56aef3429ae3f63a26484e7fb80e839bbae082e3f6e60a7763968dd8", func := "loop.example/bitwords/laws.FnCheckOf", spec := "fnCheckOf", unfollowed := true, recurses := true, apart := false, narrowed := true }
def FnCheckOfUptoSaid : Prop := fnCheckOfUptoRow.holds Try.pinned (OpenSpec.upto fnCheckOfSpec)

/-- 'laws.FnRegisterPeriod', WHERE WHAT IT READS IS OF BULK AT MOST 1048576: true; the input reads as it did. -/
def fnRegisterPeriodUptoRow : OpenClaim := { program := "ytdnjmnlieilpiad", sum := "16e9395e56aef3429ae3f63a26484e7fb80e839bbae082e3f6e60a7763968dd8", func := "loop.example/bitwords/laws.FnRegisterPeriod", spec := "fnRegisterPeriod", unfollowed := true, recurses := true, apart := false, narrowed := true }
def FnRegisterPeriodUptoSaid : Prop := fnRegisterPeriodUptoRow.holds Try.pinned (OpenSpec.upto fnRegisterPeriodSpec)

/-- 'laws.FnPolyDivide', WHERE WHAT IT READS IS OF BULK AT MOST 1048576: true; the input reads as it did. -/
def fnPolyDivideUptoRow : OpenClaim := { program := "ytdnjmnlieilpiad", sum := "16e9395e56aef3429ae3f63a26484e7fb80e839bbae082e3f6e60a7763968dd8", func := "loop.example/bitwords/laws.FnPolyDivide", spec := "fnPolyDivide", unfollowed := true, recurses := true, apart := false, narrowed := true }
def FnPolyDivideUptoSaid : Prop := fnPolyDivideUptoRow.holds Try.pinned (OpenSpec.upto fnPolyDivideSpec)

/-- 'laws.FnCheckOk', WHERE WHAT IT READS IS OF BULK AT MOST 1048576: true; the input reads as it did. -/
def fnCheckOkUptoRow : OpenClaim := { program := "ytdnjmnlieilpiad", sum := "16e9395e56aef3429ae3f63a26484e7fb80e839bbae082e3f6e60a7763968dd8", func := "loop.example/bitwords/laws.FnCheckOk", spec := "fnCheckOk", unfollowed := true, recurses := true, apart := false, narrowed := true }
def FnCheckOkUptoSaid : Prop := fnCheckOkUptoRow.holds Try.pinned (OpenSpec.upto fnCheckOkSpec)

/-- 'laws.FnPolyCommon', WHERE WHAT IT READS IS OF BULK AT MOST 1048576: true; the input reads as it did. -/
def fnPolyCommonUptoRow : OpenClaim := { program := "ytdnjmnlieilpiad", sum := "16e9395e56aef3429ae3f63a26484e7fb80e839bbae082e3f6e60a7763968dd8", func := "loop.example/bitwords/laws.FnPolyCommon", spec := "fnPolyCommon", unfollowed := true, recurses := true, apart := false, narrowed := true }
def FnPolyCommonUptoSaid : Prop := fnPolyCommonUptoRow.holds Try.pinned (OpenSpec.upto fnPolyCommonSpec)

end Rows
end Go.Proofs.Ytdnjmnlieilpiad
