/-
  No cell of these rows narrows 'for every input' (looked for: loops, veiled, ifaces, maps, wideKeys, modest, calm, conditions, laid).
  DERIVED. THE GIVEN ROWS OF THIS SEAT. 6 by the template 'for every input the law returns true; each argument reads behind the call as it read before'; 0 by the template 'total and deterministic' (their statements: YtdnjmnlieilpiaaTotals.lean).
  GIVEN WITH THE SEED: the statements are not yours to turn. If you find one false, say at which input.
  Laid BY PROGRAM, IN A SANDBOX (cutbox-rows.mjs): the forced cells as the released guide's own fill.sh prints them over the translation bc798a7b0768e9ed… (all of the seat's roots in one cut). By AI agents, Wed Nov 11 2026. No macro, syntax, notation, axiom, sorry.
-/
import Derived.Test.YtdnjmnlieilpiaaChecked
import GoSem.Claim
import GoSem.ClaimJoined
import GoSem.ClaimMapViews
import Derived.JoinedTies
import Derived.KernelRfl
namespace Go.Proofs.Ytdnjmnlieilpiaa
/- THE CELL 'sum', in the pinned program and in every row, IS THE sha256 OF THE DUMP (.gsa) THAT YtdnjmnlieilpiaaProg.lean LOADS. Nothing in Lean hashes anything: it is a label: what it is worth is what the hold of that sum in a sandbox is worth. -/
noncomputable def Try.pinned : Pinned := { name := "ytdnjmnlieilpiaa", sum := "bc798a7b0768e9ed8c873c7e17060dbfa56fc0db00cb43480c2f3e6ffa3136aa", checked := Try.checked }
namespace Rows
def none {H : Type} : Left H := { results := [], args := [] }

/-- 'laws.FnExactPolyValid': WHATEVER THE INPUT: true; the input reads as it did. -/
def fnExactPolyValidSpec : ChangeSpec := { name := "fnExactPolyValid", fn := fun _ => fun
  | [d] => { results := [.lit (.bool true)], args := [d] }
  | _ => none }
def fnExactPolyValidRow : OpenClaim := { program := "ytdnjmnlieilpiaa", sum := "bc798a7b0768e9ed8c873c7e17060dbfa56fc0db00cb43480c2f3e6ffa3136aa", func := "loop.example/bitwords/laws.FnExactPolyValid", spec := "fnExactPolyValid", apart := false }
def FnExactPolyValidSaid : Prop := fnExactPolyValidRow.holds Try.pinned (OpenSpec.ofChange fnExactPolyValidSpec)

/-- ITS FALSE NEIGHBOUR: 'it returns false'. Refute it at one input. -/
def fnExactPolyValidWrong : ChangeSpec := { name := "fnExactPolyValid", fn := fun _ => fun
  | [d] => { results := [.lit (.bool false)], args := [d] }
  | _ => none }
def FnExactPolyValidWrongFalsely : Prop := fnExactPolyValidRow.holds Try.pinned (OpenSpec.ofChange fnExactPolyValidWrong)

/-- 'laws.FnExactPolyAdd': WHATEVER THE INPUT: true; the input reads as it did. -/
def fnExactPolyAddSpec : ChangeSpec := { name := "fnExactPolyAdd", fn := fun _ => fun
  | [d1, d2] => { results := [.lit (.bool true)], args := [d1, d2] }
  | _ => none }
def fnExactPolyAddRow : OpenClaim := { program := "ytdnjmnlieilpiaa", sum := "bc798a7b0768e9ed8c873c7e17060dbfa56fc0db00cb43480c2f3e6ffa3136aa", func := "loop.example/bitwords/laws.FnExactPolyAdd", spec := "fnExactPolyAdd", apart := false }
def FnExactPolyAddSaid : Prop := fnExactPolyAddRow.holds Try.pinned (OpenSpec.ofChange fnExactPolyAddSpec)

/-- ITS FALSE NEIGHBOUR: 'it returns false'. Refute it at one input. -/
def fnExactPolyAddWrong : ChangeSpec := { name := "fnExactPolyAdd", fn := fun _ => fun
  | [d1, d2] => { results := [.lit (.bool false)], args := [d1, d2] }
  | _ => none }
def FnExactPolyAddWrongFalsely : Prop := fnExactPolyAddRow.holds Try.pinned (OpenSpec.ofChange fnExactPolyAddWrong)

/-- 'laws.FnFieldInverse': WHATEVER THE INPUT: true; the input reads as it did. -/
def fnFieldInverseSpec : ChangeSpec := { name := "fnFieldInverse", fn := fun _ => fun
  | [d] => { results := [.lit (.bool true)], args := [d] }
  | _ => none }
def fnFieldInverseRow : OpenClaim := { program := "ytdnjmnlieilpiaa", sum := "bc798a7b0768e9ed8c873c7e17060dbfa56fc0db00cb43480c2f3e6ffa3136aa", func := "loop.example/bitwords/laws.FnFieldInverse", spec := "fnFieldInverse", unfollowed := true, recurses := true, apart := false }
def FnFieldInverseSaid : Prop := fnFieldInverseRow.holds Try.pinned (OpenSpec.ofChange fnFieldInverseSpec)

/-- ITS FALSE NEIGHBOUR: 'it returns false'. Refute it at one input. -/
def fnFieldInverseWrong : ChangeSpec := { name := "fnFieldInverse", fn := fun _ => fun
  | [d] => { results := [.lit (.bool false)], args := [d] }
  | _ => none }
def FnFieldInverseWrongFalsely : Prop := fnFieldInverseRow.holds Try.pinned (OpenSpec.ofChange fnFieldInverseWrong)

/-- 'laws.FnExactPolyDegree': WHATEVER THE INPUT: true; the input reads as it did. -/
def fnExactPolyDegreeSpec : ChangeSpec := { name := "fnExactPolyDegree", fn := fun _ => fun
  | [d] => { results := [.lit (.bool true)], args := [d] }
  | _ => none }
def fnExactPolyDegreeRow : OpenClaim := { program := "ytdnjmnlieilpiaa", sum := "bc798a7b0768e9ed8c873c7e17060dbfa56fc0db00cb43480c2f3e6ffa3136aa", func := "loop.example/bitwords/laws.FnExactPolyDegree", spec := "fnExactPolyDegree", apart := false }
def FnExactPolyDegreeSaid : Prop := fnExactPolyDegreeRow.holds Try.pinned (OpenSpec.ofChange fnExactPolyDegreeSpec)

/-- ITS FALSE NEIGHBOUR: 'it returns false'. Refute it at one input. -/
def fnExactPolyDegreeWrong : ChangeSpec := { name := "fnExactPolyDegree", fn := fun _ => fun
  | [d] => { results := [.lit (.bool false)], args := [d] }
  | _ => none }
def FnExactPolyDegreeWrongFalsely : Prop := fnExactPolyDegreeRow.holds Try.pinned (OpenSpec.ofChange fnExactPolyDegreeWrong)

/-- 'laws.FnExactPolyTimes': WHATEVER THE INPUT: true; the input reads as it did. -/
def fnExactPolyTimesSpec : ChangeSpec := { name := "fnExactPolyTimes", fn := fun _ => fun
  | [d1, d2] => { results := [.lit (.bool true)], args := [d1, d2] }
  | _ => none }
def fnExactPolyTimesRow : OpenClaim := { program := "ytdnjmnlieilpiaa", sum := "bc798a7b0768e9ed8c873c7e17060dbfa56fc0db00cb43480c2f3e6ffa3136aa", func := "loop.example/bitwords/laws.FnExactPolyTimes", spec := "fnExactPolyTimes", apart := false }
def FnExactPolyTimesSaid : Prop := fnExactPolyTimesRow.holds Try.pinned (OpenSpec.ofChange fnExactPolyTimesSpec)

/-- ITS FALSE NEIGHBOUR: 'it returns false'. Refute it at one input. -/
def fnExactPolyTimesWrong : ChangeSpec := { name := "fnExactPolyTimes", fn := fun _ => fun
  | [d1, d2] => { results := [.lit (.bool false)], args := [d1, d2] }
  | _ => none }
def FnExactPolyTimesWrongFalsely : Prop := fnExactPolyTimesRow.holds Try.pinned (OpenSpec.ofChange fnExactPolyTimesWrong)

/-- 'laws.FnPolyValid': WHATEVER THE INPUT: true; the input reads as it did. -/
def fnPolyValidSpec : ChangeSpec := { name := "fnPolyValid", fn := fun _ => fun
  | [d] => { results := [.lit (.bool true)], args := [d] }
  | _ => none }
def fnPolyValidRow : OpenClaim := { program := "ytdnjmnlieilpiaa", sum := "bc798a7b0768e9ed8c873c7e17060dbfa56fc0db00cb43480c2f3e6ffa3136aa", func := "loop.example/bitwords/laws.FnPolyValid", spec := "fnPolyValid", unfollowed := true, recurses := true, apart := false }
def FnPolyValidSaid : Prop := fnPolyValidRow.holds Try.pinned (OpenSpec.ofChange fnPolyValidSpec)

/-- ITS FALSE NEIGHBOUR: 'it returns false'. Refute it at one input. -/
def fnPolyValidWrong : ChangeSpec := { name := "fnPolyValid", fn := fun _ => fun
  | [d] => { results := [.lit (.bool false)], args := [d] }
  | _ => none }
def FnPolyValidWrongFalsely : Prop := fnPolyValidRow.holds Try.pinned (OpenSpec.ofChange fnPolyValidWrong)

/- THE SECOND FORM. 'bulk': how many values and letters a reading holds, each counted each time it is reached (what is shared counts as often as it is met; a slice's spare places count too). A statement '..UptoSaid' is the law's where the arguments, and the package variables that the reading takes, are together of bulk at most 1048576: NARROWER than '..Said'. Prove '..Said' where nothing that the law and all that it calls make is longer than what came in: it says more and counts as full. Else prove '..UptoSaid'. A law counts once. -/
mutual
def uptoBulk {H : Type} : DataW H → Nat
  | .lit (.string bytes) => bytes.length + 1
  | .lit _ => 1
  | .nil => 1
  | .ptr d => uptoBulk d + 1
  | .slice elems spare => uptoBulkAll elems + uptoBulkAll spare + 1
  | .agg parts => uptoBulkAll parts + 1
  | .iface _ d => uptoBulk d + 1
  | .map entries => uptoBulkEntries entries + 1
  | .held _ => 1
def uptoBulkAll {H : Type} : List (DataW H) → Nat
  | [] => 0
  | d :: r => uptoBulk d + uptoBulkAll r
def uptoBulkEntries {H : Type} : List (Lit × DataW H) → Nat
  | [] => 0
  | x :: r => uptoBulkEntry x + uptoBulkEntries r
def uptoBulkEntry {H : Type} : Lit × DataW H → Nat
  | (.string bytes, d) => bytes.length + uptoBulk d + 1
  | (_, d) => uptoBulk d + 1
 end
def uptoSmall : (H : Type) → List (DataW H) → Bool := fun _ ds => decide (uptoBulkAll ds ≤ 1048576)
def OpenSpec.upto (s : _root_.Go.ChangeSpec) : _root_.Go.OpenSpec := { _root_.Go.OpenSpec.ofChange s with cond := some uptoSmall }

/-- 'laws.FnExactPolyValid', WHERE WHAT IT READS IS OF BULK AT MOST 1048576: true; the input reads as it did. -/
def fnExactPolyValidUptoRow : OpenClaim := { program := "ytdnjmnlieilpiaa", sum := "bc798a7b0768e9ed8c873c7e17060dbfa56fc0db00cb43480c2f3e6ffa3136aa", func := "loop.example/bitwords/laws.FnExactPolyValid", spec := "fnExactPolyValid", apart := false, narrowed := true }
def FnExactPolyValidUptoSaid : Prop := fnExactPolyValidUptoRow.holds Try.pinned (OpenSpec.upto fnExactPolyValidSpec)

/-- 'laws.FnExactPolyAdd', WHERE WHAT IT READS IS OF BULK AT MOST 1048576: true; the input reads as it did. -/
def fnExactPolyAddUptoRow : OpenClaim := { program := "ytdnjmnlieilpiaa", sum := "bc798a7b0768e9ed8c873c7e17060dbfa56fc0db00cb43480c2f3e6ffa3136aa", func := "loop.example/bitwords/laws.FnExactPolyAdd", spec := "fnExactPolyAdd", apart := false, narrowed := true }
def FnExactPolyAddUptoSaid : Prop := fnExactPolyAddUptoRow.holds Try.pinned (OpenSpec.upto fnExactPolyAddSpec)

/-- 'laws.FnFieldInverse', WHERE WHAT IT READS IS OF BULK AT MOST 1048576: true; the input reads as it did. -/
def fnFieldInverseUptoRow : OpenClaim := { program := "ytdnjmnlieilpiaa", sum := "bc798a7b0768e9ed8c873c7e17060dbfa56fc0db00cb43480c2f3e6ffa3136aa", func := "loop.example/bitwords/laws.FnFieldInverse", spec := "fnFieldInverse", unfollowed := true, recurses := true, apart := false, narrowed := true }
def FnFieldInverseUptoSaid : Prop := fnFieldInverseUptoRow.holds Try.pinned (OpenSpec.upto fnFieldInverseSpec)

/-- 'laws.FnExactPolyDegree', WHERE WHAT IT READS IS OF BULK AT MOST 1048576: true; the input reads as it did. -/
def fnExactPolyDegreeUptoRow : OpenClaim := { program := "ytdnjmnlieilpiaa", sum := "bc798a7b0768e9ed8c873c7e17060dbfa56fc0db00cb43480c2f3e6ffa3136aa", func := "loop.example/bitwords/laws.FnExactPolyDegree", spec := "fnExactPolyDegree", apart := false, narrowed := true }
def FnExactPolyDegreeUptoSaid : Prop := fnExactPolyDegreeUptoRow.holds Try.pinned (OpenSpec.upto fnExactPolyDegreeSpec)

/-- 'laws.FnExactPolyTimes', WHERE WHAT IT READS IS OF BULK AT MOST 1048576: true; the input reads as it did. -/
def fnExactPolyTimesUptoRow : OpenClaim := { program := "ytdnjmnlieilpiaa", sum := "bc798a7b0768e9ed8c873c7e17060dbfa56fc0db00cb43480c2f3e6ffa3136aa", func := "loop.example/bitwords/laws.FnExactPolyTimes", spec := "fnExactPolyTimes", apart := false, narrowed := true }
def FnExactPolyTimesUptoSaid : Prop := fnExactPolyTimesUptoRow.holds Try.pinned (OpenSpec.upto fnExactPolyTimesSpec)

/-- 'laws.FnPolyValid', WHERE WHAT IT READS IS OF BULK AT MOST 1048576: true; the input reads as it did. -/
def fnPolyValidUptoRow : OpenClaim := { program := "ytdnjmnlieilpiaa", sum := "bc798a7b0768e9ed8c873c7e17060dbfa56fc0db00cb43480c2f3e6ffa3136aa", func := "loop.example/bitwords/laws.FnPolyValid", spec := "fnPolyValid", unfollowed := true, recurses := true, apart := false, narrowed := true }
def FnPolyValidUptoSaid : Prop := fnPolyValidUptoRow.holds Try.pinned (OpenSpec.upto fnPolyValidSpec)

end Rows
end Go.Proofs.Ytdnjmnlieilpiaa
