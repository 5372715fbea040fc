/-
  DERIVED. GIVEN WITH THE SEED: THE CARDS: each row of YtbknmokoegembabDoorRows.lean that lists a variable, with what it lists TIED to the program's text (the seventh form; the later family's looks); each row that meets fmt, with fmt's text TOLD by the authors' own Lean function (tested against real Go, not proved from fmt's source: count such statements apart). THE CARD IS WHAT COUNTS. Prove the row's statement (the work); the ties are given (YtbknmokoegembabDoorTie.lean); close each card by the builder's one call (the guide's Derived/Test/ToyasCard.lean, 'card_holds'). Laid BY PROGRAM, IN A SANDBOX (cutbox-door.mjs). By AI agents, Wed Nov 11 2026. No macro, syntax, notation, axiom, sorry.
-/
import Derived.Test.YtbknmokoegembabDoorRows
import GoSem.ClaimSeven
namespace Go.Proofs.YtbknmokoegembabDoor
namespace Rows

/-- THE TIED CARD OF 'laws.FnExactTogether'. -/
def fnExactTogetherCard : Claim7 := { stood := { row := fnExactTogetherRow, standIns := [], harness := (true, "9bfc34da3949a8bf51887fb916656275a2aa6dd1945dcaa97da3db17a6d42413"), looks := false }, kinds := [], alts := [], laidByText := true, laidKinds := [.data, .data], laidTests := true, laidLooks := .later }
def FnExactTogetherCardSaid : Prop := Claim7.holds Tryd.pinned (.plain (OpenSpec.ofChange fnExactTogetherSpec)) fnExactTogetherCard

/-- THE TIED CARD OF 'laws.FnWeave'. -/
def fnWeaveCard : Claim7 := { stood := { row := fnWeaveRow, standIns := [], harness := (true, "9bfc34da3949a8bf51887fb916656275a2aa6dd1945dcaa97da3db17a6d42413"), looks := false }, kinds := [], alts := [], laidByText := true, laidKinds := [.data, .data], laidTests := true, laidLooks := .later }
def FnWeaveCardSaid : Prop := Claim7.holds Tryd.pinned (.plain (OpenSpec.ofChange fnWeaveSpec)) fnWeaveCard

/-- THE TIED CARD OF 'laws.FnReverse'. -/
def fnReverseCard : Claim7 := { stood := { row := fnReverseRow, standIns := [], harness := (true, "9bfc34da3949a8bf51887fb916656275a2aa6dd1945dcaa97da3db17a6d42413"), looks := false }, kinds := [], alts := [], laidByText := true, laidKinds := [.data, .data], laidTests := true, laidLooks := .later }
def FnReverseCardSaid : Prop := Claim7.holds Tryd.pinned (.plain (OpenSpec.ofChange fnReverseSpec)) fnReverseCard

/-- THE TIED CARD OF 'laws.FnGather'. -/
def fnGatherCard : Claim7 := { stood := { row := fnGatherRow, standIns := [], harness := (true, "9bfc34da3949a8bf51887fb916656275a2aa6dd1945dcaa97da3db17a6d42413"), looks := false }, kinds := [], alts := [], laidByText := true, laidKinds := [.data, .data], laidTests := true, laidLooks := .later }
def FnGatherCardSaid : Prop := Claim7.holds Tryd.pinned (.plain (OpenSpec.ofChange fnGatherSpec)) fnGatherCard

/-- THE TIED CARD OF 'laws.FnScatter'. -/
def fnScatterCard : Claim7 := { stood := { row := fnScatterRow, standIns := [], harness := (true, "9bfc34da3949a8bf51887fb916656275a2aa6dd1945dcaa97da3db17a6d42413"), looks := false }, kinds := [], alts := [], laidByText := true, laidKinds := [.data, .data], laidTests := true, laidLooks := .later }
def FnScatterCardSaid : Prop := Claim7.holds Tryd.pinned (.plain (OpenSpec.ofChange fnScatterSpec)) fnScatterCard

/-- THE TIED CARD OF 'laws.FnUnweave'. -/
def fnUnweaveCard : Claim7 := { stood := { row := fnUnweaveRow, standIns := [], harness := (true, "9bfc34da3949a8bf51887fb916656275a2aa6dd1945dcaa97da3db17a6d42413"), looks := false }, kinds := [], alts := [], laidByText := true, laidKinds := [.data, .data], laidTests := true, laidLooks := .later }
def FnUnweaveCardSaid : Prop := Claim7.holds Tryd.pinned (.plain (OpenSpec.ofChange fnUnweaveSpec)) fnUnweaveCard

/-- THE SECOND FORM's CARD OF 'laws.FnExactTogether'. -/
def fnExactTogetherUptoCard : Claim7 := { stood := { row := fnExactTogetherUptoRow, standIns := [], harness := (true, "9bfc34da3949a8bf51887fb916656275a2aa6dd1945dcaa97da3db17a6d42413"), looks := false }, kinds := [], alts := [], laidByText := true, laidKinds := [.data, .data], laidTests := true, laidLooks := .later }
def FnExactTogetherUptoCardSaid : Prop := Claim7.holds Tryd.pinned (.plain (OpenSpec.upto fnExactTogetherSpec)) fnExactTogetherUptoCard

/-- THE SECOND FORM's CARD OF 'laws.FnWeave'. -/
def fnWeaveUptoCard : Claim7 := { stood := { row := fnWeaveUptoRow, standIns := [], harness := (true, "9bfc34da3949a8bf51887fb916656275a2aa6dd1945dcaa97da3db17a6d42413"), looks := false }, kinds := [], alts := [], laidByText := true, laidKinds := [.data, .data], laidTests := true, laidLooks := .later }
def FnWeaveUptoCardSaid : Prop := Claim7.holds Tryd.pinned (.plain (OpenSpec.upto fnWeaveSpec)) fnWeaveUptoCard

/-- THE SECOND FORM's CARD OF 'laws.FnReverse'. -/
def fnReverseUptoCard : Claim7 := { stood := { row := fnReverseUptoRow, standIns := [], harness := (true, "9bfc34da3949a8bf51887fb916656275a2aa6dd1945dcaa97da3db17a6d42413"), looks := false }, kinds := [], alts := [], laidByText := true, laidKinds := [.data, .data], laidTests := true, laidLooks := .later }
def FnReverseUptoCardSaid : Prop := Claim7.holds Tryd.pinned (.plain (OpenSpec.upto fnReverseSpec)) fnReverseUptoCard

/-- THE SECOND FORM's CARD OF 'laws.FnGather'. -/
def fnGatherUptoCard : Claim7 := { stood := { row := fnGatherUptoRow, standIns := [], harness := (true, "9bfc34da3949a8bf51887fb916656275a2aa6dd1945dcaa97da3db17a6d42413"), looks := false }, kinds := [], alts := [], laidByText := true, laidKinds := [.data, .data], laidTests := true, laidLooks := .later }
def FnGatherUptoCardSaid : Prop := Claim7.holds Tryd.pinned (.plain (OpenSpec.upto fnGatherSpec)) fnGatherUptoCard

/-- THE SECOND FORM's CARD OF 'laws.FnScatter'. -/
def fnScatterUptoCard : Claim7 := { stood := { row := fnScatterUptoRow, standIns := [], harness := (true, "9bfc34da3949a8bf51887fb916656275a2aa6dd1945dcaa97da3db17a6d42413"), looks := false }, kinds := [], alts := [], laidByText := true, laidKinds := [.data, .data], laidTests := true, laidLooks := .later }
def FnScatterUptoCardSaid : Prop := Claim7.holds Tryd.pinned (.plain (OpenSpec.upto fnScatterSpec)) fnScatterUptoCard

/-- THE SECOND FORM's CARD OF 'laws.FnUnweave'. -/
def fnUnweaveUptoCard : Claim7 := { stood := { row := fnUnweaveUptoRow, standIns := [], harness := (true, "9bfc34da3949a8bf51887fb916656275a2aa6dd1945dcaa97da3db17a6d42413"), looks := false }, kinds := [], alts := [], laidByText := true, laidKinds := [.data, .data], laidTests := true, laidLooks := .later }
def FnUnweaveUptoCardSaid : Prop := Claim7.holds Tryd.pinned (.plain (OpenSpec.upto fnUnweaveSpec)) fnUnweaveUptoCard
end Rows
end Go.Proofs.YtbknmokoegembabDoor
