/-
  DERIVED. GIVEN WITH THE SEED: THE CARDS: each row of YtbknmokoegembacDoorRows.lean that lists a variable, with what it lists TIED to the program's text (the seventh form; the later family's looks); each row that meets fmt, with fmt's text TOLD by the authors' own Lean function (tested against real Go, not proved from fmt's source: count such statements apart). THE CARD IS WHAT COUNTS. Prove the row's statement (the work); the ties are given (YtbknmokoegembacDoorTie.lean); close each card by the builder's one call (the guide's Derived/Test/ToyasCard.lean, 'card_holds'). Laid BY PROGRAM, IN A SANDBOX (cutbox-door.mjs). By AI agents, Wed Nov 11 2026. No macro, syntax, notation, axiom, sorry.
-/
import Derived.Test.YtbknmokoegembacDoorRows
import GoSem.ClaimSeven
namespace Go.Proofs.YtbknmokoegembacDoor
namespace Rows

/-- THE TIED CARD OF 'laws.FnTogether'. -/
def fnTogetherCard : Claim7 := { stood := { row := fnTogetherRow, standIns := [], harness := (true, "2d6a8a0de1b3aeb61e246c91685112b4713484a3c94d164edf46c1a794b35f1c"), looks := false }, kinds := [], alts := [], laidByText := true, laidKinds := [.data, .data], laidTests := true, laidLooks := .later }
def FnTogetherCardSaid : Prop := Claim7.holds Tryd.pinned (.plain (OpenSpec.ofChange fnTogetherSpec)) fnTogetherCard

/-- THE TIED CARD OF 'laws.FnRoundsRun'. -/
def fnRoundsRunCard : Claim7 := { stood := { row := fnRoundsRunRow, standIns := [], harness := (true, "2d6a8a0de1b3aeb61e246c91685112b4713484a3c94d164edf46c1a794b35f1c"), looks := false }, kinds := [], alts := [], laidByText := true, laidKinds := [.data, .data], laidTests := true, laidLooks := .later }
def FnRoundsRunCardSaid : Prop := Claim7.holds Tryd.pinned (.plain (OpenSpec.ofChange fnRoundsRunSpec)) fnRoundsRunCard

/-- THE TIED CARD OF 'laws.FnExactRoundsRun'. -/
def fnExactRoundsRunCard : Claim7 := { stood := { row := fnExactRoundsRunRow, standIns := [], harness := (true, "2d6a8a0de1b3aeb61e246c91685112b4713484a3c94d164edf46c1a794b35f1c"), looks := false }, kinds := [], alts := [], laidByText := true, laidKinds := [.data, .data], laidTests := true, laidLooks := .later }
def FnExactRoundsRunCardSaid : Prop := Claim7.holds Tryd.pinned (.plain (OpenSpec.ofChange fnExactRoundsRunSpec)) fnExactRoundsRunCard

/-- THE TIED CARD OF 'laws.FnRoundsOf'. -/
def fnRoundsOfCard : Claim7 := { stood := { row := fnRoundsOfRow, standIns := [], harness := (true, "2d6a8a0de1b3aeb61e246c91685112b4713484a3c94d164edf46c1a794b35f1c"), looks := false }, kinds := [], alts := [], laidByText := true, laidKinds := [.data, .data], laidTests := true, laidLooks := .later }
def FnRoundsOfCardSaid : Prop := Claim7.holds Tryd.pinned (.plain (OpenSpec.ofChange fnRoundsOfSpec)) fnRoundsOfCard

/-- THE SECOND FORM's CARD OF 'laws.FnTogether'. -/
def fnTogetherUptoCard : Claim7 := { stood := { row := fnTogetherUptoRow, standIns := [], harness := (true, "2d6a8a0de1b3aeb61e246c91685112b4713484a3c94d164edf46c1a794b35f1c"), looks := false }, kinds := [], alts := [], laidByText := true, laidKinds := [.data, .data], laidTests := true, laidLooks := .later }
def FnTogetherUptoCardSaid : Prop := Claim7.holds Tryd.pinned (.plain (OpenSpec.upto fnTogetherSpec)) fnTogetherUptoCard

/-- THE SECOND FORM's CARD OF 'laws.FnRoundsRun'. -/
def fnRoundsRunUptoCard : Claim7 := { stood := { row := fnRoundsRunUptoRow, standIns := [], harness := (true, "2d6a8a0de1b3aeb61e246c91685112b4713484a3c94d164edf46c1a794b35f1c"), looks := false }, kinds := [], alts := [], laidByText := true, laidKinds := [.data, .data], laidTests := true, laidLooks := .later }
def FnRoundsRunUptoCardSaid : Prop := Claim7.holds Tryd.pinned (.plain (OpenSpec.upto fnRoundsRunSpec)) fnRoundsRunUptoCard

/-- THE SECOND FORM's CARD OF 'laws.FnExactRoundsRun'. -/
def fnExactRoundsRunUptoCard : Claim7 := { stood := { row := fnExactRoundsRunUptoRow, standIns := [], harness := (true, "2d6a8a0de1b3aeb61e246c91685112b4713484a3c94d164edf46c1a794b35f1c"), looks := false }, kinds := [], alts := [], laidByText := true, laidKinds := [.data, .data], laidTests := true, laidLooks := .later }
def FnExactRoundsRunUptoCardSaid : Prop := Claim7.holds Tryd.pinned (.plain (OpenSpec.upto fnExactRoundsRunSpec)) fnExactRoundsRunUptoCard

/-- THE SECOND FORM's CARD OF 'laws.FnRoundsOf'. -/
def fnRoundsOfUptoCard : Claim7 := { stood := { row := fnRoundsOfUptoRow, standIns := [], harness := (true, "2d6a8a0de1b3aeb61e246c91685112b4713484a3c94d164edf46c1a794b35f1c"), looks := false }, kinds := [], alts := [], laidByText := true, laidKinds := [.data, .data], laidTests := true, laidLooks := .later }
def FnRoundsOfUptoCardSaid : Prop := Claim7.holds Tryd.pinned (.plain (OpenSpec.upto fnRoundsOfSpec)) fnRoundsOfUptoCard
end Rows
end Go.Proofs.YtbknmokoegembacDoor
