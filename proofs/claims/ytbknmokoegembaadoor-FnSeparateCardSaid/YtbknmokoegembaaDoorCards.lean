/-
  DERIVED. GIVEN WITH THE SEED: THE CARDS: each row of YtbknmokoegembaaDoorRows.lean that lists a variable, with what it lists TIED to the program's text (the seventh form; the later family's looks); each row that meets fmt, with fmt's text TOLD by the authors' own Lean function (tested against real Go, not proved from fmt's source: count such statements apart). THE CARD IS WHAT COUNTS. Prove the row's statement (the work); the ties are given (YtbknmokoegembaaDoorTie.lean); close each card by the builder's one call (the guide's Derived/Test/ToyasCard.lean, 'card_holds'). Laid BY PROGRAM, IN A SANDBOX (cutbox-door.mjs). By AI agents, Wed Nov 11 2026. No macro, syntax, notation, axiom, sorry.
-/
import Derived.Test.YtbknmokoegembaaDoorRows
import GoSem.ClaimSeven
namespace Go.Proofs.YtbknmokoegembaaDoor
namespace Rows

/-- THE TIED CARD OF 'laws.FnSeparate'. -/
def fnSeparateCard : Claim7 := { stood := { row := fnSeparateRow, standIns := [], harness := (true, "d194538f459731c9ad7d5ae4700cd6395ff480cf2fa62ed2785d52878fd31c3a"), looks := false }, kinds := [], alts := [], laidByText := true, laidKinds := [.data, .data], laidTests := true, laidLooks := .later }
def FnSeparateCardSaid : Prop := Claim7.holds Tryd.pinned (.plain (OpenSpec.ofChange fnSeparateSpec)) fnSeparateCard

/-- THE TIED CARD OF 'laws.FnExactUnweave'. -/
def fnExactUnweaveCard : Claim7 := { stood := { row := fnExactUnweaveRow, standIns := [], harness := (true, "d194538f459731c9ad7d5ae4700cd6395ff480cf2fa62ed2785d52878fd31c3a"), looks := false }, kinds := [], alts := [], laidByText := true, laidKinds := [.data, .data], laidTests := true, laidLooks := .later }
def FnExactUnweaveCardSaid : Prop := Claim7.holds Tryd.pinned (.plain (OpenSpec.ofChange fnExactUnweaveSpec)) fnExactUnweaveCard

/-- THE TIED CARD OF 'laws.FnExactWeave'. -/
def fnExactWeaveCard : Claim7 := { stood := { row := fnExactWeaveRow, standIns := [], harness := (true, "d194538f459731c9ad7d5ae4700cd6395ff480cf2fa62ed2785d52878fd31c3a"), looks := false }, kinds := [], alts := [], laidByText := true, laidKinds := [.data, .data], laidTests := true, laidLooks := .later }
def FnExactWeaveCardSaid : Prop := Claim7.holds Tryd.pinned (.plain (OpenSpec.ofChange fnExactWeaveSpec)) fnExactWeaveCard

/-- THE TIED CARD OF 'laws.FnExactGather'. -/
def fnExactGatherCard : Claim7 := { stood := { row := fnExactGatherRow, standIns := [], harness := (true, "d194538f459731c9ad7d5ae4700cd6395ff480cf2fa62ed2785d52878fd31c3a"), looks := false }, kinds := [], alts := [], laidByText := true, laidKinds := [.data, .data], laidTests := true, laidLooks := .later }
def FnExactGatherCardSaid : Prop := Claim7.holds Tryd.pinned (.plain (OpenSpec.ofChange fnExactGatherSpec)) fnExactGatherCard

/-- THE TIED CARD OF 'laws.FnExactScatter'. -/
def fnExactScatterCard : Claim7 := { stood := { row := fnExactScatterRow, standIns := [], harness := (true, "d194538f459731c9ad7d5ae4700cd6395ff480cf2fa62ed2785d52878fd31c3a"), looks := false }, kinds := [], alts := [], laidByText := true, laidKinds := [.data, .data], laidTests := true, laidLooks := .later }
def FnExactScatterCardSaid : Prop := Claim7.holds Tryd.pinned (.plain (OpenSpec.ofChange fnExactScatterSpec)) fnExactScatterCard

/-- THE TIED CARD OF 'laws.FnExactSeparate'. -/
def fnExactSeparateCard : Claim7 := { stood := { row := fnExactSeparateRow, standIns := [], harness := (true, "d194538f459731c9ad7d5ae4700cd6395ff480cf2fa62ed2785d52878fd31c3a"), looks := false }, kinds := [], alts := [], laidByText := true, laidKinds := [.data, .data], laidTests := true, laidLooks := .later }
def FnExactSeparateCardSaid : Prop := Claim7.holds Tryd.pinned (.plain (OpenSpec.ofChange fnExactSeparateSpec)) fnExactSeparateCard

/-- THE SECOND FORM's CARD OF 'laws.FnSeparate'. -/
def fnSeparateUptoCard : Claim7 := { stood := { row := fnSeparateUptoRow, standIns := [], harness := (true, "d194538f459731c9ad7d5ae4700cd6395ff480cf2fa62ed2785d52878fd31c3a"), looks := false }, kinds := [], alts := [], laidByText := true, laidKinds := [.data, .data], laidTests := true, laidLooks := .later }
def FnSeparateUptoCardSaid : Prop := Claim7.holds Tryd.pinned (.plain (OpenSpec.upto fnSeparateSpec)) fnSeparateUptoCard

/-- THE SECOND FORM's CARD OF 'laws.FnExactUnweave'. -/
def fnExactUnweaveUptoCard : Claim7 := { stood := { row := fnExactUnweaveUptoRow, standIns := [], harness := (true, "d194538f459731c9ad7d5ae4700cd6395ff480cf2fa62ed2785d52878fd31c3a"), looks := false }, kinds := [], alts := [], laidByText := true, laidKinds := [.data, .data], laidTests := true, laidLooks := .later }
def FnExactUnweaveUptoCardSaid : Prop := Claim7.holds Tryd.pinned (.plain (OpenSpec.upto fnExactUnweaveSpec)) fnExactUnweaveUptoCard

/-- THE SECOND FORM's CARD OF 'laws.FnExactWeave'. -/
def fnExactWeaveUptoCard : Claim7 := { stood := { row := fnExactWeaveUptoRow, standIns := [], harness := (true, "d194538f459731c9ad7d5ae4700cd6395ff480cf2fa62ed2785d52878fd31c3a"), looks := false }, kinds := [], alts := [], laidByText := true, laidKinds := [.data, .data], laidTests := true, laidLooks := .later }
def FnExactWeaveUptoCardSaid : Prop := Claim7.holds Tryd.pinned (.plain (OpenSpec.upto fnExactWeaveSpec)) fnExactWeaveUptoCard

/-- THE SECOND FORM's CARD OF 'laws.FnExactGather'. -/
def fnExactGatherUptoCard : Claim7 := { stood := { row := fnExactGatherUptoRow, standIns := [], harness := (true, "d194538f459731c9ad7d5ae4700cd6395ff480cf2fa62ed2785d52878fd31c3a"), looks := false }, kinds := [], alts := [], laidByText := true, laidKinds := [.data, .data], laidTests := true, laidLooks := .later }
def FnExactGatherUptoCardSaid : Prop := Claim7.holds Tryd.pinned (.plain (OpenSpec.upto fnExactGatherSpec)) fnExactGatherUptoCard

/-- THE SECOND FORM's CARD OF 'laws.FnExactScatter'. -/
def fnExactScatterUptoCard : Claim7 := { stood := { row := fnExactScatterUptoRow, standIns := [], harness := (true, "d194538f459731c9ad7d5ae4700cd6395ff480cf2fa62ed2785d52878fd31c3a"), looks := false }, kinds := [], alts := [], laidByText := true, laidKinds := [.data, .data], laidTests := true, laidLooks := .later }
def FnExactScatterUptoCardSaid : Prop := Claim7.holds Tryd.pinned (.plain (OpenSpec.upto fnExactScatterSpec)) fnExactScatterUptoCard

/-- THE SECOND FORM's CARD OF 'laws.FnExactSeparate'. -/
def fnExactSeparateUptoCard : Claim7 := { stood := { row := fnExactSeparateUptoRow, standIns := [], harness := (true, "d194538f459731c9ad7d5ae4700cd6395ff480cf2fa62ed2785d52878fd31c3a"), looks := false }, kinds := [], alts := [], laidByText := true, laidKinds := [.data, .data], laidTests := true, laidLooks := .later }
def FnExactSeparateUptoCardSaid : Prop := Claim7.holds Tryd.pinned (.plain (OpenSpec.upto fnExactSeparateSpec)) fnExactSeparateUptoCard
end Rows
end Go.Proofs.YtbknmokoegembaaDoor
