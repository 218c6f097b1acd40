/-
  DERIVED. GIVEN WITH THE SEED: THE CARDS: each row of YtffaffojkfalhaaGreatDoorRows.lean that lists a variable, with what it lists TIED to the program's text (the seventh form; the later family's looks); each row that meets fmt, with fmt's text TOLD by the authors' own Lean function (tested against real Go, not proved from fmt's source: count such statements apart). THE CARD IS WHAT COUNTS. Prove the row's statement (the work); the ties are given (YtffaffojkfalhaaGreatDoorTie.lean); close each card by the builder's one call (the guide's Derived/Test/ToyasCard.lean, 'card_holds'). Laid BY PROGRAM, IN A SANDBOX (cutbox-door.mjs). By AI agents, Wed Nov 11 2026. No macro, syntax, notation, axiom, sorry.
-/
import Derived.Test.YtffaffojkfalhaaGreatDoorRows
import GoSem.ClaimSeven
namespace Go.Proofs.YtffaffojkfalhaaGreatDoor
namespace Rows

/-- THE TIED CARD OF 'scriptoriumlaw2.TreeToMatchesSpec'. -/
def treeToMatchesSpecCard : Claim7 := { stood := { row := treeToMatchesSpecRow, standIns := [], harness := (true, "1dc1bf4f55d041a7061ef043656ade85478750584f92d699fb068a2771c60c09"), looks := true }, kinds := [], alts := [], laidByText := true, laidKinds := [.data, .data, .data, .data, .sentinel, .sentinel, .pinned], laidTests := true, laidLooks := .later }
def TreeToMatchesSpecCardSaid : Prop := Claim7.holds Tryz.pinned (.plain (OpenSpec.ofChange treeToMatchesSpecSpec)) treeToMatchesSpecCard

/-- THE TIED CARD OF 'scriptoriumlaw2.TreeFromMatchesSpec'. -/
def treeFromMatchesSpecCard : Claim7 := { stood := { row := treeFromMatchesSpecRow, standIns := [], harness := (true, "1dc1bf4f55d041a7061ef043656ade85478750584f92d699fb068a2771c60c09"), looks := true }, kinds := [], alts := [], laidByText := true, laidKinds := [.data, .data, .data, .data, .sentinel, .sentinel, .pinned], laidTests := true, laidLooks := .later }
def TreeFromMatchesSpecCardSaid : Prop := Claim7.holds Tryz.pinned (.plain (OpenSpec.ofChange treeFromMatchesSpecSpec)) treeFromMatchesSpecCard

/-- THE TIED CARD OF 'scriptoriumlaw2.TreeRoundTrip'. -/
def treeRoundTripCard : Claim7 := { stood := { row := treeRoundTripRow, standIns := [], harness := (true, "1dc1bf4f55d041a7061ef043656ade85478750584f92d699fb068a2771c60c09"), looks := true }, kinds := [], alts := [], laidByText := true, laidKinds := [.data, .data, .data, .data, .sentinel, .sentinel, .pinned], laidTests := true, laidLooks := .later }
def TreeRoundTripCardSaid : Prop := Claim7.holds Tryz.pinned (.plain (OpenSpec.ofChange treeRoundTripSpec)) treeRoundTripCard

/-- THE TIED CARD OF 'scriptoriumlaw2.TreeBlanksDoNotMatter'. -/
def treeBlanksDoNotMatterCard : Claim7 := { stood := { row := treeBlanksDoNotMatterRow, standIns := [], harness := (true, "1dc1bf4f55d041a7061ef043656ade85478750584f92d699fb068a2771c60c09"), looks := true }, kinds := [], alts := [], laidByText := true, laidKinds := [.data, .data, .data, .data, .sentinel, .sentinel, .pinned], laidTests := true, laidLooks := .later }
def TreeBlanksDoNotMatterCardSaid : Prop := Claim7.holds Tryz.pinned (.plain (OpenSpec.ofChange treeBlanksDoNotMatterSpec)) treeBlanksDoNotMatterCard

/-- THE TIED CARD OF 'scriptoriumlaw2.TreeExplainMatchesSpec'. -/
def treeExplainMatchesSpecCard : Claim7 := { stood := { row := treeExplainMatchesSpecRow, standIns := [], harness := (true, "1dc1bf4f55d041a7061ef043656ade85478750584f92d699fb068a2771c60c09"), looks := true }, kinds := [], alts := [], laidByText := true, laidKinds := [.data, .data, .data, .data, .sentinel, .sentinel, .pinned], laidTests := true, laidLooks := .later }
def TreeExplainMatchesSpecCardSaid : Prop := Claim7.holds Tryz.pinned (.plain (OpenSpec.ofChange treeExplainMatchesSpecSpec)) treeExplainMatchesSpecCard

/-- THE TIED CARD OF 'scriptoriumlaw2.TreePlainWay'. -/
def treePlainWayCard : Claim7 := { stood := { row := treePlainWayRow, standIns := [], harness := (true, "1dc1bf4f55d041a7061ef043656ade85478750584f92d699fb068a2771c60c09"), looks := true }, kinds := [], alts := [], laidByText := true, laidKinds := [.data, .data, .data, .data, .sentinel, .sentinel, .pinned], laidTests := true, laidLooks := .later }
def TreePlainWayCardSaid : Prop := Claim7.holds Tryz.pinned (.plain (OpenSpec.ofChange treePlainWaySpec)) treePlainWayCard

/-- THE SECOND FORM's CARD OF 'scriptoriumlaw2.TreeToMatchesSpec'. -/
def treeToMatchesSpecUptoCard : Claim7 := { stood := { row := treeToMatchesSpecUptoRow, standIns := [], harness := (true, "1dc1bf4f55d041a7061ef043656ade85478750584f92d699fb068a2771c60c09"), looks := true }, kinds := [], alts := [], laidByText := true, laidKinds := [.data, .data, .data, .data, .sentinel, .sentinel, .pinned], laidTests := true, laidLooks := .later }
def TreeToMatchesSpecUptoCardSaid : Prop := Claim7.holds Tryz.pinned (.plain (OpenSpec.upto treeToMatchesSpecSpec)) treeToMatchesSpecUptoCard

/-- THE SECOND FORM's CARD OF 'scriptoriumlaw2.TreeFromMatchesSpec'. -/
def treeFromMatchesSpecUptoCard : Claim7 := { stood := { row := treeFromMatchesSpecUptoRow, standIns := [], harness := (true, "1dc1bf4f55d041a7061ef043656ade85478750584f92d699fb068a2771c60c09"), looks := true }, kinds := [], alts := [], laidByText := true, laidKinds := [.data, .data, .data, .data, .sentinel, .sentinel, .pinned], laidTests := true, laidLooks := .later }
def TreeFromMatchesSpecUptoCardSaid : Prop := Claim7.holds Tryz.pinned (.plain (OpenSpec.upto treeFromMatchesSpecSpec)) treeFromMatchesSpecUptoCard

/-- THE SECOND FORM's CARD OF 'scriptoriumlaw2.TreeRoundTrip'. -/
def treeRoundTripUptoCard : Claim7 := { stood := { row := treeRoundTripUptoRow, standIns := [], harness := (true, "1dc1bf4f55d041a7061ef043656ade85478750584f92d699fb068a2771c60c09"), looks := true }, kinds := [], alts := [], laidByText := true, laidKinds := [.data, .data, .data, .data, .sentinel, .sentinel, .pinned], laidTests := true, laidLooks := .later }
def TreeRoundTripUptoCardSaid : Prop := Claim7.holds Tryz.pinned (.plain (OpenSpec.upto treeRoundTripSpec)) treeRoundTripUptoCard

/-- THE SECOND FORM's CARD OF 'scriptoriumlaw2.TreeBlanksDoNotMatter'. -/
def treeBlanksDoNotMatterUptoCard : Claim7 := { stood := { row := treeBlanksDoNotMatterUptoRow, standIns := [], harness := (true, "1dc1bf4f55d041a7061ef043656ade85478750584f92d699fb068a2771c60c09"), looks := true }, kinds := [], alts := [], laidByText := true, laidKinds := [.data, .data, .data, .data, .sentinel, .sentinel, .pinned], laidTests := true, laidLooks := .later }
def TreeBlanksDoNotMatterUptoCardSaid : Prop := Claim7.holds Tryz.pinned (.plain (OpenSpec.upto treeBlanksDoNotMatterSpec)) treeBlanksDoNotMatterUptoCard

/-- THE SECOND FORM's CARD OF 'scriptoriumlaw2.TreeExplainMatchesSpec'. -/
def treeExplainMatchesSpecUptoCard : Claim7 := { stood := { row := treeExplainMatchesSpecUptoRow, standIns := [], harness := (true, "1dc1bf4f55d041a7061ef043656ade85478750584f92d699fb068a2771c60c09"), looks := true }, kinds := [], alts := [], laidByText := true, laidKinds := [.data, .data, .data, .data, .sentinel, .sentinel, .pinned], laidTests := true, laidLooks := .later }
def TreeExplainMatchesSpecUptoCardSaid : Prop := Claim7.holds Tryz.pinned (.plain (OpenSpec.upto treeExplainMatchesSpecSpec)) treeExplainMatchesSpecUptoCard

/-- THE SECOND FORM's CARD OF 'scriptoriumlaw2.TreePlainWay'. -/
def treePlainWayUptoCard : Claim7 := { stood := { row := treePlainWayUptoRow, standIns := [], harness := (true, "1dc1bf4f55d041a7061ef043656ade85478750584f92d699fb068a2771c60c09"), looks := true }, kinds := [], alts := [], laidByText := true, laidKinds := [.data, .data, .data, .data, .sentinel, .sentinel, .pinned], laidTests := true, laidLooks := .later }
def TreePlainWayUptoCardSaid : Prop := Claim7.holds Tryz.pinned (.plain (OpenSpec.upto treePlainWaySpec)) treePlainWayUptoCard
end Rows
end Go.Proofs.YtffaffojkfalhaaGreatDoor
