/-
  DERIVED. GIVEN WITH THE SEED: THE CARDS: each row of YtkfcdjomkcmkeaaDoorRows.lean that lists a variable, with what it lists TIED to the program's text (the seventh form; the later family's looks); each row that meets fmt, with fmt's text TOLD by the authors' own Lean function (tested against real Go, not proved from fmt's source: count such statements apart). THE CARD IS WHAT COUNTS. Prove the row's statement (the work); the ties are given (YtkfcdjomkcmkeaaDoorTie.lean); close each card by the builder's one call (the guide's Derived/Test/ToyasCard.lean, 'card_holds'). Laid BY PROGRAM, IN A SANDBOX (cutbox-door.mjs). By AI agents, Wed Nov 11 2026. No macro, syntax, notation, axiom, sorry.
-/
import Derived.Test.YtkfcdjomkcmkeaaDoorRows
import GoSem.ClaimSeven
namespace Go.Proofs.YtkfcdjomkcmkeaaDoor
namespace Rows

/-- THE TIED CARD OF 'scriptoriumlaw2.TableRoundTrip'. -/
def tableRoundTripCard : Claim7 := { stood := { row := tableRoundTripRow, standIns := [], harness := (true, "c6f7fa5e7a49e98dc11c3c7a4732940966e6e4adf8f8c71f00c21d72a37ac0fb"), looks := false }, kinds := [], alts := [], laidByText := true, laidKinds := [.data, .pinned], laidTests := true, laidLooks := .later }
def TableRoundTripCardSaid : Prop := Claim7.holds Tryd.pinned (.plain (OpenSpec.ofChange tableRoundTripSpec)) tableRoundTripCard

/-- THE TIED CARD OF 'scriptoriumlaw2.TableCellsKept'. -/
def tableCellsKeptCard : Claim7 := { stood := { row := tableCellsKeptRow, standIns := [], harness := (true, "c6f7fa5e7a49e98dc11c3c7a4732940966e6e4adf8f8c71f00c21d72a37ac0fb"), looks := false }, kinds := [], alts := [], laidByText := true, laidKinds := [.data, .pinned], laidTests := true, laidLooks := .later }
def TableCellsKeptCardSaid : Prop := Claim7.holds Tryd.pinned (.plain (OpenSpec.ofChange tableCellsKeptSpec)) tableCellsKeptCard

/-- THE TIED CARD OF 'scriptoriumlaw2.TableExplainMatchesSpec'. -/
def tableExplainMatchesSpecCard : Claim7 := { stood := { row := tableExplainMatchesSpecRow, standIns := [], harness := (true, "c6f7fa5e7a49e98dc11c3c7a4732940966e6e4adf8f8c71f00c21d72a37ac0fb"), looks := false }, kinds := [], alts := [], laidByText := true, laidKinds := [.data, .pinned], laidTests := true, laidLooks := .later }
def TableExplainMatchesSpecCardSaid : Prop := Claim7.holds Tryd.pinned (.plain (OpenSpec.ofChange tableExplainMatchesSpecSpec)) tableExplainMatchesSpecCard

/-- THE TIED CARD OF 'scriptoriumlaw2.TablePlainWay'. -/
def tablePlainWayCard : Claim7 := { stood := { row := tablePlainWayRow, standIns := [], harness := (true, "c6f7fa5e7a49e98dc11c3c7a4732940966e6e4adf8f8c71f00c21d72a37ac0fb"), looks := false }, kinds := [], alts := [], laidByText := true, laidKinds := [.data, .pinned], laidTests := true, laidLooks := .later }
def TablePlainWayCardSaid : Prop := Claim7.holds Tryd.pinned (.plain (OpenSpec.ofChange tablePlainWaySpec)) tablePlainWayCard

/-- THE SECOND FORM's CARD OF 'scriptoriumlaw2.TableRoundTrip'. -/
def tableRoundTripUptoCard : Claim7 := { stood := { row := tableRoundTripUptoRow, standIns := [], harness := (true, "c6f7fa5e7a49e98dc11c3c7a4732940966e6e4adf8f8c71f00c21d72a37ac0fb"), looks := false }, kinds := [], alts := [], laidByText := true, laidKinds := [.data, .pinned], laidTests := true, laidLooks := .later }
def TableRoundTripUptoCardSaid : Prop := Claim7.holds Tryd.pinned (.plain (OpenSpec.upto tableRoundTripSpec)) tableRoundTripUptoCard

/-- THE SECOND FORM's CARD OF 'scriptoriumlaw2.TableCellsKept'. -/
def tableCellsKeptUptoCard : Claim7 := { stood := { row := tableCellsKeptUptoRow, standIns := [], harness := (true, "c6f7fa5e7a49e98dc11c3c7a4732940966e6e4adf8f8c71f00c21d72a37ac0fb"), looks := false }, kinds := [], alts := [], laidByText := true, laidKinds := [.data, .pinned], laidTests := true, laidLooks := .later }
def TableCellsKeptUptoCardSaid : Prop := Claim7.holds Tryd.pinned (.plain (OpenSpec.upto tableCellsKeptSpec)) tableCellsKeptUptoCard

/-- THE SECOND FORM's CARD OF 'scriptoriumlaw2.TableExplainMatchesSpec'. -/
def tableExplainMatchesSpecUptoCard : Claim7 := { stood := { row := tableExplainMatchesSpecUptoRow, standIns := [], harness := (true, "c6f7fa5e7a49e98dc11c3c7a4732940966e6e4adf8f8c71f00c21d72a37ac0fb"), looks := false }, kinds := [], alts := [], laidByText := true, laidKinds := [.data, .pinned], laidTests := true, laidLooks := .later }
def TableExplainMatchesSpecUptoCardSaid : Prop := Claim7.holds Tryd.pinned (.plain (OpenSpec.upto tableExplainMatchesSpecSpec)) tableExplainMatchesSpecUptoCard

/-- THE SECOND FORM's CARD OF 'scriptoriumlaw2.TablePlainWay'. -/
def tablePlainWayUptoCard : Claim7 := { stood := { row := tablePlainWayUptoRow, standIns := [], harness := (true, "c6f7fa5e7a49e98dc11c3c7a4732940966e6e4adf8f8c71f00c21d72a37ac0fb"), looks := false }, kinds := [], alts := [], laidByText := true, laidKinds := [.data, .pinned], laidTests := true, laidLooks := .later }
def TablePlainWayUptoCardSaid : Prop := Claim7.holds Tryd.pinned (.plain (OpenSpec.upto tablePlainWaySpec)) tablePlainWayUptoCard
end Rows
end Go.Proofs.YtkfcdjomkcmkeaaDoor
