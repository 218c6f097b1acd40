/-
  DERIVED. GIVEN WITH THE SEED: THE CARDS: each row of YtmoiobegbpkkbaaGreatDoorRows.lean that lists a variable, with what it lists TIED to the program's text (the seventh form; the later family's looks); each row that meets fmt, with fmt's text TOLD by the authors' own Lean function (tested against real Go, not proved from fmt's source: count such statements apart). THE CARD IS WHAT COUNTS. Prove the row's statement (the work); the ties are given (YtmoiobegbpkkbaaGreatDoorTie.lean); close each card by the builder's one call (the guide's Derived/Test/ToyasCard.lean, 'card_holds'). Laid BY PROGRAM, IN A SANDBOX (cutbox-door.mjs). By AI agents, Wed Nov 11 2026. No macro, syntax, notation, axiom, sorry.
-/
import Derived.Test.YtmoiobegbpkkbaaGreatDoorRows
import GoSem.ClaimSeven
namespace Go.Proofs.YtmoiobegbpkkbaaGreatDoor
namespace Rows

/-- THE TIED CARD OF 'scriptoriumlaw2.ConvertToMatchesSpec'. -/
def convertToMatchesSpecCard : Claim7 := { stood := { row := convertToMatchesSpecRow, standIns := [], harness := (true, "fe81ca62812d759e7947626557ae206354c6bb1911fd6d26882b5b25926da12a"), looks := true }, kinds := [], alts := [], laidByText := true, laidKinds := [.data, .data, .data, .data, .sentinel, .sentinel, .pinned], laidTests := true, laidLooks := .later }
def ConvertToMatchesSpecCardSaid : Prop := Claim7.holds Tryz.pinned (.plain (OpenSpec.ofChange convertToMatchesSpecSpec)) convertToMatchesSpecCard

/-- THE TIED CARD OF 'scriptoriumlaw2.ConvertFromMatchesSpec'. -/
def convertFromMatchesSpecCard : Claim7 := { stood := { row := convertFromMatchesSpecRow, standIns := [], harness := (true, "fe81ca62812d759e7947626557ae206354c6bb1911fd6d26882b5b25926da12a"), looks := true }, kinds := [], alts := [], laidByText := true, laidKinds := [.data, .data, .data, .data, .sentinel, .sentinel, .pinned], laidTests := true, laidLooks := .later }
def ConvertFromMatchesSpecCardSaid : Prop := Claim7.holds Tryz.pinned (.plain (OpenSpec.ofChange convertFromMatchesSpecSpec)) convertFromMatchesSpecCard

/-- THE TIED CARD OF 'scriptoriumlaw2.ConvertRestores'. -/
def convertRestoresCard : Claim7 := { stood := { row := convertRestoresRow, standIns := [], harness := (true, "fe81ca62812d759e7947626557ae206354c6bb1911fd6d26882b5b25926da12a"), looks := true }, kinds := [], alts := [], laidByText := true, laidKinds := [.data, .data, .data, .data, .sentinel, .sentinel, .pinned], laidTests := true, laidLooks := .later }
def ConvertRestoresCardSaid : Prop := Claim7.holds Tryz.pinned (.plain (OpenSpec.ofChange convertRestoresSpec)) convertRestoresCard

/-- THE TIED CARD OF 'scriptoriumlaw2.ConvertInjective'. -/
def convertInjectiveCard : Claim7 := { stood := { row := convertInjectiveRow, standIns := [], harness := (true, "fe81ca62812d759e7947626557ae206354c6bb1911fd6d26882b5b25926da12a"), looks := true }, kinds := [], alts := [], laidByText := true, laidKinds := [.data, .data, .data, .data, .sentinel, .sentinel, .pinned], laidTests := true, laidLooks := .later }
def ConvertInjectiveCardSaid : Prop := Claim7.holds Tryz.pinned (.plain (OpenSpec.ofChange convertInjectiveSpec)) convertInjectiveCard

/-- THE TIED CARD OF 'scriptoriumlaw2.ConvertExplainMatchesSpec'. -/
def convertExplainMatchesSpecCard : Claim7 := { stood := { row := convertExplainMatchesSpecRow, standIns := [], harness := (true, "fe81ca62812d759e7947626557ae206354c6bb1911fd6d26882b5b25926da12a"), looks := true }, kinds := [], alts := [], laidByText := true, laidKinds := [.data, .data, .data, .data, .sentinel, .sentinel, .pinned], laidTests := true, laidLooks := .later }
def ConvertExplainMatchesSpecCardSaid : Prop := Claim7.holds Tryz.pinned (.plain (OpenSpec.ofChange convertExplainMatchesSpecSpec)) convertExplainMatchesSpecCard

/-- THE SECOND FORM's CARD OF 'scriptoriumlaw2.ConvertToMatchesSpec'. -/
def convertToMatchesSpecUptoCard : Claim7 := { stood := { row := convertToMatchesSpecUptoRow, standIns := [], harness := (true, "fe81ca62812d759e7947626557ae206354c6bb1911fd6d26882b5b25926da12a"), looks := true }, kinds := [], alts := [], laidByText := true, laidKinds := [.data, .data, .data, .data, .sentinel, .sentinel, .pinned], laidTests := true, laidLooks := .later }
def ConvertToMatchesSpecUptoCardSaid : Prop := Claim7.holds Tryz.pinned (.plain (OpenSpec.upto convertToMatchesSpecSpec)) convertToMatchesSpecUptoCard

/-- THE SECOND FORM's CARD OF 'scriptoriumlaw2.ConvertFromMatchesSpec'. -/
def convertFromMatchesSpecUptoCard : Claim7 := { stood := { row := convertFromMatchesSpecUptoRow, standIns := [], harness := (true, "fe81ca62812d759e7947626557ae206354c6bb1911fd6d26882b5b25926da12a"), looks := true }, kinds := [], alts := [], laidByText := true, laidKinds := [.data, .data, .data, .data, .sentinel, .sentinel, .pinned], laidTests := true, laidLooks := .later }
def ConvertFromMatchesSpecUptoCardSaid : Prop := Claim7.holds Tryz.pinned (.plain (OpenSpec.upto convertFromMatchesSpecSpec)) convertFromMatchesSpecUptoCard

/-- THE SECOND FORM's CARD OF 'scriptoriumlaw2.ConvertRestores'. -/
def convertRestoresUptoCard : Claim7 := { stood := { row := convertRestoresUptoRow, standIns := [], harness := (true, "fe81ca62812d759e7947626557ae206354c6bb1911fd6d26882b5b25926da12a"), looks := true }, kinds := [], alts := [], laidByText := true, laidKinds := [.data, .data, .data, .data, .sentinel, .sentinel, .pinned], laidTests := true, laidLooks := .later }
def ConvertRestoresUptoCardSaid : Prop := Claim7.holds Tryz.pinned (.plain (OpenSpec.upto convertRestoresSpec)) convertRestoresUptoCard

/-- THE SECOND FORM's CARD OF 'scriptoriumlaw2.ConvertInjective'. -/
def convertInjectiveUptoCard : Claim7 := { stood := { row := convertInjectiveUptoRow, standIns := [], harness := (true, "fe81ca62812d759e7947626557ae206354c6bb1911fd6d26882b5b25926da12a"), looks := true }, kinds := [], alts := [], laidByText := true, laidKinds := [.data, .data, .data, .data, .sentinel, .sentinel, .pinned], laidTests := true, laidLooks := .later }
def ConvertInjectiveUptoCardSaid : Prop := Claim7.holds Tryz.pinned (.plain (OpenSpec.upto convertInjectiveSpec)) convertInjectiveUptoCard

/-- THE SECOND FORM's CARD OF 'scriptoriumlaw2.ConvertExplainMatchesSpec'. -/
def convertExplainMatchesSpecUptoCard : Claim7 := { stood := { row := convertExplainMatchesSpecUptoRow, standIns := [], harness := (true, "fe81ca62812d759e7947626557ae206354c6bb1911fd6d26882b5b25926da12a"), looks := true }, kinds := [], alts := [], laidByText := true, laidKinds := [.data, .data, .data, .data, .sentinel, .sentinel, .pinned], laidTests := true, laidLooks := .later }
def ConvertExplainMatchesSpecUptoCardSaid : Prop := Claim7.holds Tryz.pinned (.plain (OpenSpec.upto convertExplainMatchesSpecSpec)) convertExplainMatchesSpecUptoCard
end Rows
end Go.Proofs.YtmoiobegbpkkbaaGreatDoor
