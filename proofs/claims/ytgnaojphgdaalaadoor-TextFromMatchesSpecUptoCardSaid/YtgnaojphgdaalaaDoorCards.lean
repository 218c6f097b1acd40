/-
  DERIVED. GIVEN WITH THE SEED: THE CARDS: each row of YtgnaojphgdaalaaDoorRows.lean that lists a variable, with what it lists TIED to the program's text (the seventh form; the later family's looks); each row that meets fmt, with fmt's text TOLD by the authors' own Lean function (tested against real Go, not proved from fmt's source: count such statements apart). THE CARD IS WHAT COUNTS. Prove the row's statement (the work); the ties are given (YtgnaojphgdaalaaDoorTie.lean); close each card by the builder's one call (the guide's Derived/Test/ToyasCard.lean, 'card_holds'). Laid BY PROGRAM, IN A SANDBOX (cutbox-door.mjs). By AI agents, Wed Nov 11 2026. No macro, syntax, notation, axiom, sorry.
-/
import Derived.Test.YtgnaojphgdaalaaDoorRows
import GoSem.ClaimSeven
namespace Go.Proofs.YtgnaojphgdaalaaDoor
namespace Rows

/-- THE TIED CARD OF 'scriptoriumlaw2.TextToMatchesSpec'. -/
def textToMatchesSpecCard : Claim7 := { stood := { row := textToMatchesSpecRow, standIns := [], harness := (true, "9abaf861e8041a43372c8a3fdd840a195b368ffde8ba7a11bd9a67717746f4f5"), looks := false }, kinds := [], alts := [], laidByText := true, laidKinds := [.data, .pinned], laidTests := true, laidLooks := .later }
def TextToMatchesSpecCardSaid : Prop := Claim7.holds Tryd.pinned (.plain (OpenSpec.ofChange textToMatchesSpecSpec)) textToMatchesSpecCard

/-- THE TIED CARD OF 'scriptoriumlaw2.TextFromMatchesSpec'. -/
def textFromMatchesSpecCard : Claim7 := { stood := { row := textFromMatchesSpecRow, standIns := [], harness := (true, "9abaf861e8041a43372c8a3fdd840a195b368ffde8ba7a11bd9a67717746f4f5"), looks := false }, kinds := [], alts := [], laidByText := true, laidKinds := [.data, .pinned], laidTests := true, laidLooks := .later }
def TextFromMatchesSpecCardSaid : Prop := Claim7.holds Tryd.pinned (.plain (OpenSpec.ofChange textFromMatchesSpecSpec)) textFromMatchesSpecCard

/-- THE TIED CARD OF 'scriptoriumlaw2.TextRoundTrip'. -/
def textRoundTripCard : Claim7 := { stood := { row := textRoundTripRow, standIns := [], harness := (true, "9abaf861e8041a43372c8a3fdd840a195b368ffde8ba7a11bd9a67717746f4f5"), looks := false }, kinds := [], alts := [], laidByText := true, laidKinds := [.data, .pinned], laidTests := true, laidLooks := .later }
def TextRoundTripCardSaid : Prop := Claim7.holds Tryd.pinned (.plain (OpenSpec.ofChange textRoundTripSpec)) textRoundTripCard

/-- THE TIED CARD OF 'scriptoriumlaw2.TextLinesKept'. -/
def textLinesKeptCard : Claim7 := { stood := { row := textLinesKeptRow, standIns := [], harness := (true, "9abaf861e8041a43372c8a3fdd840a195b368ffde8ba7a11bd9a67717746f4f5"), looks := false }, kinds := [], alts := [], laidByText := true, laidKinds := [.data, .pinned], laidTests := true, laidLooks := .later }
def TextLinesKeptCardSaid : Prop := Claim7.holds Tryd.pinned (.plain (OpenSpec.ofChange textLinesKeptSpec)) textLinesKeptCard

/-- THE TIED CARD OF 'scriptoriumlaw2.TextExplainMatchesSpec'. -/
def textExplainMatchesSpecCard : Claim7 := { stood := { row := textExplainMatchesSpecRow, standIns := [], harness := (true, "9abaf861e8041a43372c8a3fdd840a195b368ffde8ba7a11bd9a67717746f4f5"), looks := false }, kinds := [], alts := [], laidByText := true, laidKinds := [.data, .pinned], laidTests := true, laidLooks := .later }
def TextExplainMatchesSpecCardSaid : Prop := Claim7.holds Tryd.pinned (.plain (OpenSpec.ofChange textExplainMatchesSpecSpec)) textExplainMatchesSpecCard

/-- THE TIED CARD OF 'scriptoriumlaw2.TextPlainWay'. -/
def textPlainWayCard : Claim7 := { stood := { row := textPlainWayRow, standIns := [], harness := (true, "9abaf861e8041a43372c8a3fdd840a195b368ffde8ba7a11bd9a67717746f4f5"), looks := false }, kinds := [], alts := [], laidByText := true, laidKinds := [.data, .pinned], laidTests := true, laidLooks := .later }
def TextPlainWayCardSaid : Prop := Claim7.holds Tryd.pinned (.plain (OpenSpec.ofChange textPlainWaySpec)) textPlainWayCard

/-- THE SECOND FORM's CARD OF 'scriptoriumlaw2.TextToMatchesSpec'. -/
def textToMatchesSpecUptoCard : Claim7 := { stood := { row := textToMatchesSpecUptoRow, standIns := [], harness := (true, "9abaf861e8041a43372c8a3fdd840a195b368ffde8ba7a11bd9a67717746f4f5"), looks := false }, kinds := [], alts := [], laidByText := true, laidKinds := [.data, .pinned], laidTests := true, laidLooks := .later }
def TextToMatchesSpecUptoCardSaid : Prop := Claim7.holds Tryd.pinned (.plain (OpenSpec.upto textToMatchesSpecSpec)) textToMatchesSpecUptoCard

/-- THE SECOND FORM's CARD OF 'scriptoriumlaw2.TextFromMatchesSpec'. -/
def textFromMatchesSpecUptoCard : Claim7 := { stood := { row := textFromMatchesSpecUptoRow, standIns := [], harness := (true, "9abaf861e8041a43372c8a3fdd840a195b368ffde8ba7a11bd9a67717746f4f5"), looks := false }, kinds := [], alts := [], laidByText := true, laidKinds := [.data, .pinned], laidTests := true, laidLooks := .later }
def TextFromMatchesSpecUptoCardSaid : Prop := Claim7.holds Tryd.pinned (.plain (OpenSpec.upto textFromMatchesSpecSpec)) textFromMatchesSpecUptoCard

/-- THE SECOND FORM's CARD OF 'scriptoriumlaw2.TextRoundTrip'. -/
def textRoundTripUptoCard : Claim7 := { stood := { row := textRoundTripUptoRow, standIns := [], harness := (true, "9abaf861e8041a43372c8a3fdd840a195b368ffde8ba7a11bd9a67717746f4f5"), looks := false }, kinds := [], alts := [], laidByText := true, laidKinds := [.data, .pinned], laidTests := true, laidLooks := .later }
def TextRoundTripUptoCardSaid : Prop := Claim7.holds Tryd.pinned (.plain (OpenSpec.upto textRoundTripSpec)) textRoundTripUptoCard

/-- THE SECOND FORM's CARD OF 'scriptoriumlaw2.TextLinesKept'. -/
def textLinesKeptUptoCard : Claim7 := { stood := { row := textLinesKeptUptoRow, standIns := [], harness := (true, "9abaf861e8041a43372c8a3fdd840a195b368ffde8ba7a11bd9a67717746f4f5"), looks := false }, kinds := [], alts := [], laidByText := true, laidKinds := [.data, .pinned], laidTests := true, laidLooks := .later }
def TextLinesKeptUptoCardSaid : Prop := Claim7.holds Tryd.pinned (.plain (OpenSpec.upto textLinesKeptSpec)) textLinesKeptUptoCard

/-- THE SECOND FORM's CARD OF 'scriptoriumlaw2.TextExplainMatchesSpec'. -/
def textExplainMatchesSpecUptoCard : Claim7 := { stood := { row := textExplainMatchesSpecUptoRow, standIns := [], harness := (true, "9abaf861e8041a43372c8a3fdd840a195b368ffde8ba7a11bd9a67717746f4f5"), looks := false }, kinds := [], alts := [], laidByText := true, laidKinds := [.data, .pinned], laidTests := true, laidLooks := .later }
def TextExplainMatchesSpecUptoCardSaid : Prop := Claim7.holds Tryd.pinned (.plain (OpenSpec.upto textExplainMatchesSpecSpec)) textExplainMatchesSpecUptoCard

/-- THE SECOND FORM's CARD OF 'scriptoriumlaw2.TextPlainWay'. -/
def textPlainWayUptoCard : Claim7 := { stood := { row := textPlainWayUptoRow, standIns := [], harness := (true, "9abaf861e8041a43372c8a3fdd840a195b368ffde8ba7a11bd9a67717746f4f5"), looks := false }, kinds := [], alts := [], laidByText := true, laidKinds := [.data, .pinned], laidTests := true, laidLooks := .later }
def TextPlainWayUptoCardSaid : Prop := Claim7.holds Tryd.pinned (.plain (OpenSpec.upto textPlainWaySpec)) textPlainWayUptoCard
end Rows
end Go.Proofs.YtgnaojphgdaalaaDoor
