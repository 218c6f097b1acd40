/-
  DERIVED. GIVEN WITH THE SEED: THE CARDS: each row of YtkfcdjomkcmkeaaGreatDoorRows.lean that lists a variable, with what it lists TIED to the program's text (the seventh form; the later family's looks); each row that meets fmt, with fmt's text TOLD by the authors' own Lean function (tested against real Go, not proved from fmt's source: count such statements apart). THE CARD IS WHAT COUNTS. Prove the row's statement (the work); the ties are given (YtkfcdjomkcmkeaaGreatDoorTie.lean); close each card by the builder's one call (the guide's Derived/Test/ToyasCard.lean, 'card_holds'). Laid BY PROGRAM, IN A SANDBOX (cutbox-door.mjs). By AI agents, Wed Nov 11 2026. No macro, syntax, notation, axiom, sorry.
-/
import Derived.Test.YtkfcdjomkcmkeaaGreatDoorRows
import GoSem.ClaimSeven
namespace Go.Proofs.YtkfcdjomkcmkeaaGreatDoor
namespace Rows

/-- THE TIED CARD OF 'scriptoriumlaw2.TableToMatchesSpec'. -/
def tableToMatchesSpecCard : Claim7 := { stood := { row := tableToMatchesSpecRow, standIns := [], harness := (true, "6543eeabf5012fdd574d7f0284d9dc6c8fb07ff09de8996cf4132b3865603671"), looks := false }, kinds := [], alts := [], laidByText := true, laidKinds := [.data, .pinned], laidTests := true, laidLooks := .later }
def TableToMatchesSpecCardSaid : Prop := Claim7.holds Tryz.pinned (.plain (OpenSpec.ofChange tableToMatchesSpecSpec)) tableToMatchesSpecCard

/-- THE TIED CARD OF 'scriptoriumlaw2.TableFromMatchesSpec'. -/
def tableFromMatchesSpecCard : Claim7 := { stood := { row := tableFromMatchesSpecRow, standIns := [], harness := (true, "6543eeabf5012fdd574d7f0284d9dc6c8fb07ff09de8996cf4132b3865603671"), looks := false }, kinds := [], alts := [], laidByText := true, laidKinds := [.data, .pinned], laidTests := true, laidLooks := .later }
def TableFromMatchesSpecCardSaid : Prop := Claim7.holds Tryz.pinned (.plain (OpenSpec.ofChange tableFromMatchesSpecSpec)) tableFromMatchesSpecCard

/-- THE SECOND FORM's CARD OF 'scriptoriumlaw2.TableToMatchesSpec'. -/
def tableToMatchesSpecUptoCard : Claim7 := { stood := { row := tableToMatchesSpecUptoRow, standIns := [], harness := (true, "6543eeabf5012fdd574d7f0284d9dc6c8fb07ff09de8996cf4132b3865603671"), looks := false }, kinds := [], alts := [], laidByText := true, laidKinds := [.data, .pinned], laidTests := true, laidLooks := .later }
def TableToMatchesSpecUptoCardSaid : Prop := Claim7.holds Tryz.pinned (.plain (OpenSpec.upto tableToMatchesSpecSpec)) tableToMatchesSpecUptoCard

/-- THE SECOND FORM's CARD OF 'scriptoriumlaw2.TableFromMatchesSpec'. -/
def tableFromMatchesSpecUptoCard : Claim7 := { stood := { row := tableFromMatchesSpecUptoRow, standIns := [], harness := (true, "6543eeabf5012fdd574d7f0284d9dc6c8fb07ff09de8996cf4132b3865603671"), looks := false }, kinds := [], alts := [], laidByText := true, laidKinds := [.data, .pinned], laidTests := true, laidLooks := .later }
def TableFromMatchesSpecUptoCardSaid : Prop := Claim7.holds Tryz.pinned (.plain (OpenSpec.upto tableFromMatchesSpecSpec)) tableFromMatchesSpecUptoCard
end Rows
end Go.Proofs.YtkfcdjomkcmkeaaGreatDoor
