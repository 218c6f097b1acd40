/-
  NARROWER THAN 'FOR EVERY INPUT', by the rows' own cells (each row's printed sentence says how): TextToMatchesSpec: laid · TextFromMatchesSpec: loops, laid · TextRoundTrip: laid · TextLinesKept: laid · TextExplainMatchesSpec: laid · TextPlainWay: laid.
  DERIVED. THE GIVEN ROWS OF THIS SEAT. 6 by the template 'for every input the law returns true; each argument reads behind the call as it read before'; 0 by the template 'total and deterministic' (their statements: YtgnaojphgdaalaaDoorTotals.lean).
  GIVEN WITH THE SEED: the statements are not yours to turn. If you find one false, say at which input.
  Laid BY PROGRAM, IN A SANDBOX (cutbox-rows.mjs): the forced cells as the released guide's own fill.sh prints them over the translation 766bdbcc35381918… (all of the seat's roots in one cut). By AI agents, Wed Nov 11 2026. No macro, syntax, notation, axiom, sorry.
-/
import Derived.Test.YtgnaojphgdaalaaDoorChecked
import GoSem.PinnedTables
import GoSem.Claim
import GoSem.ClaimJoined
import GoSem.ClaimMapViews
import Derived.JoinedTies
import Derived.KernelRfl
namespace Go.Proofs.YtgnaojphgdaalaaDoor
/- THE CELL 'sum', in the pinned program and in every row, IS THE sha256 OF THE DUMP (.gsa) THAT YtgnaojphgdaalaaDoorProg.lean LOADS. Nothing in Lean hashes anything: it is a label: what it is worth is what the hold of that sum in a sandbox is worth. -/
noncomputable def Tryd.pinned : Pinned := { name := "ytgnaojphgdaalaadoor", sum := "766bdbcc3538191818cfdfa85984093a8b2cc39a4a9ce376111ed42b526615e4", checked := Tryd.checked }
namespace Rows
def none {H : Type} : Left H := { results := [], args := [] }

/- WHAT THE LISTED PACKAGE-LEVEL VARIABLES READ AS WHEN THE CALL BEGINS. Each datum BY PROGRAM (the guide's laid-datum.mjs) off the statement by which the dump's own 'gosem.cut.vars' lays the variable. In a bare row this is a premise. The card (YtgnaojphgdaalaaDoorCards.lean) ties it to the program's text. -/
def laid_unicode_utf8_acceptRanges {H : Type} : DataW H := .agg [.agg [.lit (.int .u8 128), .lit (.int .u8 191)], .agg [.lit (.int .u8 160), .lit (.int .u8 191)], .agg [.lit (.int .u8 128), .lit (.int .u8 159)], .agg [.lit (.int .u8 144), .lit (.int .u8 191)], .agg [.lit (.int .u8 128), .lit (.int .u8 143)], .agg [.lit (.int .u8 0), .lit (.int .u8 0)], .agg [.lit (.int .u8 0), .lit (.int .u8 0)], .agg [.lit (.int .u8 0), .lit (.int .u8 0)], .agg [.lit (.int .u8 0), .lit (.int .u8 0)], .agg [.lit (.int .u8 0), .lit (.int .u8 0)], .agg [.lit (.int .u8 0), .lit (.int .u8 0)], .agg [.lit (.int .u8 0), .lit (.int .u8 0)], .agg [.lit (.int .u8 0), .lit (.int .u8 0)], .agg [.lit (.int .u8 0), .lit (.int .u8 0)], .agg [.lit (.int .u8 0), .lit (.int .u8 0)], .agg [.lit (.int .u8 0), .lit (.int .u8 0)]]
/-- One of Go's own tables, pinned by name: the form's constant. -/
def laid_unicode_utf8_first : DataW Unit := Go.Pinned.utf8First

/-- 'scriptoriumlaw2.TextToMatchesSpec': WHATEVER THE INPUT: true; the input reads as it did. -/
def textToMatchesSpecSpec : ChangeSpec := { name := "textToMatchesSpec", fn := fun _ => fun
  | [d] => { results := [.lit (.bool true)], args := [d] }
  | _ => none }
def textToMatchesSpecRow : OpenClaim := { program := "ytgnaojphgdaalaadoor", sum := "766bdbcc3538191818cfdfa85984093a8b2cc39a4a9ce376111ed42b526615e4", func := "scriptorium/scriptoriumlaw2.TextToMatchesSpec", spec := "textToMatchesSpec", inPlace := ["internal/bytealg.IndexByteString", "internal/bytealg.IndexString"], unfollowed := true, recurses := true, named := ["unicode/utf8.first", "unicode/utf8.acceptRanges", "internal/bytealg.MaxLen"], apart := false, laid := [("unicode/utf8.acceptRanges", laid_unicode_utf8_acceptRanges), ("unicode/utf8.first", laid_unicode_utf8_first)] }
def TextToMatchesSpecSaid : Prop := textToMatchesSpecRow.holds Tryd.pinned (OpenSpec.ofChange textToMatchesSpecSpec)

/-- ITS FALSE NEIGHBOUR: 'it returns false'. Refute it at one input. -/
def textToMatchesSpecWrong : ChangeSpec := { name := "textToMatchesSpec", fn := fun _ => fun
  | [d] => { results := [.lit (.bool false)], args := [d] }
  | _ => none }
def TextToMatchesSpecWrongFalsely : Prop := textToMatchesSpecRow.holds Tryd.pinned (OpenSpec.ofChange textToMatchesSpecWrong)

/-- 'scriptoriumlaw2.TextFromMatchesSpec': WHATEVER THE INPUT: true; the input reads as it did. -/
def textFromMatchesSpecSpec : ChangeSpec := { name := "textFromMatchesSpec", fn := fun _ => fun
  | [d1, d2] => { results := [.lit (.bool true)], args := [d1, d2] }
  | _ => none }
def textFromMatchesSpecRow : OpenClaim := { program := "ytgnaojphgdaalaadoor", sum := "766bdbcc3538191818cfdfa85984093a8b2cc39a4a9ce376111ed42b526615e4", func := "scriptorium/scriptoriumlaw2.TextFromMatchesSpec", spec := "textFromMatchesSpec", inPlace := ["internal/bytealg.IndexByteString", "internal/bytealg.IndexString"], unfollowed := true, recurses := true, named := ["unicode/utf8.first", "unicode/utf8.acceptRanges", "internal/bytealg.MaxLen"], loops := true, apart := false, laid := [("unicode/utf8.acceptRanges", laid_unicode_utf8_acceptRanges), ("unicode/utf8.first", laid_unicode_utf8_first)] }
def TextFromMatchesSpecSaid : Prop := textFromMatchesSpecRow.holds Tryd.pinned (OpenSpec.ofChange textFromMatchesSpecSpec)

/-- ITS FALSE NEIGHBOUR: 'it returns false'. Refute it at one input. -/
def textFromMatchesSpecWrong : ChangeSpec := { name := "textFromMatchesSpec", fn := fun _ => fun
  | [d1, d2] => { results := [.lit (.bool false)], args := [d1, d2] }
  | _ => none }
def TextFromMatchesSpecWrongFalsely : Prop := textFromMatchesSpecRow.holds Tryd.pinned (OpenSpec.ofChange textFromMatchesSpecWrong)

/-- 'scriptoriumlaw2.TextRoundTrip': WHATEVER THE INPUT: true; the input reads as it did. -/
def textRoundTripSpec : ChangeSpec := { name := "textRoundTrip", fn := fun _ => fun
  | [d] => { results := [.lit (.bool true)], args := [d] }
  | _ => none }
def textRoundTripRow : OpenClaim := { program := "ytgnaojphgdaalaadoor", sum := "766bdbcc3538191818cfdfa85984093a8b2cc39a4a9ce376111ed42b526615e4", func := "scriptorium/scriptoriumlaw2.TextRoundTrip", spec := "textRoundTrip", inPlace := ["internal/bytealg.IndexByteString", "internal/bytealg.IndexString"], unfollowed := true, recurses := true, named := ["unicode/utf8.first", "unicode/utf8.acceptRanges", "internal/bytealg.MaxLen"], apart := false, laid := [("unicode/utf8.acceptRanges", laid_unicode_utf8_acceptRanges), ("unicode/utf8.first", laid_unicode_utf8_first)] }
def TextRoundTripSaid : Prop := textRoundTripRow.holds Tryd.pinned (OpenSpec.ofChange textRoundTripSpec)

/-- ITS FALSE NEIGHBOUR: 'it returns false'. Refute it at one input. -/
def textRoundTripWrong : ChangeSpec := { name := "textRoundTrip", fn := fun _ => fun
  | [d] => { results := [.lit (.bool false)], args := [d] }
  | _ => none }
def TextRoundTripWrongFalsely : Prop := textRoundTripRow.holds Tryd.pinned (OpenSpec.ofChange textRoundTripWrong)

/-- 'scriptoriumlaw2.TextLinesKept': WHATEVER THE INPUT: true; the input reads as it did. -/
def textLinesKeptSpec : ChangeSpec := { name := "textLinesKept", fn := fun _ => fun
  | [d1, d2, d3] => { results := [.lit (.bool true)], args := [d1, d2, d3] }
  | _ => none }
def textLinesKeptRow : OpenClaim := { program := "ytgnaojphgdaalaadoor", sum := "766bdbcc3538191818cfdfa85984093a8b2cc39a4a9ce376111ed42b526615e4", func := "scriptorium/scriptoriumlaw2.TextLinesKept", spec := "textLinesKept", inPlace := ["internal/bytealg.IndexByteString", "internal/bytealg.IndexString"], unfollowed := true, recurses := true, named := ["unicode/utf8.first", "unicode/utf8.acceptRanges", "internal/bytealg.MaxLen"], apart := false, laid := [("unicode/utf8.acceptRanges", laid_unicode_utf8_acceptRanges), ("unicode/utf8.first", laid_unicode_utf8_first)] }
def TextLinesKeptSaid : Prop := textLinesKeptRow.holds Tryd.pinned (OpenSpec.ofChange textLinesKeptSpec)

/-- ITS FALSE NEIGHBOUR: 'it returns false'. Refute it at one input. -/
def textLinesKeptWrong : ChangeSpec := { name := "textLinesKept", fn := fun _ => fun
  | [d1, d2, d3] => { results := [.lit (.bool false)], args := [d1, d2, d3] }
  | _ => none }
def TextLinesKeptWrongFalsely : Prop := textLinesKeptRow.holds Tryd.pinned (OpenSpec.ofChange textLinesKeptWrong)

/-- 'scriptoriumlaw2.TextExplainMatchesSpec': WHATEVER THE INPUT: true; the input reads as it did. -/
def textExplainMatchesSpecSpec : ChangeSpec := { name := "textExplainMatchesSpec", fn := fun _ => fun
  | [d] => { results := [.lit (.bool true)], args := [d] }
  | _ => none }
def textExplainMatchesSpecRow : OpenClaim := { program := "ytgnaojphgdaalaadoor", sum := "766bdbcc3538191818cfdfa85984093a8b2cc39a4a9ce376111ed42b526615e4", func := "scriptorium/scriptoriumlaw2.TextExplainMatchesSpec", spec := "textExplainMatchesSpec", inPlace := ["internal/bytealg.IndexByteString", "internal/bytealg.IndexString"], unfollowed := true, recurses := true, named := ["unicode/utf8.first", "unicode/utf8.acceptRanges", "internal/bytealg.MaxLen"], apart := false, laid := [("unicode/utf8.acceptRanges", laid_unicode_utf8_acceptRanges), ("unicode/utf8.first", laid_unicode_utf8_first)] }
def TextExplainMatchesSpecSaid : Prop := textExplainMatchesSpecRow.holds Tryd.pinned (OpenSpec.ofChange textExplainMatchesSpecSpec)

/-- ITS FALSE NEIGHBOUR: 'it returns false'. Refute it at one input. -/
def textExplainMatchesSpecWrong : ChangeSpec := { name := "textExplainMatchesSpec", fn := fun _ => fun
  | [d] => { results := [.lit (.bool false)], args := [d] }
  | _ => none }
def TextExplainMatchesSpecWrongFalsely : Prop := textExplainMatchesSpecRow.holds Tryd.pinned (OpenSpec.ofChange textExplainMatchesSpecWrong)

/-- 'scriptoriumlaw2.TextPlainWay': WHATEVER THE INPUT: true; the input reads as it did. -/
def textPlainWaySpec : ChangeSpec := { name := "textPlainWay", fn := fun _ => fun
  | [d] => { results := [.lit (.bool true)], args := [d] }
  | _ => none }
def textPlainWayRow : OpenClaim := { program := "ytgnaojphgdaalaadoor", sum := "766bdbcc3538191818cfdfa85984093a8b2cc39a4a9ce376111ed42b526615e4", func := "scriptorium/scriptoriumlaw2.TextPlainWay", spec := "textPlainWay", inPlace := ["internal/bytealg.IndexByteString", "internal/bytealg.IndexString"], unfollowed := true, recurses := true, named := ["unicode/utf8.first", "unicode/utf8.acceptRanges", "internal/bytealg.MaxLen"], apart := false, laid := [("unicode/utf8.acceptRanges", laid_unicode_utf8_acceptRanges), ("unicode/utf8.first", laid_unicode_utf8_first)] }
def TextPlainWaySaid : Prop := textPlainWayRow.holds Tryd.pinned (OpenSpec.ofChange textPlainWaySpec)

/-- ITS FALSE NEIGHBOUR: 'it returns false'. Refute it at one input. -/
def textPlainWayWrong : ChangeSpec := { name := "textPlainWay", fn := fun _ => fun
  | [d] => { results := [.lit (.bool false)], args := [d] }
  | _ => none }
def TextPlainWayWrongFalsely : Prop := textPlainWayRow.holds Tryd.pinned (OpenSpec.ofChange textPlainWayWrong)

/- THE SECOND FORM. 'bulk': how many values and letters a reading holds, each counted each time it is reached (what is shared counts as often as it is met; a slice's spare places count too). A statement '..UptoSaid' is the law's where the arguments, and the package variables that the reading takes, are together of bulk at most 1048576: NARROWER than '..Said'. Prove '..Said' where nothing that the law and all that it calls make is longer than what came in: it says more and counts as full. Else prove '..UptoSaid'. A law counts once. -/
mutual
def uptoBulk {H : Type} : DataW H → Nat
  | .lit (.string bytes) => bytes.length + 1
  | .lit _ => 1
  | .nil => 1
  | .ptr d => uptoBulk d + 1
  | .slice elems spare => uptoBulkAll elems + uptoBulkAll spare + 1
  | .agg parts => uptoBulkAll parts + 1
  | .iface _ d => uptoBulk d + 1
  | .map entries => uptoBulkEntries entries + 1
  | .held _ => 1
def uptoBulkAll {H : Type} : List (DataW H) → Nat
  | [] => 0
  | d :: r => uptoBulk d + uptoBulkAll r
def uptoBulkEntries {H : Type} : List (Lit × DataW H) → Nat
  | [] => 0
  | x :: r => uptoBulkEntry x + uptoBulkEntries r
def uptoBulkEntry {H : Type} : Lit × DataW H → Nat
  | (.string bytes, d) => bytes.length + uptoBulk d + 1
  | (_, d) => uptoBulk d + 1
 end
def uptoSmall : (H : Type) → List (DataW H) → Bool := fun _ ds => decide (uptoBulkAll ds ≤ 1048576)
def OpenSpec.upto (s : _root_.Go.ChangeSpec) : _root_.Go.OpenSpec := { _root_.Go.OpenSpec.ofChange s with cond := some uptoSmall }

/-- 'scriptoriumlaw2.TextToMatchesSpec', WHERE WHAT IT READS IS OF BULK AT MOST 1048576: true; the input reads as it did. -/
def textToMatchesSpecUptoRow : OpenClaim := { program := "ytgnaojphgdaalaadoor", sum := "766bdbcc3538191818cfdfa85984093a8b2cc39a4a9ce376111ed42b526615e4", func := "scriptorium/scriptoriumlaw2.TextToMatchesSpec", spec := "textToMatchesSpec", inPlace := ["internal/bytealg.IndexByteString", "internal/bytealg.IndexString"], unfollowed := true, recurses := true, named := ["unicode/utf8.first", "unicode/utf8.acceptRanges", "internal/bytealg.MaxLen"], apart := false, laid := [("unicode/utf8.acceptRanges", laid_unicode_utf8_acceptRanges), ("unicode/utf8.first", laid_unicode_utf8_first)], narrowed := true }
def TextToMatchesSpecUptoSaid : Prop := textToMatchesSpecUptoRow.holds Tryd.pinned (OpenSpec.upto textToMatchesSpecSpec)

/-- 'scriptoriumlaw2.TextFromMatchesSpec', WHERE WHAT IT READS IS OF BULK AT MOST 1048576: true; the input reads as it did. -/
def textFromMatchesSpecUptoRow : OpenClaim := { program := "ytgnaojphgdaalaadoor", sum := "766bdbcc3538191818cfdfa85984093a8b2cc39a4a9ce376111ed42b526615e4", func := "scriptorium/scriptoriumlaw2.TextFromMatchesSpec", spec := "textFromMatchesSpec", inPlace := ["internal/bytealg.IndexByteString", "internal/bytealg.IndexString"], unfollowed := true, recurses := true, named := ["unicode/utf8.first", "unicode/utf8.acceptRanges", "internal/bytealg.MaxLen"], loops := true, apart := false, laid := [("unicode/utf8.acceptRanges", laid_unicode_utf8_acceptRanges), ("unicode/utf8.first", laid_unicode_utf8_first)], narrowed := true }
def TextFromMatchesSpecUptoSaid : Prop := textFromMatchesSpecUptoRow.holds Tryd.pinned (OpenSpec.upto textFromMatchesSpecSpec)

/-- 'scriptoriumlaw2.TextRoundTrip', WHERE WHAT IT READS IS OF BULK AT MOST 1048576: true; the input reads as it did. -/
def textRoundTripUptoRow : OpenClaim := { program := "ytgnaojphgdaalaadoor", sum := "766bdbcc3538191818cfdfa85984093a8b2cc39a4a9ce376111ed42b526615e4", func := "scriptorium/scriptoriumlaw2.TextRoundTrip", spec := "textRoundTrip", inPlace := ["internal/bytealg.IndexByteString", "internal/bytealg.IndexString"], unfollowed := true, recurses := true, named := ["unicode/utf8.first", "unicode/utf8.acceptRanges", "internal/bytealg.MaxLen"], apart := false, laid := [("unicode/utf8.acceptRanges", laid_unicode_utf8_acceptRanges), ("unicode/utf8.first", laid_unicode_utf8_first)], narrowed := true }
def TextRoundTripUptoSaid : Prop := textRoundTripUptoRow.holds Tryd.pinned (OpenSpec.upto textRoundTripSpec)

/-- 'scriptoriumlaw2.TextLinesKept', WHERE WHAT IT READS IS OF BULK AT MOST 1048576: true; the input reads as it did. -/
def textLinesKeptUptoRow : OpenClaim := { program := "ytgnaojphgdaalaadoor", sum := "766bdbcc3538191818cfdfa85984093a8b2cc39a4a9ce376111ed42b526615e4", func := "scriptorium/scriptoriumlaw2.TextLinesKept", spec := "textLinesKept", inPlace := ["internal/bytealg.IndexByteString", "internal/bytealg.IndexString"], unfollowed := true, recurses := true, named := ["unicode/utf8.first", "unicode/utf8.acceptRanges", "internal/bytealg.MaxLen"], apart := false, laid := [("unicode/utf8.acceptRanges", laid_unicode_utf8_acceptRanges), ("unicode/utf8.first", laid_unicode_utf8_first)], narrowed := true }
def TextLinesKeptUptoSaid : Prop := textLinesKeptUptoRow.holds Tryd.pinned (OpenSpec.upto textLinesKeptSpec)

/-- 'scriptoriumlaw2.TextExplainMatchesSpec', WHERE WHAT IT READS IS OF BULK AT MOST 1048576: true; the input reads as it did. -/
def textExplainMatchesSpecUptoRow : OpenClaim := { program := "ytgnaojphgdaalaadoor", sum := "766bdbcc3538191818cfdfa85984093a8b2cc39a4a9ce376111ed42b526615e4", func := "scriptorium/scriptoriumlaw2.TextExplainMatchesSpec", spec := "textExplainMatchesSpec", inPlace := ["internal/bytealg.IndexByteString", "internal/bytealg.IndexString"], unfollowed := true, recurses := true, named := ["unicode/utf8.first", "unicode/utf8.acceptRanges", "internal/bytealg.MaxLen"], apart := false, laid := [("unicode/utf8.acceptRanges", laid_unicode_utf8_acceptRanges), ("unicode/utf8.first", laid_unicode_utf8_first)], narrowed := true }
def TextExplainMatchesSpecUptoSaid : Prop := textExplainMatchesSpecUptoRow.holds Tryd.pinned (OpenSpec.upto textExplainMatchesSpecSpec)

/-- 'scriptoriumlaw2.TextPlainWay', WHERE WHAT IT READS IS OF BULK AT MOST 1048576: true; the input reads as it did. -/
def textPlainWayUptoRow : OpenClaim := { program := "ytgnaojphgdaalaadoor", sum := "766bdbcc3538191818cfdfa85984093a8b2cc39a4a9ce376111ed42b526615e4", func := "scriptorium/scriptoriumlaw2.TextPlainWay", spec := "textPlainWay", inPlace := ["internal/bytealg.IndexByteString", "internal/bytealg.IndexString"], unfollowed := true, recurses := true, named := ["unicode/utf8.first", "unicode/utf8.acceptRanges", "internal/bytealg.MaxLen"], apart := false, laid := [("unicode/utf8.acceptRanges", laid_unicode_utf8_acceptRanges), ("unicode/utf8.first", laid_unicode_utf8_first)], narrowed := true }
def TextPlainWayUptoSaid : Prop := textPlainWayUptoRow.holds Tryd.pinned (OpenSpec.upto textPlainWaySpec)

end Rows
end Go.Proofs.YtgnaojphgdaalaaDoor
