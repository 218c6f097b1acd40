/-
  NARROWER THAN 'FOR EVERY INPUT', by the rows' own cells (each row's printed sentence says how): SoundFromMatchesSpec: loops.
  DERIVED. THE GIVEN ROWS OF THIS SEAT. 11 by the template 'for every input the law returns true; each argument reads behind the call as it read before'; 0 by the template 'total and deterministic' (their statements: YtjfcpnlacodjjaaTotals.lean).
  GIVEN WITH THE SEED: the statements are not yours to turn. If you find one false, say at which input.
  Laid BY PROGRAM, IN A SANDBOX (cutbox-rows.mjs): the forced cells as the released guide's own fill.sh prints them over the translation 1728d8449fda31b8… (all of the seat's roots in one cut). By AI agents, Wed Nov 11 2026. No macro, syntax, notation, axiom, sorry.
-/
import Derived.Test.YtjfcpnlacodjjaaChecked
import GoSem.Claim
import GoSem.ClaimJoined
import GoSem.ClaimMapViews
import Derived.JoinedTies
import Derived.KernelRfl
namespace Go.Proofs.Ytjfcpnlacodjjaa
/- THE CELL 'sum', in the pinned program and in every row, IS THE sha256 OF THE DUMP (.gsa) THAT YtjfcpnlacodjjaaProg.lean LOADS. Nothing in Lean hashes anything: it is a label: what it is worth is what the hold of that sum in a sandbox is worth. -/
noncomputable def Try.pinned : Pinned := { name := "ytjfcpnlacodjjaa", sum := "1728d8449fda31b847580d65588778a940be4771edc35ae5f57d5b79e3efdd7f", checked := Try.checked }
namespace Rows
def none {H : Type} : Left H := { results := [], args := [] }

/-- 'scriptoriumlaw2.SoundToMatchesSpec': WHATEVER THE INPUT: true; the input reads as it did. -/
def soundToMatchesSpecSpec : ChangeSpec := { name := "soundToMatchesSpec", fn := fun _ => fun
  | [d] => { results := [.lit (.bool true)], args := [d] }
  | _ => none }
def soundToMatchesSpecRow : OpenClaim := { program := "ytjfcpnlacodjjaa", sum := "1728d8449fda31b847580d65588778a940be4771edc35ae5f57d5b79e3efdd7f", func := "scriptorium/scriptoriumlaw2.SoundToMatchesSpec", spec := "soundToMatchesSpec", inPlace := ["internal/bytealg.IndexByteString", "internal/bytealg.IndexString"], unfollowed := true, recurses := true, named := ["internal/bytealg.MaxLen"], apart := false }
def SoundToMatchesSpecSaid : Prop := soundToMatchesSpecRow.holds Try.pinned (OpenSpec.ofChange soundToMatchesSpecSpec)

/-- ITS FALSE NEIGHBOUR: 'it returns false'. Refute it at one input. -/
def soundToMatchesSpecWrong : ChangeSpec := { name := "soundToMatchesSpec", fn := fun _ => fun
  | [d] => { results := [.lit (.bool false)], args := [d] }
  | _ => none }
def SoundToMatchesSpecWrongFalsely : Prop := soundToMatchesSpecRow.holds Try.pinned (OpenSpec.ofChange soundToMatchesSpecWrong)

/-- 'scriptoriumlaw2.SoundExplainMatchesSpec': WHATEVER THE INPUT: true; the input reads as it did. -/
def soundExplainMatchesSpecSpec : ChangeSpec := { name := "soundExplainMatchesSpec", fn := fun _ => fun
  | [d] => { results := [.lit (.bool true)], args := [d] }
  | _ => none }
def soundExplainMatchesSpecRow : OpenClaim := { program := "ytjfcpnlacodjjaa", sum := "1728d8449fda31b847580d65588778a940be4771edc35ae5f57d5b79e3efdd7f", func := "scriptorium/scriptoriumlaw2.SoundExplainMatchesSpec", spec := "soundExplainMatchesSpec", inPlace := ["internal/bytealg.IndexByteString", "internal/bytealg.IndexString"], unfollowed := true, recurses := true, named := ["internal/bytealg.MaxLen"], apart := false }
def SoundExplainMatchesSpecSaid : Prop := soundExplainMatchesSpecRow.holds Try.pinned (OpenSpec.ofChange soundExplainMatchesSpecSpec)

/-- ITS FALSE NEIGHBOUR: 'it returns false'. Refute it at one input. -/
def soundExplainMatchesSpecWrong : ChangeSpec := { name := "soundExplainMatchesSpec", fn := fun _ => fun
  | [d] => { results := [.lit (.bool false)], args := [d] }
  | _ => none }
def SoundExplainMatchesSpecWrongFalsely : Prop := soundExplainMatchesSpecRow.holds Try.pinned (OpenSpec.ofChange soundExplainMatchesSpecWrong)

/-- 'scriptoriumlaw2.HexrecToMatchesSpec': WHATEVER THE INPUT: true; the input reads as it did. -/
def hexrecToMatchesSpecSpec : ChangeSpec := { name := "hexrecToMatchesSpec", fn := fun _ => fun
  | [d] => { results := [.lit (.bool true)], args := [d] }
  | _ => none }
def hexrecToMatchesSpecRow : OpenClaim := { program := "ytjfcpnlacodjjaa", sum := "1728d8449fda31b847580d65588778a940be4771edc35ae5f57d5b79e3efdd7f", func := "scriptorium/scriptoriumlaw2.HexrecToMatchesSpec", spec := "hexrecToMatchesSpec", inPlace := ["internal/bytealg.IndexByteString", "internal/bytealg.IndexString"], unfollowed := true, recurses := true, named := ["internal/bytealg.MaxLen"], apart := false }
def HexrecToMatchesSpecSaid : Prop := hexrecToMatchesSpecRow.holds Try.pinned (OpenSpec.ofChange hexrecToMatchesSpecSpec)

/-- ITS FALSE NEIGHBOUR: 'it returns false'. Refute it at one input. -/
def hexrecToMatchesSpecWrong : ChangeSpec := { name := "hexrecToMatchesSpec", fn := fun _ => fun
  | [d] => { results := [.lit (.bool false)], args := [d] }
  | _ => none }
def HexrecToMatchesSpecWrongFalsely : Prop := hexrecToMatchesSpecRow.holds Try.pinned (OpenSpec.ofChange hexrecToMatchesSpecWrong)

/-- 'scriptoriumlaw2.HexrecExplainMatchesSpec': WHATEVER THE INPUT: true; the input reads as it did. -/
def hexrecExplainMatchesSpecSpec : ChangeSpec := { name := "hexrecExplainMatchesSpec", fn := fun _ => fun
  | [d] => { results := [.lit (.bool true)], args := [d] }
  | _ => none }
def hexrecExplainMatchesSpecRow : OpenClaim := { program := "ytjfcpnlacodjjaa", sum := "1728d8449fda31b847580d65588778a940be4771edc35ae5f57d5b79e3efdd7f", func := "scriptorium/scriptoriumlaw2.HexrecExplainMatchesSpec", spec := "hexrecExplainMatchesSpec", inPlace := ["internal/bytealg.IndexByteString", "internal/bytealg.IndexString"], unfollowed := true, recurses := true, named := ["internal/bytealg.MaxLen"], apart := false }
def HexrecExplainMatchesSpecSaid : Prop := hexrecExplainMatchesSpecRow.holds Try.pinned (OpenSpec.ofChange hexrecExplainMatchesSpecSpec)

/-- ITS FALSE NEIGHBOUR: 'it returns false'. Refute it at one input. -/
def hexrecExplainMatchesSpecWrong : ChangeSpec := { name := "hexrecExplainMatchesSpec", fn := fun _ => fun
  | [d] => { results := [.lit (.bool false)], args := [d] }
  | _ => none }
def HexrecExplainMatchesSpecWrongFalsely : Prop := hexrecExplainMatchesSpecRow.holds Try.pinned (OpenSpec.ofChange hexrecExplainMatchesSpecWrong)

/-- 'scriptoriumlaw2.SoundFromMatchesSpec': WHATEVER THE INPUT: true; the input reads as it did. -/
def soundFromMatchesSpecSpec : ChangeSpec := { name := "soundFromMatchesSpec", fn := fun _ => fun
  | [d1, d2] => { results := [.lit (.bool true)], args := [d1, d2] }
  | _ => none }
def soundFromMatchesSpecRow : OpenClaim := { program := "ytjfcpnlacodjjaa", sum := "1728d8449fda31b847580d65588778a940be4771edc35ae5f57d5b79e3efdd7f", func := "scriptorium/scriptoriumlaw2.SoundFromMatchesSpec", spec := "soundFromMatchesSpec", inPlace := ["internal/bytealg.IndexByteString", "internal/bytealg.IndexString"], unfollowed := true, recurses := true, named := ["internal/bytealg.MaxLen"], loops := true, apart := false }
def SoundFromMatchesSpecSaid : Prop := soundFromMatchesSpecRow.holds Try.pinned (OpenSpec.ofChange soundFromMatchesSpecSpec)

/-- ITS FALSE NEIGHBOUR: 'it returns false'. Refute it at one input. -/
def soundFromMatchesSpecWrong : ChangeSpec := { name := "soundFromMatchesSpec", fn := fun _ => fun
  | [d1, d2] => { results := [.lit (.bool false)], args := [d1, d2] }
  | _ => none }
def SoundFromMatchesSpecWrongFalsely : Prop := soundFromMatchesSpecRow.holds Try.pinned (OpenSpec.ofChange soundFromMatchesSpecWrong)

/-- 'scriptoriumlaw2.SoundRoundTrip': WHATEVER THE INPUT: true; the input reads as it did. -/
def soundRoundTripSpec : ChangeSpec := { name := "soundRoundTrip", fn := fun _ => fun
  | [d] => { results := [.lit (.bool true)], args := [d] }
  | _ => none }
def soundRoundTripRow : OpenClaim := { program := "ytjfcpnlacodjjaa", sum := "1728d8449fda31b847580d65588778a940be4771edc35ae5f57d5b79e3efdd7f", func := "scriptorium/scriptoriumlaw2.SoundRoundTrip", spec := "soundRoundTrip", inPlace := ["internal/bytealg.IndexByteString", "internal/bytealg.IndexString"], unfollowed := true, recurses := true, named := ["internal/bytealg.MaxLen"], apart := false }
def SoundRoundTripSaid : Prop := soundRoundTripRow.holds Try.pinned (OpenSpec.ofChange soundRoundTripSpec)

/-- ITS FALSE NEIGHBOUR: 'it returns false'. Refute it at one input. -/
def soundRoundTripWrong : ChangeSpec := { name := "soundRoundTrip", fn := fun _ => fun
  | [d] => { results := [.lit (.bool false)], args := [d] }
  | _ => none }
def SoundRoundTripWrongFalsely : Prop := soundRoundTripRow.holds Try.pinned (OpenSpec.ofChange soundRoundTripWrong)

/-- 'scriptoriumlaw2.SoundPlainWay': WHATEVER THE INPUT: true; the input reads as it did. -/
def soundPlainWaySpec : ChangeSpec := { name := "soundPlainWay", fn := fun _ => fun
  | [d] => { results := [.lit (.bool true)], args := [d] }
  | _ => none }
def soundPlainWayRow : OpenClaim := { program := "ytjfcpnlacodjjaa", sum := "1728d8449fda31b847580d65588778a940be4771edc35ae5f57d5b79e3efdd7f", func := "scriptorium/scriptoriumlaw2.SoundPlainWay", spec := "soundPlainWay", inPlace := ["internal/bytealg.IndexByteString", "internal/bytealg.IndexString"], unfollowed := true, recurses := true, named := ["internal/bytealg.MaxLen"], apart := false }
def SoundPlainWaySaid : Prop := soundPlainWayRow.holds Try.pinned (OpenSpec.ofChange soundPlainWaySpec)

/-- ITS FALSE NEIGHBOUR: 'it returns false'. Refute it at one input. -/
def soundPlainWayWrong : ChangeSpec := { name := "soundPlainWay", fn := fun _ => fun
  | [d] => { results := [.lit (.bool false)], args := [d] }
  | _ => none }
def SoundPlainWayWrongFalsely : Prop := soundPlainWayRow.holds Try.pinned (OpenSpec.ofChange soundPlainWayWrong)

/-- 'scriptoriumlaw2.SoundCodingsAgree': WHATEVER THE INPUT: true; the input reads as it did. -/
def soundCodingsAgreeSpec : ChangeSpec := { name := "soundCodingsAgree", fn := fun _ => fun
  | [d1, d2, d3, d4] => { results := [.lit (.bool true)], args := [d1, d2, d3, d4] }
  | _ => none }
def soundCodingsAgreeRow : OpenClaim := { program := "ytjfcpnlacodjjaa", sum := "1728d8449fda31b847580d65588778a940be4771edc35ae5f57d5b79e3efdd7f", func := "scriptorium/scriptoriumlaw2.SoundCodingsAgree", spec := "soundCodingsAgree", inPlace := ["internal/bytealg.IndexByteString", "internal/bytealg.IndexString"], unfollowed := true, recurses := true, named := ["internal/bytealg.MaxLen"], apart := false }
def SoundCodingsAgreeSaid : Prop := soundCodingsAgreeRow.holds Try.pinned (OpenSpec.ofChange soundCodingsAgreeSpec)

/-- ITS FALSE NEIGHBOUR: 'it returns false'. Refute it at one input. -/
def soundCodingsAgreeWrong : ChangeSpec := { name := "soundCodingsAgree", fn := fun _ => fun
  | [d1, d2, d3, d4] => { results := [.lit (.bool false)], args := [d1, d2, d3, d4] }
  | _ => none }
def SoundCodingsAgreeWrongFalsely : Prop := soundCodingsAgreeRow.holds Try.pinned (OpenSpec.ofChange soundCodingsAgreeWrong)

/-- 'scriptoriumlaw2.HexrecRoundTrip': WHATEVER THE INPUT: true; the input reads as it did. -/
def hexrecRoundTripSpec : ChangeSpec := { name := "hexrecRoundTrip", fn := fun _ => fun
  | [d] => { results := [.lit (.bool true)], args := [d] }
  | _ => none }
def hexrecRoundTripRow : OpenClaim := { program := "ytjfcpnlacodjjaa", sum := "1728d8449fda31b847580d65588778a940be4771edc35ae5f57d5b79e3efdd7f", func := "scriptorium/scriptoriumlaw2.HexrecRoundTrip", spec := "hexrecRoundTrip", inPlace := ["internal/bytealg.IndexByteString", "internal/bytealg.IndexString", "internal/bytealg.Compare"], unfollowed := true, recurses := true, named := ["internal/bytealg.MaxLen"], apart := false }
def HexrecRoundTripSaid : Prop := hexrecRoundTripRow.holds Try.pinned (OpenSpec.ofChange hexrecRoundTripSpec)

/-- ITS FALSE NEIGHBOUR: 'it returns false'. Refute it at one input. -/
def hexrecRoundTripWrong : ChangeSpec := { name := "hexrecRoundTrip", fn := fun _ => fun
  | [d] => { results := [.lit (.bool false)], args := [d] }
  | _ => none }
def HexrecRoundTripWrongFalsely : Prop := hexrecRoundTripRow.holds Try.pinned (OpenSpec.ofChange hexrecRoundTripWrong)

/-- 'scriptoriumlaw2.HexrecPlainWay': WHATEVER THE INPUT: true; the input reads as it did. -/
def hexrecPlainWaySpec : ChangeSpec := { name := "hexrecPlainWay", fn := fun _ => fun
  | [d] => { results := [.lit (.bool true)], args := [d] }
  | _ => none }
def hexrecPlainWayRow : OpenClaim := { program := "ytjfcpnlacodjjaa", sum := "1728d8449fda31b847580d65588778a940be4771edc35ae5f57d5b79e3efdd7f", func := "scriptorium/scriptoriumlaw2.HexrecPlainWay", spec := "hexrecPlainWay", inPlace := ["internal/bytealg.IndexByteString", "internal/bytealg.IndexString", "internal/bytealg.Compare"], unfollowed := true, recurses := true, named := ["internal/bytealg.MaxLen"], apart := false }
def HexrecPlainWaySaid : Prop := hexrecPlainWayRow.holds Try.pinned (OpenSpec.ofChange hexrecPlainWaySpec)

/-- ITS FALSE NEIGHBOUR: 'it returns false'. Refute it at one input. -/
def hexrecPlainWayWrong : ChangeSpec := { name := "hexrecPlainWay", fn := fun _ => fun
  | [d] => { results := [.lit (.bool false)], args := [d] }
  | _ => none }
def HexrecPlainWayWrongFalsely : Prop := hexrecPlainWayRow.holds Try.pinned (OpenSpec.ofChange hexrecPlainWayWrong)

/-- 'scriptoriumlaw2.HexrecLengthsDoNotMatter': WHATEVER THE INPUT: true; the input reads as it did. -/
def hexrecLengthsDoNotMatterSpec : ChangeSpec := { name := "hexrecLengthsDoNotMatter", fn := fun _ => fun
  | [d1, d2, d3] => { results := [.lit (.bool true)], args := [d1, d2, d3] }
  | _ => none }
def hexrecLengthsDoNotMatterRow : OpenClaim := { program := "ytjfcpnlacodjjaa", sum := "1728d8449fda31b847580d65588778a940be4771edc35ae5f57d5b79e3efdd7f", func := "scriptorium/scriptoriumlaw2.HexrecLengthsDoNotMatter", spec := "hexrecLengthsDoNotMatter", inPlace := ["internal/bytealg.IndexByteString", "internal/bytealg.IndexString", "internal/bytealg.Compare"], unfollowed := true, recurses := true, named := ["internal/bytealg.MaxLen"], apart := false }
def HexrecLengthsDoNotMatterSaid : Prop := hexrecLengthsDoNotMatterRow.holds Try.pinned (OpenSpec.ofChange hexrecLengthsDoNotMatterSpec)

/-- ITS FALSE NEIGHBOUR: 'it returns false'. Refute it at one input. -/
def hexrecLengthsDoNotMatterWrong : ChangeSpec := { name := "hexrecLengthsDoNotMatter", fn := fun _ => fun
  | [d1, d2, d3] => { results := [.lit (.bool false)], args := [d1, d2, d3] }
  | _ => none }
def HexrecLengthsDoNotMatterWrongFalsely : Prop := hexrecLengthsDoNotMatterRow.holds Try.pinned (OpenSpec.ofChange hexrecLengthsDoNotMatterWrong)

/- THE SECOND FORM. 'bulk': how many values and letters a reading holds, each counted each time it is reached (what is shared counts as often as it is met; a slice's spare places count too). A statement '..UptoSaid' is the law's where the arguments, and the package variables that the reading takes, are together of bulk at most 1048576: NARROWER than '..Said'. Prove '..Said' where nothing that the law and all that it calls make is longer than what came in: it says more and counts as full. Else prove '..UptoSaid'. A law counts once. -/
mutual
def uptoBulk {H : Type} : DataW H → Nat
  | .lit (.string bytes) => bytes.length + 1
  | .lit _ => 1
  | .nil => 1
  | .ptr d => uptoBulk d + 1
  | .slice elems spare => uptoBulkAll elems + uptoBulkAll spare + 1
  | .agg parts => uptoBulkAll parts + 1
  | .iface _ d => uptoBulk d + 1
  | .map entries => uptoBulkEntries entries + 1
  | .held _ => 1
def uptoBulkAll {H : Type} : List (DataW H) → Nat
  | [] => 0
  | d :: r => uptoBulk d + uptoBulkAll r
def uptoBulkEntries {H : Type} : List (Lit × DataW H) → Nat
  | [] => 0
  | x :: r => uptoBulkEntry x + uptoBulkEntries r
def uptoBulkEntry {H : Type} : Lit × DataW H → Nat
  | (.string bytes, d) => bytes.length + uptoBulk d + 1
  | (_, d) => uptoBulk d + 1
 end
def uptoSmall : (H : Type) → List (DataW H) → Bool := fun _ ds => decide (uptoBulkAll ds ≤ 1048576)
def OpenSpec.upto (s : _root_.Go.ChangeSpec) : _root_.Go.OpenSpec := { _root_.Go.OpenSpec.ofChange s with cond := some uptoSmall }

/-- 'scriptoriumlaw2.SoundToMatchesSpec', WHERE WHAT IT READS IS OF BULK AT MOST 1048576: true; the input reads as it did. -/
def soundToMatchesSpecUptoRow : OpenClaim := { program := "ytjfcpnlacodjjaa", sum := "1728d8449fda31b847580d65588778a940be4771edc35ae5f57d5b79e3efdd7f", func := "scriptorium/scriptoriumlaw2.SoundToMatchesSpec", spec := "soundToMatchesSpec", inPlace := ["internal/bytealg.IndexByteString", "internal/bytealg.IndexString"], unfollowed := true, recurses := true, named := ["internal/bytealg.MaxLen"], apart := false, narrowed := true }
def SoundToMatchesSpecUptoSaid : Prop := soundToMatchesSpecUptoRow.holds Try.pinned (OpenSpec.upto soundToMatchesSpecSpec)

/-- 'scriptoriumlaw2.SoundExplainMatchesSpec', WHERE WHAT IT READS IS OF BULK AT MOST 1048576: true; the input reads as it did. -/
def soundExplainMatchesSpecUptoRow : OpenClaim := { program := "ytjfcpnlacodjjaa", sum := "1728d8449fda31b847580d65588778a940be4771edc35ae5f57d5b79e3efdd7f", func := "scriptorium/scriptoriumlaw2.SoundExplainMatchesSpec", spec := "soundExplainMatchesSpec", inPlace := ["internal/bytealg.IndexByteString", "internal/bytealg.IndexString"], unfollowed := true, recurses := true, named := ["internal/bytealg.MaxLen"], apart := false, narrowed := true }
def SoundExplainMatchesSpecUptoSaid : Prop := soundExplainMatchesSpecUptoRow.holds Try.pinned (OpenSpec.upto soundExplainMatchesSpecSpec)

/-- 'scriptoriumlaw2.HexrecToMatchesSpec', WHERE WHAT IT READS IS OF BULK AT MOST 1048576: true; the input reads as it did. -/
def hexrecToMatchesSpecUptoRow : OpenClaim := { program := "ytjfcpnlacodjjaa", sum := "1728d8449fda31b847580d65588778a940be4771edc35ae5f57d5b79e3efdd7f", func := "scriptorium/scriptoriumlaw2.HexrecToMatchesSpec", spec := "hexrecToMatchesSpec", inPlace := ["internal/bytealg.IndexByteString", "internal/bytealg.IndexString"], unfollowed := true, recurses := true, named := ["internal/bytealg.MaxLen"], apart := false, narrowed := true }
def HexrecToMatchesSpecUptoSaid : Prop := hexrecToMatchesSpecUptoRow.holds Try.pinned (OpenSpec.upto hexrecToMatchesSpecSpec)

/-- 'scriptoriumlaw2.HexrecExplainMatchesSpec', WHERE WHAT IT READS IS OF BULK AT MOST 1048576: true; the input reads as it did. -/
def hexrecExplainMatchesSpecUptoRow : OpenClaim := { program := "ytjfcpnlacodjjaa", sum := "1728d8449fda31b847580d65588778a940be4771edc35ae5f57d5b79e3efdd7f", func := "scriptorium/scriptoriumlaw2.HexrecExplainMatchesSpec", spec := "hexrecExplainMatchesSpec", inPlace := ["internal/bytealg.IndexByteString", "internal/bytealg.IndexString"], unfollowed := true, recurses := true, named := ["internal/bytealg.MaxLen"], apart := false, narrowed := true }
def HexrecExplainMatchesSpecUptoSaid : Prop := hexrecExplainMatchesSpecUptoRow.holds Try.pinned (OpenSpec.upto hexrecExplainMatchesSpecSpec)

/-- 'scriptoriumlaw2.SoundFromMatchesSpec', WHERE WHAT IT READS IS OF BULK AT MOST 1048576: true; the input reads as it did. -/
def soundFromMatchesSpecUptoRow : OpenClaim := { program := "ytjfcpnlacodjjaa", sum := "1728d8449fda31b847580d65588778a940be4771edc35ae5f57d5b79e3efdd7f", func := "scriptorium/scriptoriumlaw2.SoundFromMatchesSpec", spec := "soundFromMatchesSpec", inPlace := ["internal/bytealg.IndexByteString", "internal/bytealg.IndexString"], unfollowed := true, recurses := true, named := ["internal/bytealg.MaxLen"], loops := true, apart := false, narrowed := true }
def SoundFromMatchesSpecUptoSaid : Prop := soundFromMatchesSpecUptoRow.holds Try.pinned (OpenSpec.upto soundFromMatchesSpecSpec)

/-- 'scriptoriumlaw2.SoundRoundTrip', WHERE WHAT IT READS IS OF BULK AT MOST 1048576: true; the input reads as it did. -/
def soundRoundTripUptoRow : OpenClaim := { program := "ytjfcpnlacodjjaa", sum := "1728d8449fda31b847580d65588778a940be4771edc35ae5f57d5b79e3efdd7f", func := "scriptorium/scriptoriumlaw2.SoundRoundTrip", spec := "soundRoundTrip", inPlace := ["internal/bytealg.IndexByteString", "internal/bytealg.IndexString"], unfollowed := true, recurses := true, named := ["internal/bytealg.MaxLen"], apart := false, narrowed := true }
def SoundRoundTripUptoSaid : Prop := soundRoundTripUptoRow.holds Try.pinned (OpenSpec.upto soundRoundTripSpec)

/-- 'scriptoriumlaw2.SoundPlainWay', WHERE WHAT IT READS IS OF BULK AT MOST 1048576: true; the input reads as it did. -/
def soundPlainWayUptoRow : OpenClaim := { program := "ytjfcpnlacodjjaa", sum := "1728d8449fda31b847580d65588778a940be4771edc35ae5f57d5b79e3efdd7f", func := "scriptorium/scriptoriumlaw2.SoundPlainWay", spec := "soundPlainWay", inPlace := ["internal/bytealg.IndexByteString", "internal/bytealg.IndexString"], unfollowed := true, recurses := true, named := ["internal/bytealg.MaxLen"], apart := false, narrowed := true }
def SoundPlainWayUptoSaid : Prop := soundPlainWayUptoRow.holds Try.pinned (OpenSpec.upto soundPlainWaySpec)

/-- 'scriptoriumlaw2.SoundCodingsAgree', WHERE WHAT IT READS IS OF BULK AT MOST 1048576: true; the input reads as it did. -/
def soundCodingsAgreeUptoRow : OpenClaim := { program := "ytjfcpnlacodjjaa", sum := "1728d8449fda31b847580d65588778a940be4771edc35ae5f57d5b79e3efdd7f", func := "scriptorium/scriptoriumlaw2.SoundCodingsAgree", spec := "soundCodingsAgree", inPlace := ["internal/bytealg.IndexByteString", "internal/bytealg.IndexString"], unfollowed := true, recurses := true, named := ["internal/bytealg.MaxLen"], apart := false, narrowed := true }
def SoundCodingsAgreeUptoSaid : Prop := soundCodingsAgreeUptoRow.holds Try.pinned (OpenSpec.upto soundCodingsAgreeSpec)

/-- 'scriptoriumlaw2.HexrecRoundTrip', WHERE WHAT IT READS IS OF BULK AT MOST 1048576: true; the input reads as it did. -/
def hexrecRoundTripUptoRow : OpenClaim := { program := "ytjfcpnlacodjjaa", sum := "1728d8449fda31b847580d65588778a940be4771edc35ae5f57d5b79e3efdd7f", func := "scriptorium/scriptoriumlaw2.HexrecRoundTrip", spec := "hexrecRoundTrip", inPlace := ["internal/bytealg.IndexByteString", "internal/bytealg.IndexString", "internal/bytealg.Compare"], unfollowed := true, recurses := true, named := ["internal/bytealg.MaxLen"], apart := false, narrowed := true }
def HexrecRoundTripUptoSaid : Prop := hexrecRoundTripUptoRow.holds Try.pinned (OpenSpec.upto hexrecRoundTripSpec)

/-- 'scriptoriumlaw2.HexrecPlainWay', WHERE WHAT IT READS IS OF BULK AT MOST 1048576: true; the input reads as it did. -/
def hexrecPlainWayUptoRow : OpenClaim := { program := "ytjfcpnlacodjjaa", sum := "1728d8449fda31b847580d65588778a940be4771edc35ae5f57d5b79e3efdd7f", func := "scriptorium/scriptoriumlaw2.HexrecPlainWay", spec := "hexrecPlainWay", inPlace := ["internal/bytealg.IndexByteString", "internal/bytealg.IndexString", "internal/bytealg.Compare"], unfollowed := true, recurses := true, named := ["internal/bytealg.MaxLen"], apart := false, narrowed := true }
def HexrecPlainWayUptoSaid : Prop := hexrecPlainWayUptoRow.holds Try.pinned (OpenSpec.upto hexrecPlainWaySpec)

/-- 'scriptoriumlaw2.HexrecLengthsDoNotMatter', WHERE WHAT IT READS IS OF BULK AT MOST 1048576: true; the input reads as it did. -/
def hexrecLengthsDoNotMatterUptoRow : OpenClaim := { program := "ytjfcpnlacodjjaa", sum := "1728d8449fda31b847580d65588778a940be4771edc35ae5f57d5b79e3efdd7f", func := "scriptorium/scriptoriumlaw2.HexrecLengthsDoNotMatter", spec := "hexrecLengthsDoNotMatter", inPlace := ["internal/bytealg.IndexByteString", "internal/bytealg.IndexString", "internal/bytealg.Compare"], unfollowed := true, recurses := true, named := ["internal/bytealg.MaxLen"], apart := false, narrowed := true }
def HexrecLengthsDoNotMatterUptoSaid : Prop := hexrecLengthsDoNotMatterUptoRow.holds Try.pinned (OpenSpec.upto hexrecLengthsDoNotMatterSpec)

end Rows
end Go.Proofs.Ytjfcpnlacodjjaa
