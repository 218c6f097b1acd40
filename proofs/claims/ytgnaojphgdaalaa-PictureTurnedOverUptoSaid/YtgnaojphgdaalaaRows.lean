/-
  No cell of these rows narrows 'for every input' (looked for: loops, veiled, ifaces, maps, wideKeys, modest, calm, conditions, laid).
  DERIVED. THE GIVEN ROWS OF THIS SEAT. 5 by the template 'for every input the law returns true; each argument reads behind the call as it read before'; 0 by the template 'total and deterministic' (their statements: YtgnaojphgdaalaaTotals.lean).
  GIVEN WITH THE SEED: the statements are not yours to turn. If you find one false, say at which input.
  Laid BY PROGRAM, IN A SANDBOX (cutbox-rows.mjs): the forced cells as the released guide's own fill.sh prints them over the translation cd1642e165a0876f… (all of the seat's roots in one cut). By AI agents, Wed Nov 11 2026. No macro, syntax, notation, axiom, sorry.
-/
import Derived.Test.YtgnaojphgdaalaaChecked
import GoSem.Claim
import GoSem.ClaimJoined
import GoSem.ClaimMapViews
import Derived.JoinedTies
import Derived.KernelRfl
namespace Go.Proofs.Ytgnaojphgdaalaa
/- THE CELL 'sum', in the pinned program and in every row, IS THE sha256 OF THE DUMP (.gsa) THAT YtgnaojphgdaalaaProg.lean LOADS. Nothing in Lean hashes anything: it is a label: what it is worth is what the hold of that sum in a sandbox is worth. -/
noncomputable def Try.pinned : Pinned := { name := "ytgnaojphgdaalaa", sum := "cd1642e165a0876f2a30ae344ba99249f56f3a517f217bcbe84eb790b0a6b90f", checked := Try.checked }
namespace Rows
def none {H : Type} : Left H := { results := [], args := [] }

/-- 'scriptoriumlaw2.PictureToMatchesSpec': WHATEVER THE INPUT: true; the input reads as it did. -/
def pictureToMatchesSpecSpec : ChangeSpec := { name := "pictureToMatchesSpec", fn := fun _ => fun
  | [d] => { results := [.lit (.bool true)], args := [d] }
  | _ => none }
def pictureToMatchesSpecRow : OpenClaim := { program := "ytgnaojphgdaalaa", sum := "cd1642e165a0876f2a30ae344ba99249f56f3a517f217bcbe84eb790b0a6b90f", func := "scriptorium/scriptoriumlaw2.PictureToMatchesSpec", spec := "pictureToMatchesSpec", inPlace := ["internal/bytealg.IndexByteString", "internal/bytealg.IndexString"], unfollowed := true, recurses := true, named := ["internal/bytealg.MaxLen"], apart := false }
def PictureToMatchesSpecSaid : Prop := pictureToMatchesSpecRow.holds Try.pinned (OpenSpec.ofChange pictureToMatchesSpecSpec)

/-- ITS FALSE NEIGHBOUR: 'it returns false'. Refute it at one input. -/
def pictureToMatchesSpecWrong : ChangeSpec := { name := "pictureToMatchesSpec", fn := fun _ => fun
  | [d] => { results := [.lit (.bool false)], args := [d] }
  | _ => none }
def PictureToMatchesSpecWrongFalsely : Prop := pictureToMatchesSpecRow.holds Try.pinned (OpenSpec.ofChange pictureToMatchesSpecWrong)

/-- 'scriptoriumlaw2.PictureExplainMatchesSpec': WHATEVER THE INPUT: true; the input reads as it did. -/
def pictureExplainMatchesSpecSpec : ChangeSpec := { name := "pictureExplainMatchesSpec", fn := fun _ => fun
  | [d] => { results := [.lit (.bool true)], args := [d] }
  | _ => none }
def pictureExplainMatchesSpecRow : OpenClaim := { program := "ytgnaojphgdaalaa", sum := "cd1642e165a0876f2a30ae344ba99249f56f3a517f217bcbe84eb790b0a6b90f", func := "scriptorium/scriptoriumlaw2.PictureExplainMatchesSpec", spec := "pictureExplainMatchesSpec", inPlace := ["internal/bytealg.IndexByteString", "internal/bytealg.IndexString"], unfollowed := true, recurses := true, named := ["internal/bytealg.MaxLen"], apart := false }
def PictureExplainMatchesSpecSaid : Prop := pictureExplainMatchesSpecRow.holds Try.pinned (OpenSpec.ofChange pictureExplainMatchesSpecSpec)

/-- ITS FALSE NEIGHBOUR: 'it returns false'. Refute it at one input. -/
def pictureExplainMatchesSpecWrong : ChangeSpec := { name := "pictureExplainMatchesSpec", fn := fun _ => fun
  | [d] => { results := [.lit (.bool false)], args := [d] }
  | _ => none }
def PictureExplainMatchesSpecWrongFalsely : Prop := pictureExplainMatchesSpecRow.holds Try.pinned (OpenSpec.ofChange pictureExplainMatchesSpecWrong)

/-- 'scriptoriumlaw2.PictureRoundTrip': WHATEVER THE INPUT: true; the input reads as it did. -/
def pictureRoundTripSpec : ChangeSpec := { name := "pictureRoundTrip", fn := fun _ => fun
  | [d] => { results := [.lit (.bool true)], args := [d] }
  | _ => none }
def pictureRoundTripRow : OpenClaim := { program := "ytgnaojphgdaalaa", sum := "cd1642e165a0876f2a30ae344ba99249f56f3a517f217bcbe84eb790b0a6b90f", func := "scriptorium/scriptoriumlaw2.PictureRoundTrip", spec := "pictureRoundTrip", inPlace := ["internal/bytealg.IndexByteString", "internal/bytealg.IndexString"], unfollowed := true, recurses := true, named := ["internal/bytealg.MaxLen"], apart := false }
def PictureRoundTripSaid : Prop := pictureRoundTripRow.holds Try.pinned (OpenSpec.ofChange pictureRoundTripSpec)

/-- ITS FALSE NEIGHBOUR: 'it returns false'. Refute it at one input. -/
def pictureRoundTripWrong : ChangeSpec := { name := "pictureRoundTrip", fn := fun _ => fun
  | [d] => { results := [.lit (.bool false)], args := [d] }
  | _ => none }
def PictureRoundTripWrongFalsely : Prop := pictureRoundTripRow.holds Try.pinned (OpenSpec.ofChange pictureRoundTripWrong)

/-- 'scriptoriumlaw2.PicturePlainWay': WHATEVER THE INPUT: true; the input reads as it did. -/
def picturePlainWaySpec : ChangeSpec := { name := "picturePlainWay", fn := fun _ => fun
  | [d] => { results := [.lit (.bool true)], args := [d] }
  | _ => none }
def picturePlainWayRow : OpenClaim := { program := "ytgnaojphgdaalaa", sum := "cd1642e165a0876f2a30ae344ba99249f56f3a517f217bcbe84eb790b0a6b90f", func := "scriptorium/scriptoriumlaw2.PicturePlainWay", spec := "picturePlainWay", inPlace := ["internal/bytealg.IndexByteString", "internal/bytealg.IndexString"], unfollowed := true, recurses := true, named := ["internal/bytealg.MaxLen"], apart := false }
def PicturePlainWaySaid : Prop := picturePlainWayRow.holds Try.pinned (OpenSpec.ofChange picturePlainWaySpec)

/-- ITS FALSE NEIGHBOUR: 'it returns false'. Refute it at one input. -/
def picturePlainWayWrong : ChangeSpec := { name := "picturePlainWay", fn := fun _ => fun
  | [d] => { results := [.lit (.bool false)], args := [d] }
  | _ => none }
def PicturePlainWayWrongFalsely : Prop := picturePlainWayRow.holds Try.pinned (OpenSpec.ofChange picturePlainWayWrong)

/-- 'scriptoriumlaw2.PictureTurnedOver': WHATEVER THE INPUT: true; the input reads as it did. -/
def pictureTurnedOverSpec : ChangeSpec := { name := "pictureTurnedOver", fn := fun _ => fun
  | [d] => { results := [.lit (.bool true)], args := [d] }
  | _ => none }
def pictureTurnedOverRow : OpenClaim := { program := "ytgnaojphgdaalaa", sum := "cd1642e165a0876f2a30ae344ba99249f56f3a517f217bcbe84eb790b0a6b90f", func := "scriptorium/scriptoriumlaw2.PictureTurnedOver", spec := "pictureTurnedOver", inPlace := ["internal/bytealg.IndexByteString", "internal/bytealg.IndexString"], unfollowed := true, recurses := true, named := ["internal/bytealg.MaxLen"], apart := false }
def PictureTurnedOverSaid : Prop := pictureTurnedOverRow.holds Try.pinned (OpenSpec.ofChange pictureTurnedOverSpec)

/-- ITS FALSE NEIGHBOUR: 'it returns false'. Refute it at one input. -/
def pictureTurnedOverWrong : ChangeSpec := { name := "pictureTurnedOver", fn := fun _ => fun
  | [d] => { results := [.lit (.bool false)], args := [d] }
  | _ => none }
def PictureTurnedOverWrongFalsely : Prop := pictureTurnedOverRow.holds Try.pinned (OpenSpec.ofChange pictureTurnedOverWrong)

/- THE SECOND FORM. 'bulk': how many values and letters a reading holds, each counted each time it is reached (what is shared counts as often as it is met; a slice's spare places count too). A statement '..UptoSaid' is the law's where the arguments, and the package variables that the reading takes, are together of bulk at most 1048576: NARROWER than '..Said'. Prove '..Said' where nothing that the law and all that it calls make is longer than what came in: it says more and counts as full. Else prove '..UptoSaid'. A law counts once. -/
mutual
def uptoBulk {H : Type} : DataW H → Nat
  | .lit (.string bytes) => bytes.length + 1
  | .lit _ => 1
  | .nil => 1
  | .ptr d => uptoBulk d + 1
  | .slice elems spare => uptoBulkAll elems + uptoBulkAll spare + 1
  | .agg parts => uptoBulkAll parts + 1
  | .iface _ d => uptoBulk d + 1
  | .map entries => uptoBulkEntries entries + 1
  | .held _ => 1
def uptoBulkAll {H : Type} : List (DataW H) → Nat
  | [] => 0
  | d :: r => uptoBulk d + uptoBulkAll r
def uptoBulkEntries {H : Type} : List (Lit × DataW H) → Nat
  | [] => 0
  | x :: r => uptoBulkEntry x + uptoBulkEntries r
def uptoBulkEntry {H : Type} : Lit × DataW H → Nat
  | (.string bytes, d) => bytes.length + uptoBulk d + 1
  | (_, d) => uptoBulk d + 1
 end
def uptoSmall : (H : Type) → List (DataW H) → Bool := fun _ ds => decide (uptoBulkAll ds ≤ 1048576)
def OpenSpec.upto (s : _root_.Go.ChangeSpec) : _root_.Go.OpenSpec := { _root_.Go.OpenSpec.ofChange s with cond := some uptoSmall }

/-- 'scriptoriumlaw2.PictureToMatchesSpec', WHERE WHAT IT READS IS OF BULK AT MOST 1048576: true; the input reads as it did. -/
def pictureToMatchesSpecUptoRow : OpenClaim := { program := "ytgnaojphgdaalaa", sum := "cd1642e165a0876f2a30ae344ba99249f56f3a517f217bcbe84eb790b0a6b90f", func := "scriptorium/scriptoriumlaw2.PictureToMatchesSpec", spec := "pictureToMatchesSpec", inPlace := ["internal/bytealg.IndexByteString", "internal/bytealg.IndexString"], unfollowed := true, recurses := true, named := ["internal/bytealg.MaxLen"], apart := false, narrowed := true }
def PictureToMatchesSpecUptoSaid : Prop := pictureToMatchesSpecUptoRow.holds Try.pinned (OpenSpec.upto pictureToMatchesSpecSpec)

/-- 'scriptoriumlaw2.PictureExplainMatchesSpec', WHERE WHAT IT READS IS OF BULK AT MOST 1048576: true; the input reads as it did. -/
def pictureExplainMatchesSpecUptoRow : OpenClaim := { program := "ytgnaojphgdaalaa", sum := "cd1642e165a0876f2a30ae344ba99249f56f3a517f217bcbe84eb790b0a6b90f", func := "scriptorium/scriptoriumlaw2.PictureExplainMatchesSpec", spec := "pictureExplainMatchesSpec", inPlace := ["internal/bytealg.IndexByteString", "internal/bytealg.IndexString"], unfollowed := true, recurses := true, named := ["internal/bytealg.MaxLen"], apart := false, narrowed := true }
def PictureExplainMatchesSpecUptoSaid : Prop := pictureExplainMatchesSpecUptoRow.holds Try.pinned (OpenSpec.upto pictureExplainMatchesSpecSpec)

/-- 'scriptoriumlaw2.PictureRoundTrip', WHERE WHAT IT READS IS OF BULK AT MOST 1048576: true; the input reads as it did. -/
def pictureRoundTripUptoRow : OpenClaim := { program := "ytgnaojphgdaalaa", sum := "cd1642e165a0876f2a30ae344ba99249f56f3a517f217bcbe84eb790b0a6b90f", func := "scriptorium/scriptoriumlaw2.PictureRoundTrip", spec := "pictureRoundTrip", inPlace := ["internal/bytealg.IndexByteString", "internal/bytealg.IndexString"], unfollowed := true, recurses := true, named := ["internal/bytealg.MaxLen"], apart := false, narrowed := true }
def PictureRoundTripUptoSaid : Prop := pictureRoundTripUptoRow.holds Try.pinned (OpenSpec.upto pictureRoundTripSpec)

/-- 'scriptoriumlaw2.PicturePlainWay', WHERE WHAT IT READS IS OF BULK AT MOST 1048576: true; the input reads as it did. -/
def picturePlainWayUptoRow : OpenClaim := { program := "ytgnaojphgdaalaa", sum := "cd1642e165a0876f2a30ae344ba99249f56f3a517f217bcbe84eb790b0a6b90f", func := "scriptorium/scriptoriumlaw2.PicturePlainWay", spec := "picturePlainWay", inPlace := ["internal/bytealg.IndexByteString", "internal/bytealg.IndexString"], unfollowed := true, recurses := true, named := ["internal/bytealg.MaxLen"], apart := false, narrowed := true }
def PicturePlainWayUptoSaid : Prop := picturePlainWayUptoRow.holds Try.pinned (OpenSpec.upto picturePlainWaySpec)

/-- 'scriptoriumlaw2.PictureTurnedOver', WHERE WHAT IT READS IS OF BULK AT MOST 1048576: true; the input reads as it did. -/
def pictureTurnedOverUptoRow : OpenClaim := { program := "ytgnaojphgdaalaa", sum := "cd1642e165a0876f2a30ae344ba99249f56f3a517f217bcbe84eb790b0a6b90f", func := "scriptorium/scriptoriumlaw2.PictureTurnedOver", spec := "pictureTurnedOver", inPlace := ["internal/bytealg.IndexByteString", "internal/bytealg.IndexString"], unfollowed := true, recurses := true, named := ["internal/bytealg.MaxLen"], apart := false, narrowed := true }
def PictureTurnedOverUptoSaid : Prop := pictureTurnedOverUptoRow.holds Try.pinned (OpenSpec.upto pictureTurnedOverSpec)

end Rows
end Go.Proofs.Ytgnaojphgdaalaa
