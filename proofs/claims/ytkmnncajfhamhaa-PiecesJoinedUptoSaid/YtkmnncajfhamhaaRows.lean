/-
  No cell of these rows narrows 'for every input' (looked for: loops, veiled, ifaces, maps, wideKeys, modest, calm, conditions, laid).
  DERIVED. THE GIVEN ROWS OF THIS SEAT. 5 by the template 'for every input the law returns true; each argument reads behind the call as it read before'; 0 by the template 'total and deterministic' (their statements: YtkmnncajfhamhaaTotals.lean).
  GIVEN WITH THE SEED: the statements are not yours to turn. If you find one false, say at which input.
  Laid BY PROGRAM, IN A SANDBOX (cutbox-rows.mjs): the forced cells as the released guide's own fill.sh prints them over the translation c5cadde03a39c033… (all of the seat's roots in one cut). By AI agents, Wed Nov 11 2026. No macro, syntax, notation, axiom, sorry.
-/
import Derived.Test.YtkmnncajfhamhaaChecked
import GoSem.Claim
import GoSem.ClaimJoined
import GoSem.ClaimMapViews
import Derived.JoinedTies
import Derived.KernelRfl
namespace Go.Proofs.Ytkmnncajfhamhaa
/- THE CELL 'sum', in the pinned program and in every row, IS THE sha256 OF THE DUMP (.gsa) THAT YtkmnncajfhamhaaProg.lean LOADS. Nothing in Lean hashes anything: it is a label: what it is worth is what the hold of that sum in a sandbox is worth. -/
noncomputable def Try.pinned : Pinned := { name := "ytkmnncajfhamhaa", sum := "c5cadde03a39c03343b505eaf790ac40f067dee85e0472e10ac335b202de1e13", checked := Try.checked }
namespace Rows
def none {H : Type} : Left H := { results := [], args := [] }

/-- 'scriptoriumlaw2.PiecesCutMatchesSpec': WHATEVER THE INPUT: true; the input reads as it did. -/
def piecesCutMatchesSpecSpec : ChangeSpec := { name := "piecesCutMatchesSpec", fn := fun _ => fun
  | [d] => { results := [.lit (.bool true)], args := [d] }
  | _ => none }
def piecesCutMatchesSpecRow : OpenClaim := { program := "ytkmnncajfhamhaa", sum := "c5cadde03a39c03343b505eaf790ac40f067dee85e0472e10ac335b202de1e13", func := "scriptorium/scriptoriumlaw2.PiecesCutMatchesSpec", spec := "piecesCutMatchesSpec", unfollowed := true, recurses := true, apart := false }
def PiecesCutMatchesSpecSaid : Prop := piecesCutMatchesSpecRow.holds Try.pinned (OpenSpec.ofChange piecesCutMatchesSpecSpec)

/-- ITS FALSE NEIGHBOUR: 'it returns false'. Refute it at one input. -/
def piecesCutMatchesSpecWrong : ChangeSpec := { name := "piecesCutMatchesSpec", fn := fun _ => fun
  | [d] => { results := [.lit (.bool false)], args := [d] }
  | _ => none }
def PiecesCutMatchesSpecWrongFalsely : Prop := piecesCutMatchesSpecRow.holds Try.pinned (OpenSpec.ofChange piecesCutMatchesSpecWrong)

/-- 'scriptoriumlaw2.PiecesJoined': WHATEVER THE INPUT: true; the input reads as it did. -/
def piecesJoinedSpec : ChangeSpec := { name := "piecesJoined", fn := fun _ => fun
  | [d] => { results := [.lit (.bool true)], args := [d] }
  | _ => none }
def piecesJoinedRow : OpenClaim := { program := "ytkmnncajfhamhaa", sum := "c5cadde03a39c03343b505eaf790ac40f067dee85e0472e10ac335b202de1e13", func := "scriptorium/scriptoriumlaw2.PiecesJoined", spec := "piecesJoined", unfollowed := true, recurses := true, apart := false }
def PiecesJoinedSaid : Prop := piecesJoinedRow.holds Try.pinned (OpenSpec.ofChange piecesJoinedSpec)

/-- ITS FALSE NEIGHBOUR: 'it returns false'. Refute it at one input. -/
def piecesJoinedWrong : ChangeSpec := { name := "piecesJoined", fn := fun _ => fun
  | [d] => { results := [.lit (.bool false)], args := [d] }
  | _ => none }
def PiecesJoinedWrongFalsely : Prop := piecesJoinedRow.holds Try.pinned (OpenSpec.ofChange piecesJoinedWrong)

/-- 'scriptoriumlaw2.PiecesFrontKept': WHATEVER THE INPUT: true; the input reads as it did. -/
def piecesFrontKeptSpec : ChangeSpec := { name := "piecesFrontKept", fn := fun _ => fun
  | [d1, d2, d3] => { results := [.lit (.bool true)], args := [d1, d2, d3] }
  | _ => none }
def piecesFrontKeptRow : OpenClaim := { program := "ytkmnncajfhamhaa", sum := "c5cadde03a39c03343b505eaf790ac40f067dee85e0472e10ac335b202de1e13", func := "scriptorium/scriptoriumlaw2.PiecesFrontKept", spec := "piecesFrontKept", unfollowed := true, recurses := true, apart := false }
def PiecesFrontKeptSaid : Prop := piecesFrontKeptRow.holds Try.pinned (OpenSpec.ofChange piecesFrontKeptSpec)

/-- ITS FALSE NEIGHBOUR: 'it returns false'. Refute it at one input. -/
def piecesFrontKeptWrong : ChangeSpec := { name := "piecesFrontKept", fn := fun _ => fun
  | [d1, d2, d3] => { results := [.lit (.bool false)], args := [d1, d2, d3] }
  | _ => none }
def PiecesFrontKeptWrongFalsely : Prop := piecesFrontKeptRow.holds Try.pinned (OpenSpec.ofChange piecesFrontKeptWrong)

/-- 'scriptoriumlaw2.PiecesResume': WHATEVER THE INPUT: true; the input reads as it did. -/
def piecesResumeSpec : ChangeSpec := { name := "piecesResume", fn := fun _ => fun
  | [d1, d2, d3] => { results := [.lit (.bool true)], args := [d1, d2, d3] }
  | _ => none }
def piecesResumeRow : OpenClaim := { program := "ytkmnncajfhamhaa", sum := "c5cadde03a39c03343b505eaf790ac40f067dee85e0472e10ac335b202de1e13", func := "scriptorium/scriptoriumlaw2.PiecesResume", spec := "piecesResume", unfollowed := true, recurses := true, apart := false }
def PiecesResumeSaid : Prop := piecesResumeRow.holds Try.pinned (OpenSpec.ofChange piecesResumeSpec)

/-- ITS FALSE NEIGHBOUR: 'it returns false'. Refute it at one input. -/
def piecesResumeWrong : ChangeSpec := { name := "piecesResume", fn := fun _ => fun
  | [d1, d2, d3] => { results := [.lit (.bool false)], args := [d1, d2, d3] }
  | _ => none }
def PiecesResumeWrongFalsely : Prop := piecesResumeRow.holds Try.pinned (OpenSpec.ofChange piecesResumeWrong)

/-- 'scriptoriumlaw2.PiecesCommonMatchesSpec': WHATEVER THE INPUT: true; the input reads as it did. -/
def piecesCommonMatchesSpecSpec : ChangeSpec := { name := "piecesCommonMatchesSpec", fn := fun _ => fun
  | [d1, d2] => { results := [.lit (.bool true)], args := [d1, d2] }
  | _ => none }
def piecesCommonMatchesSpecRow : OpenClaim := { program := "ytkmnncajfhamhaa", sum := "c5cadde03a39c03343b505eaf790ac40f067dee85e0472e10ac335b202de1e13", func := "scriptorium/scriptoriumlaw2.PiecesCommonMatchesSpec", spec := "piecesCommonMatchesSpec", unfollowed := true, recurses := true, apart := false }
def PiecesCommonMatchesSpecSaid : Prop := piecesCommonMatchesSpecRow.holds Try.pinned (OpenSpec.ofChange piecesCommonMatchesSpecSpec)

/-- ITS FALSE NEIGHBOUR: 'it returns false'. Refute it at one input. -/
def piecesCommonMatchesSpecWrong : ChangeSpec := { name := "piecesCommonMatchesSpec", fn := fun _ => fun
  | [d1, d2] => { results := [.lit (.bool false)], args := [d1, d2] }
  | _ => none }
def PiecesCommonMatchesSpecWrongFalsely : Prop := piecesCommonMatchesSpecRow.holds Try.pinned (OpenSpec.ofChange piecesCommonMatchesSpecWrong)

/- THE SECOND FORM. 'bulk': how many values and letters a reading holds, each counted each time it is reached (what is shared counts as often as it is met; a slice's spare places count too). A statement '..UptoSaid' is the law's where the arguments, and the package variables that the reading takes, are together of bulk at most 1048576: NARROWER than '..Said'. Prove '..Said' where nothing that the law and all that it calls make is longer than what came in: it says more and counts as full. Else prove '..UptoSaid'. A law counts once. -/
mutual
def uptoBulk {H : Type} : DataW H → Nat
  | .lit (.string bytes) => bytes.length + 1
  | .lit _ => 1
  | .nil => 1
  | .ptr d => uptoBulk d + 1
  | .slice elems spare => uptoBulkAll elems + uptoBulkAll spare + 1
  | .agg parts => uptoBulkAll parts + 1
  | .iface _ d => uptoBulk d + 1
  | .map entries => uptoBulkEntries entries + 1
  | .held _ => 1
def uptoBulkAll {H : Type} : List (DataW H) → Nat
  | [] => 0
  | d :: r => uptoBulk d + uptoBulkAll r
def uptoBulkEntries {H : Type} : List (Lit × DataW H) → Nat
  | [] => 0
  | x :: r => uptoBulkEntry x + uptoBulkEntries r
def uptoBulkEntry {H : Type} : Lit × DataW H → Nat
  | (.string bytes, d) => bytes.length + uptoBulk d + 1
  | (_, d) => uptoBulk d + 1
 end
def uptoSmall : (H : Type) → List (DataW H) → Bool := fun _ ds => decide (uptoBulkAll ds ≤ 1048576)
def OpenSpec.upto (s : _root_.Go.ChangeSpec) : _root_.Go.OpenSpec := { _root_.Go.OpenSpec.ofChange s with cond := some uptoSmall }

/-- 'scriptoriumlaw2.PiecesCutMatchesSpec', WHERE WHAT IT READS IS OF BULK AT MOST 1048576: true; the input reads as it did. -/
def piecesCutMatchesSpecUptoRow : OpenClaim := { program := "ytkmnncajfhamhaa", sum := "c5cadde03a39c03343b505eaf790ac40f067dee85e0472e10ac335b202de1e13", func := "scriptorium/scriptoriumlaw2.PiecesCutMatchesSpec", spec := "piecesCutMatchesSpec", unfollowed := true, recurses := true, apart := false, narrowed := true }
def PiecesCutMatchesSpecUptoSaid : Prop := piecesCutMatchesSpecUptoRow.holds Try.pinned (OpenSpec.upto piecesCutMatchesSpecSpec)

/-- 'scriptoriumlaw2.PiecesJoined', WHERE WHAT IT READS IS OF BULK AT MOST 1048576: true; the input reads as it did. -/
def piecesJoinedUptoRow : OpenClaim := { program := "ytkmnncajfhamhaa", sum := "c5cadde03a39c03343b505eaf790ac40f067dee85e0472e10ac335b202de1e13", func := "scriptorium/scriptoriumlaw2.PiecesJoined", spec := "piecesJoined", unfollowed := true, recurses := true, apart := false, narrowed := true }
def PiecesJoinedUptoSaid : Prop := piecesJoinedUptoRow.holds Try.pinned (OpenSpec.upto piecesJoinedSpec)

/-- 'scriptoriumlaw2.PiecesFrontKept', WHERE WHAT IT READS IS OF BULK AT MOST 1048576: true; the input reads as it did. -/
def piecesFrontKeptUptoRow : OpenClaim := { program := "ytkmnncajfhamhaa", sum := "c5cadde03a39c03343b505eaf790ac40f067dee85e0472e10ac335b202de1e13", func := "scriptorium/scriptoriumlaw2.PiecesFrontKept", spec := "piecesFrontKept", unfollowed := true, recurses := true, apart := false, narrowed := true }
def PiecesFrontKeptUptoSaid : Prop := piecesFrontKeptUptoRow.holds Try.pinned (OpenSpec.upto piecesFrontKeptSpec)

/-- 'scriptoriumlaw2.PiecesResume', WHERE WHAT IT READS IS OF BULK AT MOST 1048576: true; the input reads as it did. -/
def piecesResumeUptoRow : OpenClaim := { program := "ytkmnncajfhamhaa", sum := "c5cadde03a39c03343b505eaf790ac40f067dee85e0472e10ac335b202de1e13", func := "scriptorium/scriptoriumlaw2.PiecesResume", spec := "piecesResume", unfollowed := true, recurses := true, apart := false, narrowed := true }
def PiecesResumeUptoSaid : Prop := piecesResumeUptoRow.holds Try.pinned (OpenSpec.upto piecesResumeSpec)

/-- 'scriptoriumlaw2.PiecesCommonMatchesSpec', WHERE WHAT IT READS IS OF BULK AT MOST 1048576: true; the input reads as it did. -/
def piecesCommonMatchesSpecUptoRow : OpenClaim := { program := "ytkmnncajfhamhaa", sum := "c5cadde03a39c03343b505eaf790ac40f067dee85e0472e10ac335b202de1e13", func := "scriptorium/scriptoriumlaw2.PiecesCommonMatchesSpec", spec := "piecesCommonMatchesSpec", unfollowed := true, recurses := true, apart := false, narrowed := true }
def PiecesCommonMatchesSpecUptoSaid : Prop := piecesCommonMatchesSpecUptoRow.holds Try.pinned (OpenSpec.upto piecesCommonMatchesSpecSpec)

end Rows
end Go.Proofs.Ytkmnncajfhamhaa
