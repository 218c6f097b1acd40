/-
  No cell of these rows narrows 'for every input' (looked for: loops, veiled, ifaces, maps, wideKeys, modest, calm, conditions, laid).
  DERIVED. THE GIVEN ROWS OF THIS SEAT. 10 by the template 'for every input the law returns true; each argument reads behind the call as it read before'; 0 by the template 'total and deterministic' (their statements: YtlhgmigoncmcaaaTotals.lean).
  GIVEN WITH THE SEED: the statements are not yours to turn. If you find one false, say at which input.
  Laid BY PROGRAM, IN A SANDBOX (cutbox-rows.mjs): the forced cells as the released guide's own fill.sh prints them over the translation 6d09c48fd2498b94… (all of the seat's roots in one cut). By AI agents, Wed Nov 11 2026. No macro, syntax, notation, axiom, sorry.
-/
import Derived.Test.YtlhgmigoncmcaaaChecked
import GoSem.Claim
import GoSem.ClaimJoined
import GoSem.ClaimMapViews
import Derived.JoinedTies
import Derived.KernelRfl
namespace Go.Proofs.Ytlhgmigoncmcaaa
/- THE CELL 'sum', in the pinned program and in every row, IS THE sha256 OF THE DUMP (.gsa) THAT YtlhgmigoncmcaaaProg.lean LOADS. Nothing in Lean hashes anything: it is a label: what it is worth is what the hold of that sum in a sandbox is worth. -/
noncomputable def Try.pinned : Pinned := { name := "ytlhgmigoncmcaaa", sum := "6d09c48fd2498b944a628028ae84f76b0da6a8a6a3628ee2bb058ef2afedbf19", checked := Try.checked }
namespace Rows
def none {H : Type} : Left H := { results := [], args := [] }

/-- 'scriptoriumlaw2.CatalogueValidateMatchesSpec': WHATEVER THE INPUT: true; the input reads as it did. -/
def catalogueValidateMatchesSpecSpec : ChangeSpec := { name := "catalogueValidateMatchesSpec", fn := fun _ => fun
  | [d] => { results := [.lit (.bool true)], args := [d] }
  | _ => none }
def catalogueValidateMatchesSpecRow : OpenClaim := { program := "ytlhgmigoncmcaaa", sum := "6d09c48fd2498b944a628028ae84f76b0da6a8a6a3628ee2bb058ef2afedbf19", func := "scriptorium/scriptoriumlaw2.CatalogueValidateMatchesSpec", spec := "catalogueValidateMatchesSpec", inPlace := ["internal/bytealg.IndexByteString", "internal/bytealg.IndexString"], unfollowed := true, recurses := true, named := ["internal/bytealg.MaxLen"], plainKeys := false, apart := false }
def CatalogueValidateMatchesSpecSaid : Prop := catalogueValidateMatchesSpecRow.holds Try.pinned (OpenSpec.ofChange catalogueValidateMatchesSpecSpec)

/-- ITS FALSE NEIGHBOUR: 'it returns false'. Refute it at one input. -/
def catalogueValidateMatchesSpecWrong : ChangeSpec := { name := "catalogueValidateMatchesSpec", fn := fun _ => fun
  | [d] => { results := [.lit (.bool false)], args := [d] }
  | _ => none }
def CatalogueValidateMatchesSpecWrongFalsely : Prop := catalogueValidateMatchesSpecRow.holds Try.pinned (OpenSpec.ofChange catalogueValidateMatchesSpecWrong)

/-- 'scriptoriumlaw2.CatalogueFindMatchesSpec': WHATEVER THE INPUT: true; the input reads as it did. -/
def catalogueFindMatchesSpecSpec : ChangeSpec := { name := "catalogueFindMatchesSpec", fn := fun _ => fun
  | [d1, d2, d3] => { results := [.lit (.bool true)], args := [d1, d2, d3] }
  | _ => none }
def catalogueFindMatchesSpecRow : OpenClaim := { program := "ytlhgmigoncmcaaa", sum := "6d09c48fd2498b944a628028ae84f76b0da6a8a6a3628ee2bb058ef2afedbf19", func := "scriptorium/scriptoriumlaw2.CatalogueFindMatchesSpec", spec := "catalogueFindMatchesSpec", inPlace := ["internal/bytealg.IndexByteString", "internal/bytealg.IndexString"], unfollowed := true, recurses := true, named := ["internal/bytealg.MaxLen"], plainKeys := false, apart := false }
def CatalogueFindMatchesSpecSaid : Prop := catalogueFindMatchesSpecRow.holds Try.pinned (OpenSpec.ofChange catalogueFindMatchesSpecSpec)

/-- ITS FALSE NEIGHBOUR: 'it returns false'. Refute it at one input. -/
def catalogueFindMatchesSpecWrong : ChangeSpec := { name := "catalogueFindMatchesSpec", fn := fun _ => fun
  | [d1, d2, d3] => { results := [.lit (.bool false)], args := [d1, d2, d3] }
  | _ => none }
def CatalogueFindMatchesSpecWrongFalsely : Prop := catalogueFindMatchesSpecRow.holds Try.pinned (OpenSpec.ofChange catalogueFindMatchesSpecWrong)

/-- 'scriptoriumlaw2.CatalogueSourcesTransitive': WHATEVER THE INPUT: true; the input reads as it did. -/
def catalogueSourcesTransitiveSpec : ChangeSpec := { name := "catalogueSourcesTransitive", fn := fun _ => fun
  | [d1, d2] => { results := [.lit (.bool true)], args := [d1, d2] }
  | _ => none }
def catalogueSourcesTransitiveRow : OpenClaim := { program := "ytlhgmigoncmcaaa", sum := "6d09c48fd2498b944a628028ae84f76b0da6a8a6a3628ee2bb058ef2afedbf19", func := "scriptorium/scriptoriumlaw2.CatalogueSourcesTransitive", spec := "catalogueSourcesTransitive", inPlace := ["internal/bytealg.IndexByteString", "internal/bytealg.IndexString"], unfollowed := true, recurses := true, named := ["internal/bytealg.MaxLen"], plainKeys := false, apart := false }
def CatalogueSourcesTransitiveSaid : Prop := catalogueSourcesTransitiveRow.holds Try.pinned (OpenSpec.ofChange catalogueSourcesTransitiveSpec)

/-- ITS FALSE NEIGHBOUR: 'it returns false'. Refute it at one input. -/
def catalogueSourcesTransitiveWrong : ChangeSpec := { name := "catalogueSourcesTransitive", fn := fun _ => fun
  | [d1, d2] => { results := [.lit (.bool false)], args := [d1, d2] }
  | _ => none }
def CatalogueSourcesTransitiveWrongFalsely : Prop := catalogueSourcesTransitiveRow.holds Try.pinned (OpenSpec.ofChange catalogueSourcesTransitiveWrong)

/-- 'scriptoriumlaw2.CatalogueOutsideMatchesSpec': WHATEVER THE INPUT: true; the input reads as it did. -/
def catalogueOutsideMatchesSpecSpec : ChangeSpec := { name := "catalogueOutsideMatchesSpec", fn := fun _ => fun
  | [d] => { results := [.lit (.bool true)], args := [d] }
  | _ => none }
def catalogueOutsideMatchesSpecRow : OpenClaim := { program := "ytlhgmigoncmcaaa", sum := "6d09c48fd2498b944a628028ae84f76b0da6a8a6a3628ee2bb058ef2afedbf19", func := "scriptorium/scriptoriumlaw2.CatalogueOutsideMatchesSpec", spec := "catalogueOutsideMatchesSpec", inPlace := ["internal/bytealg.IndexByteString", "internal/bytealg.IndexString"], unfollowed := true, recurses := true, named := ["internal/bytealg.MaxLen"], plainKeys := false, apart := false }
def CatalogueOutsideMatchesSpecSaid : Prop := catalogueOutsideMatchesSpecRow.holds Try.pinned (OpenSpec.ofChange catalogueOutsideMatchesSpecSpec)

/-- ITS FALSE NEIGHBOUR: 'it returns false'. Refute it at one input. -/
def catalogueOutsideMatchesSpecWrong : ChangeSpec := { name := "catalogueOutsideMatchesSpec", fn := fun _ => fun
  | [d] => { results := [.lit (.bool false)], args := [d] }
  | _ => none }
def CatalogueOutsideMatchesSpecWrongFalsely : Prop := catalogueOutsideMatchesSpecRow.holds Try.pinned (OpenSpec.ofChange catalogueOutsideMatchesSpecWrong)

/-- 'scriptoriumlaw2.CatalogueVisibleMatchesSpec': WHATEVER THE INPUT: true; the input reads as it did. -/
def catalogueVisibleMatchesSpecSpec : ChangeSpec := { name := "catalogueVisibleMatchesSpec", fn := fun _ => fun
  | [d1, d2] => { results := [.lit (.bool true)], args := [d1, d2] }
  | _ => none }
def catalogueVisibleMatchesSpecRow : OpenClaim := { program := "ytlhgmigoncmcaaa", sum := "6d09c48fd2498b944a628028ae84f76b0da6a8a6a3628ee2bb058ef2afedbf19", func := "scriptorium/scriptoriumlaw2.CatalogueVisibleMatchesSpec", spec := "catalogueVisibleMatchesSpec", inPlace := ["internal/bytealg.IndexByteString", "internal/bytealg.IndexString"], unfollowed := true, recurses := true, named := ["internal/bytealg.MaxLen"], plainKeys := false, apart := false }
def CatalogueVisibleMatchesSpecSaid : Prop := catalogueVisibleMatchesSpecRow.holds Try.pinned (OpenSpec.ofChange catalogueVisibleMatchesSpecSpec)

/-- ITS FALSE NEIGHBOUR: 'it returns false'. Refute it at one input. -/
def catalogueVisibleMatchesSpecWrong : ChangeSpec := { name := "catalogueVisibleMatchesSpec", fn := fun _ => fun
  | [d1, d2] => { results := [.lit (.bool false)], args := [d1, d2] }
  | _ => none }
def CatalogueVisibleMatchesSpecWrongFalsely : Prop := catalogueVisibleMatchesSpecRow.holds Try.pinned (OpenSpec.ofChange catalogueVisibleMatchesSpecWrong)

/-- 'scriptoriumlaw2.CatalogueVisibleGrows': WHATEVER THE INPUT: true; the input reads as it did. -/
def catalogueVisibleGrowsSpec : ChangeSpec := { name := "catalogueVisibleGrows", fn := fun _ => fun
  | [d1, d2, d3, d4] => { results := [.lit (.bool true)], args := [d1, d2, d3, d4] }
  | _ => none }
def catalogueVisibleGrowsRow : OpenClaim := { program := "ytlhgmigoncmcaaa", sum := "6d09c48fd2498b944a628028ae84f76b0da6a8a6a3628ee2bb058ef2afedbf19", func := "scriptorium/scriptoriumlaw2.CatalogueVisibleGrows", spec := "catalogueVisibleGrows", inPlace := ["internal/bytealg.IndexByteString", "internal/bytealg.IndexString"], unfollowed := true, recurses := true, named := ["internal/bytealg.MaxLen"], plainKeys := false, apart := false }
def CatalogueVisibleGrowsSaid : Prop := catalogueVisibleGrowsRow.holds Try.pinned (OpenSpec.ofChange catalogueVisibleGrowsSpec)

/-- ITS FALSE NEIGHBOUR: 'it returns false'. Refute it at one input. -/
def catalogueVisibleGrowsWrong : ChangeSpec := { name := "catalogueVisibleGrows", fn := fun _ => fun
  | [d1, d2, d3, d4] => { results := [.lit (.bool false)], args := [d1, d2, d3, d4] }
  | _ => none }
def CatalogueVisibleGrowsWrongFalsely : Prop := catalogueVisibleGrowsRow.holds Try.pinned (OpenSpec.ofChange catalogueVisibleGrowsWrong)

/-- 'scriptoriumlaw2.CatalogueSourcesMatchSpec': WHATEVER THE INPUT: true; the input reads as it did. -/
def catalogueSourcesMatchSpecSpec : ChangeSpec := { name := "catalogueSourcesMatchSpec", fn := fun _ => fun
  | [d1, d2] => { results := [.lit (.bool true)], args := [d1, d2] }
  | _ => none }
def catalogueSourcesMatchSpecRow : OpenClaim := { program := "ytlhgmigoncmcaaa", sum := "6d09c48fd2498b944a628028ae84f76b0da6a8a6a3628ee2bb058ef2afedbf19", func := "scriptorium/scriptoriumlaw2.CatalogueSourcesMatchSpec", spec := "catalogueSourcesMatchSpec", inPlace := ["internal/bytealg.IndexByteString", "internal/bytealg.IndexString"], unfollowed := true, recurses := true, named := ["internal/bytealg.MaxLen"], plainKeys := false, apart := false }
def CatalogueSourcesMatchSpecSaid : Prop := catalogueSourcesMatchSpecRow.holds Try.pinned (OpenSpec.ofChange catalogueSourcesMatchSpecSpec)

/-- ITS FALSE NEIGHBOUR: 'it returns false'. Refute it at one input. -/
def catalogueSourcesMatchSpecWrong : ChangeSpec := { name := "catalogueSourcesMatchSpec", fn := fun _ => fun
  | [d1, d2] => { results := [.lit (.bool false)], args := [d1, d2] }
  | _ => none }
def CatalogueSourcesMatchSpecWrongFalsely : Prop := catalogueSourcesMatchSpecRow.holds Try.pinned (OpenSpec.ofChange catalogueSourcesMatchSpecWrong)

/-- 'scriptoriumlaw2.CatalogueAddMatchesSpec': WHATEVER THE INPUT: true; the input reads as it did. -/
def catalogueAddMatchesSpecSpec : ChangeSpec := { name := "catalogueAddMatchesSpec", fn := fun _ => fun
  | [d1, d2] => { results := [.lit (.bool true)], args := [d1, d2] }
  | _ => none }
def catalogueAddMatchesSpecRow : OpenClaim := { program := "ytlhgmigoncmcaaa", sum := "6d09c48fd2498b944a628028ae84f76b0da6a8a6a3628ee2bb058ef2afedbf19", func := "scriptorium/scriptoriumlaw2.CatalogueAddMatchesSpec", spec := "catalogueAddMatchesSpec", inPlace := ["internal/bytealg.IndexByteString", "internal/bytealg.IndexString"], unfollowed := true, recurses := true, named := ["internal/bytealg.MaxLen"], plainKeys := false, apart := false }
def CatalogueAddMatchesSpecSaid : Prop := catalogueAddMatchesSpecRow.holds Try.pinned (OpenSpec.ofChange catalogueAddMatchesSpecSpec)

/-- ITS FALSE NEIGHBOUR: 'it returns false'. Refute it at one input. -/
def catalogueAddMatchesSpecWrong : ChangeSpec := { name := "catalogueAddMatchesSpec", fn := fun _ => fun
  | [d1, d2] => { results := [.lit (.bool false)], args := [d1, d2] }
  | _ => none }
def CatalogueAddMatchesSpecWrongFalsely : Prop := catalogueAddMatchesSpecRow.holds Try.pinned (OpenSpec.ofChange catalogueAddMatchesSpecWrong)

/-- 'scriptoriumlaw2.CatalogueMergeMatchesSpec': WHATEVER THE INPUT: true; the input reads as it did. -/
def catalogueMergeMatchesSpecSpec : ChangeSpec := { name := "catalogueMergeMatchesSpec", fn := fun _ => fun
  | [d1, d2] => { results := [.lit (.bool true)], args := [d1, d2] }
  | _ => none }
def catalogueMergeMatchesSpecRow : OpenClaim := { program := "ytlhgmigoncmcaaa", sum := "6d09c48fd2498b944a628028ae84f76b0da6a8a6a3628ee2bb058ef2afedbf19", func := "scriptorium/scriptoriumlaw2.CatalogueMergeMatchesSpec", spec := "catalogueMergeMatchesSpec", inPlace := ["internal/bytealg.IndexByteString", "internal/bytealg.IndexString"], unfollowed := true, recurses := true, named := ["internal/bytealg.MaxLen"], plainKeys := false, apart := false }
def CatalogueMergeMatchesSpecSaid : Prop := catalogueMergeMatchesSpecRow.holds Try.pinned (OpenSpec.ofChange catalogueMergeMatchesSpecSpec)

/-- ITS FALSE NEIGHBOUR: 'it returns false'. Refute it at one input. -/
def catalogueMergeMatchesSpecWrong : ChangeSpec := { name := "catalogueMergeMatchesSpec", fn := fun _ => fun
  | [d1, d2] => { results := [.lit (.bool false)], args := [d1, d2] }
  | _ => none }
def CatalogueMergeMatchesSpecWrongFalsely : Prop := catalogueMergeMatchesSpecRow.holds Try.pinned (OpenSpec.ofChange catalogueMergeMatchesSpecWrong)

/-- 'scriptoriumlaw2.CatalogueDecodesEncoded': WHATEVER THE INPUT: true; the input reads as it did. -/
def catalogueDecodesEncodedSpec : ChangeSpec := { name := "catalogueDecodesEncoded", fn := fun _ => fun
  | [d] => { results := [.lit (.bool true)], args := [d] }
  | _ => none }
def catalogueDecodesEncodedRow : OpenClaim := { program := "ytlhgmigoncmcaaa", sum := "6d09c48fd2498b944a628028ae84f76b0da6a8a6a3628ee2bb058ef2afedbf19", func := "scriptorium/scriptoriumlaw2.CatalogueDecodesEncoded", spec := "catalogueDecodesEncoded", inPlace := ["internal/bytealg.IndexByteString", "internal/bytealg.IndexString"], unfollowed := true, recurses := true, named := ["internal/bytealg.MaxLen"], plainKeys := false, apart := false }
def CatalogueDecodesEncodedSaid : Prop := catalogueDecodesEncodedRow.holds Try.pinned (OpenSpec.ofChange catalogueDecodesEncodedSpec)

/-- ITS FALSE NEIGHBOUR: 'it returns false'. Refute it at one input. -/
def catalogueDecodesEncodedWrong : ChangeSpec := { name := "catalogueDecodesEncoded", fn := fun _ => fun
  | [d] => { results := [.lit (.bool false)], args := [d] }
  | _ => none }
def CatalogueDecodesEncodedWrongFalsely : Prop := catalogueDecodesEncodedRow.holds Try.pinned (OpenSpec.ofChange catalogueDecodesEncodedWrong)

/- THE SECOND FORM. 'bulk': how many values and letters a reading holds, each counted each time it is reached (what is shared counts as often as it is met; a slice's spare places count too). A statement '..UptoSaid' is the law's where the arguments, and the package variables that the reading takes, are together of bulk at most 1048576: NARROWER than '..Said'. Prove '..Said' where nothing that the law and all that it calls make is longer than what came in: it says more and counts as full. Else prove '..UptoSaid'. A law counts once. -/
mutual
def uptoBulk {H : Type} : DataW H → Nat
  | .lit (.string bytes) => bytes.length + 1
  | .lit _ => 1
  | .nil => 1
  | .ptr d => uptoBulk d + 1
  | .slice elems spare => uptoBulkAll elems + uptoBulkAll spare + 1
  | .agg parts => uptoBulkAll parts + 1
  | .iface _ d => uptoBulk d + 1
  | .map entries => uptoBulkEntries entries + 1
  | .held _ => 1
def uptoBulkAll {H : Type} : List (DataW H) → Nat
  | [] => 0
  | d :: r => uptoBulk d + uptoBulkAll r
def uptoBulkEntries {H : Type} : List (Lit × DataW H) → Nat
  | [] => 0
  | x :: r => uptoBulkEntry x + uptoBulkEntries r
def uptoBulkEntry {H : Type} : Lit × DataW H → Nat
  | (.string bytes, d) => bytes.length + uptoBulk d + 1
  | (_, d) => uptoBulk d + 1
 end
def uptoSmall : (H : Type) → List (DataW H) → Bool := fun _ ds => decide (uptoBulkAll ds ≤ 1048576)
def OpenSpec.upto (s : _root_.Go.ChangeSpec) : _root_.Go.OpenSpec := { _root_.Go.OpenSpec.ofChange s with cond := some uptoSmall }

/-- 'scriptoriumlaw2.CatalogueValidateMatchesSpec', WHERE WHAT IT READS IS OF BULK AT MOST 1048576: true; the input reads as it did. -/
def catalogueValidateMatchesSpecUptoRow : OpenClaim := { program := "ytlhgmigoncmcaaa", sum := "6d09c48fd2498b944a628028ae84f76b0da6a8a6a3628ee2bb058ef2afedbf19", func := "scriptorium/scriptoriumlaw2.CatalogueValidateMatchesSpec", spec := "catalogueValidateMatchesSpec", inPlace := ["internal/bytealg.IndexByteString", "internal/bytealg.IndexString"], unfollowed := true, recurses := true, named := ["internal/bytealg.MaxLen"], plainKeys := false, apart := false, narrowed := true }
def CatalogueValidateMatchesSpecUptoSaid : Prop := catalogueValidateMatchesSpecUptoRow.holds Try.pinned (OpenSpec.upto catalogueValidateMatchesSpecSpec)

/-- 'scriptoriumlaw2.CatalogueFindMatchesSpec', WHERE WHAT IT READS IS OF BULK AT MOST 1048576: true; the input reads as it did. -/
def catalogueFindMatchesSpecUptoRow : OpenClaim := { program := "ytlhgmigoncmcaaa", sum := "6d09c48fd2498b944a628028ae84f76b0da6a8a6a3628ee2bb058ef2afedbf19", func := "scriptorium/scriptoriumlaw2.CatalogueFindMatchesSpec", spec := "catalogueFindMatchesSpec", inPlace := ["internal/bytealg.IndexByteString", "internal/bytealg.IndexString"], unfollowed := true, recurses := true, named := ["internal/bytealg.MaxLen"], plainKeys := false, apart := false, narrowed := true }
def CatalogueFindMatchesSpecUptoSaid : Prop := catalogueFindMatchesSpecUptoRow.holds Try.pinned (OpenSpec.upto catalogueFindMatchesSpecSpec)

/-- 'scriptoriumlaw2.CatalogueSourcesTransitive', WHERE WHAT IT READS IS OF BULK AT MOST 1048576: true; the input reads as it did. -/
def catalogueSourcesTransitiveUptoRow : OpenClaim := { program := "ytlhgmigoncmcaaa", sum := "6d09c48fd2498b944a628028ae84f76b0da6a8a6a3628ee2bb058ef2afedbf19", func := "scriptorium/scriptoriumlaw2.CatalogueSourcesTransitive", spec := "catalogueSourcesTransitive", inPlace := ["internal/bytealg.IndexByteString", "internal/bytealg.IndexString"], unfollowed := true, recurses := true, named := ["internal/bytealg.MaxLen"], plainKeys := false, apart := false, narrowed := true }
def CatalogueSourcesTransitiveUptoSaid : Prop := catalogueSourcesTransitiveUptoRow.holds Try.pinned (OpenSpec.upto catalogueSourcesTransitiveSpec)

/-- 'scriptoriumlaw2.CatalogueOutsideMatchesSpec', WHERE WHAT IT READS IS OF BULK AT MOST 1048576: true; the input reads as it did. -/
def catalogueOutsideMatchesSpecUptoRow : OpenClaim := { program := "ytlhgmigoncmcaaa", sum := "6d09c48fd2498b944a628028ae84f76b0da6a8a6a3628ee2bb058ef2afedbf19", func := "scriptorium/scriptoriumlaw2.CatalogueOutsideMatchesSpec", spec := "catalogueOutsideMatchesSpec", inPlace := ["internal/bytealg.IndexByteString", "internal/bytealg.IndexString"], unfollowed := true, recurses := true, named := ["internal/bytealg.MaxLen"], plainKeys := false, apart := false, narrowed := true }
def CatalogueOutsideMatchesSpecUptoSaid : Prop := catalogueOutsideMatchesSpecUptoRow.holds Try.pinned (OpenSpec.upto catalogueOutsideMatchesSpecSpec)

/-- 'scriptoriumlaw2.CatalogueVisibleMatchesSpec', WHERE WHAT IT READS IS OF BULK AT MOST 1048576: true; the input reads as it did. -/
def catalogueVisibleMatchesSpecUptoRow : OpenClaim := { program := "ytlhgmigoncmcaaa", sum := "6d09c48fd2498b944a628028ae84f76b0da6a8a6a3628ee2bb058ef2afedbf19", func := "scriptorium/scriptoriumlaw2.CatalogueVisibleMatchesSpec", spec := "catalogueVisibleMatchesSpec", inPlace := ["internal/bytealg.IndexByteString", "internal/bytealg.IndexString"], unfollowed := true, recurses := true, named := ["internal/bytealg.MaxLen"], plainKeys := false, apart := false, narrowed := true }
def CatalogueVisibleMatchesSpecUptoSaid : Prop := catalogueVisibleMatchesSpecUptoRow.holds Try.pinned (OpenSpec.upto catalogueVisibleMatchesSpecSpec)

/-- 'scriptoriumlaw2.CatalogueVisibleGrows', WHERE WHAT IT READS IS OF BULK AT MOST 1048576: true; the input reads as it did. -/
def catalogueVisibleGrowsUptoRow : OpenClaim := { program := "ytlhgmigoncmcaaa", sum := "6d09c48fd2498b944a628028ae84f76b0da6a8a6a3628ee2bb058ef2afedbf19", func := "scriptorium/scriptoriumlaw2.CatalogueVisibleGrows", spec := "catalogueVisibleGrows", inPlace := ["internal/bytealg.IndexByteString", "internal/bytealg.IndexString"], unfollowed := true, recurses := true, named := ["internal/bytealg.MaxLen"], plainKeys := false, apart := false, narrowed := true }
def CatalogueVisibleGrowsUptoSaid : Prop := catalogueVisibleGrowsUptoRow.holds Try.pinned (OpenSpec.upto catalogueVisibleGrowsSpec)

/-- 'scriptoriumlaw2.CatalogueSourcesMatchSpec', WHERE WHAT IT READS IS OF BULK AT MOST 1048576: true; the input reads as it did. -/
def catalogueSourcesMatchSpecUptoRow : OpenClaim := { program := "ytlhgmigoncmcaaa", sum := "6d09c48fd2498b944a628028ae84f76b0da6a8a6a3628ee2bb058ef2afedbf19", func := "scriptorium/scriptoriumlaw2.CatalogueSourcesMatchSpec", spec := "catalogueSourcesMatchSpec", inPlace := ["internal/bytealg.IndexByteString", "internal/bytealg.IndexString"], unfollowed := true, recurses := true, named := ["internal/bytealg.MaxLen"], plainKeys := false, apart := false, narrowed := true }
def CatalogueSourcesMatchSpecUptoSaid : Prop := catalogueSourcesMatchSpecUptoRow.holds Try.pinned (OpenSpec.upto catalogueSourcesMatchSpecSpec)

/-- 'scriptoriumlaw2.CatalogueAddMatchesSpec', WHERE WHAT IT READS IS OF BULK AT MOST 1048576: true; the input reads as it did. -/
def catalogueAddMatchesSpecUptoRow : OpenClaim := { program := "ytlhgmigoncmcaaa", sum := "6d09c48fd2498b944a628028ae84f76b0da6a8a6a3628ee2bb058ef2afedbf19", func := "scriptorium/scriptoriumlaw2.CatalogueAddMatchesSpec", spec := "catalogueAddMatchesSpec", inPlace := ["internal/bytealg.IndexByteString", "internal/bytealg.IndexString"], unfollowed := true, recurses := true, named := ["internal/bytealg.MaxLen"], plainKeys := false, apart := false, narrowed := true }
def CatalogueAddMatchesSpecUptoSaid : Prop := catalogueAddMatchesSpecUptoRow.holds Try.pinned (OpenSpec.upto catalogueAddMatchesSpecSpec)

/-- 'scriptoriumlaw2.CatalogueMergeMatchesSpec', WHERE WHAT IT READS IS OF BULK AT MOST 1048576: true; the input reads as it did. -/
def catalogueMergeMatchesSpecUptoRow : OpenClaim := { program := "ytlhgmigoncmcaaa", sum := "6d09c48fd2498b944a628028ae84f76b0da6a8a6a3628ee2bb058ef2afedbf19", func := "scriptorium/scriptoriumlaw2.CatalogueMergeMatchesSpec", spec := "catalogueMergeMatchesSpec", inPlace := ["internal/bytealg.IndexByteString", "internal/bytealg.IndexString"], unfollowed := true, recurses := true, named := ["internal/bytealg.MaxLen"], plainKeys := false, apart := false, narrowed := true }
def CatalogueMergeMatchesSpecUptoSaid : Prop := catalogueMergeMatchesSpecUptoRow.holds Try.pinned (OpenSpec.upto catalogueMergeMatchesSpecSpec)

/-- 'scriptoriumlaw2.CatalogueDecodesEncoded', WHERE WHAT IT READS IS OF BULK AT MOST 1048576: true; the input reads as it did. -/
def catalogueDecodesEncodedUptoRow : OpenClaim := { program := "ytlhgmigoncmcaaa", sum := "6d09c48fd2498b944a628028ae84f76b0da6a8a6a3628ee2bb058ef2afedbf19", func := "scriptorium/scriptoriumlaw2.CatalogueDecodesEncoded", spec := "catalogueDecodesEncoded", inPlace := ["internal/bytealg.IndexByteString", "internal/bytealg.IndexString"], unfollowed := true, recurses := true, named := ["internal/bytealg.MaxLen"], plainKeys := false, apart := false, narrowed := true }
def CatalogueDecodesEncodedUptoSaid : Prop := catalogueDecodesEncodedUptoRow.holds Try.pinned (OpenSpec.upto catalogueDecodesEncodedSpec)

end Rows
end Go.Proofs.Ytlhgmigoncmcaaa
