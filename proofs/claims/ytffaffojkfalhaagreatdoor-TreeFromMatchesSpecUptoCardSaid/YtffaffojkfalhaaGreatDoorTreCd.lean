/-
  What the rows' lists give: the powers of ten, the two errors of strconv; a world that holds them.
-/
import Derived.Test.YtffaffojkfalhaaGreatDoorTreN
import Derived.Test.YtffaffojkfalhaaGreatDoorCards
import Derived.Test.YtffaffojkfalhaaGreatDoorTie
import Derived.WalkKit
import Derived.ProofKit
import Derived.OpenShut
import Derived.Deep.DeepHandedRow
import Derived.Lib.LaidU8
namespace Go.Proofs.YtffaffojkfalhaaGreatDoor
open Go Go.ChangeShapes Go.WideShapes Go.ChangeAt Go.RowKit

abbrev treLaid : List (String × DataW Unit) := [("math/bits.deBruijn32tab", Rows.laid_math_bits_deBruijn32tab), ("math/bits.deBruijn64tab", Rows.laid_math_bits_deBruijn64tab), ("internal/strconv.uint64pow10", Rows.laid_internal_strconv_uint64pow10), ("unicode/utf8.acceptRanges", Rows.laid_unicode_utf8_acceptRanges), ("strconv.ErrRange", Rows.laid_strconv_ErrRange), ("strconv.ErrSyntax", Rows.laid_strconv_ErrSyntax), ("unicode/utf8.first", Rows.laid_unicode_utf8_first)]
theorem powD : (Rows.laid_internal_strconv_uint64pow10 : DataW Unit) = Lib.tabData .u64 Lib.pow10Tab := by kernel_rfl
theorem pow_of {W : World} (h : Lib.VarReads Tryz.prog W "internal/strconv.uint64pow10" (Lib.tabData .u64 Lib.pow10Tab)) : Lib.TabIs Tryz.prog W "internal/strconv.uint64pow10" .u64 Lib.pow10Tab := by
  obtain ⟨g, t, cs, fuel, p, hg, ht, hv, hd⟩ := h
  obtain rfl := Option.some.inj ((show Tryz.prog.globalNamed "internal/strconv.uint64pow10" = some 3 by kernel_rfl).symm.trans hg)
  obtain rfl := Option.some.inj ((show (Tryz.prog.globals[(3 : Nat)]?).map (·.type) = some 172 by kernel_rfl).symm.trans ht)
  unfold Lib.TabIs
  rw [hv, ← Lib.cells_of_tab Tryz.underlying172 Tryz.underlying102 (by kernel_rfl) (by kernel_rfl) hd]
theorem err_of {W : World} {n : String} {g : Nat} {nm : String} {d : DataW Unit} (hg0 : Tryz.prog.globalNamed n = some g) (ht0 : (Tryz.prog.globals[g]?).map (·.type) = some 135) (h : Lib.VarReads Tryz.prog W n (.iface nm d)) : ∃ t p, W.cell? ⟨g, 0, none⟩ = some (.iface t p) := by
  obtain ⟨g', t, cs, fuel, p, hg, ht, hv, hd⟩ := h
  obtain rfl := Option.some.inj (hg0.symm.trans hg)
  obtain rfl := Option.some.inj (ht0.symm.trans ht)
  obtain ⟨_, u, v, hc, _⟩ := iface_of_trod Tryz.underlying135 hd
  have := World.var?_cell hg hv 0
  rw [Array.eq_one_of_toList hc] at this
  exact ⟨u, v, by simpa using this⟩
/-- what strconv reads, where a row lists it -/
theorem numt {W : World} (h0 : laidMetH Tryz.prog treLaid W) : NumT W := by
  rw [MakeChecks.laidMetH_plain _ _ _ (by kernel_rfl)] at h0
  have h5 := Lib.laidMet.reads h0 (n := "strconv.ErrSyntax") (d := Rows.laid_strconv_ErrSyntax) (by simp)
  have h6 := Lib.laidMet.reads h0 (n := "strconv.ErrRange") (d := Rows.laid_strconv_ErrRange) (by simp)
  exact ⟨pow_of (powD ▸ Lib.laidMet.reads h0 (by simp)), err_of (by kernel_rfl) (by kernel_rfl) h5, err_of (by kernel_rfl) (by kernel_rfl) h6⟩
def lv0 : DataW Unit → List Value
  | .lit (.int k z) => [.int k z]
  | _ => []
def lv1 : DataW Unit → List Value
  | .agg l => l.flatMap lv0
  | _ => []
def lv2 : DataW Unit → List Value
  | .agg l => l.flatMap lv1
  | _ => []
def fillObj (l : List Value) : Obj → Obj
  | .cells _ t frozen => .cells l.toArray t frozen
  | o => o
def errTo (b : Nat) : List Value := [.iface 188 (.pointer (some ⟨b, 0, none⟩))]
def errAt (l : List UInt8) : Obj := .cells #[str l] 190 (0, 0)
/-- a heap whose variables are laid -/
noncomputable def laidHeap (h : Array Obj) : Array Obj :=
  ((((((((h.modify 1 (fillObj (lv1 Rows.laid_unicode_utf8_first))).modify 2 (fillObj (lv2 Rows.laid_unicode_utf8_acceptRanges))).modify 3 (fillObj (lv1 Rows.laid_internal_strconv_uint64pow10))).modify 4 (fillObj (errTo h.size))).modify 5 (fillObj (errTo (h.size + 1)))).modify 6 (fillObj (lv1 Rows.laid_math_bits_deBruijn32tab))).modify 7 (fillObj (lv1 Rows.laid_math_bits_deBruijn64tab))).push (errAt [105, 110, 118, 97, 108, 105, 100, 32, 115, 121, 110, 116, 97, 120])).push (errAt [118, 97, 108, 117, 101, 32, 111, 117, 116, 32, 111, 102, 32, 114, 97, 110, 103, 101])
noncomputable def laidWorld (os : Os) : World :=
  { World.holding Tryz.prog os ⟨#[], #[], []⟩ with heap := laidHeap (World.holding Tryz.prog os ⟨#[], #[], []⟩).heap }
end Go.Proofs.YtffaffojkfalhaaGreatDoor
