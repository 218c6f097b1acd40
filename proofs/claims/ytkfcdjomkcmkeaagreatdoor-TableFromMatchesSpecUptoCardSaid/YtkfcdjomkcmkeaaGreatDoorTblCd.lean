/-
  What the rows' lists and the world's shape give: the tables of unicode/utf8, bytealg.MaxLen's cell; a world that holds them.
-/
import Derived.Test.YtkfcdjomkcmkeaaGreatDoorLibF
import Derived.Test.YtkfcdjomkcmkeaaGreatDoorCards
import Derived.Test.YtkfcdjomkcmkeaaGreatDoorTie
import Derived.WalkKit
import Derived.ProofKit
import Derived.OpenShut
import Derived.Deep.DeepHandedRow
import Derived.Lib.LaidU8T
import Derived.Shelf.Vars
namespace Go.Proofs.YtkfcdjomkcmkeaaGreatDoor
open Go Go.ChangeShapes Go.WideShapes Go.ChangeAt Go.RowKit

def ren : Shelf.Ren := ⟨fun x => x, fun x => if x = 5 then 5 else if x = 119 then 142 else if x = 138 then 144 else if x = 139 then 145 else x, fun x => if x = 3 then 1 else 2⟩
theorem u8types : U8Types Tryz.prog ren := ⟨by kernel_rfl, by kernel_rfl, by kernel_rfl, by kernel_rfl⟩
theorem u8extra : U8Extra Tryz.prog ren := ⟨by kernel_rfl, by kernel_rfl, by kernel_rfl, by kernel_rfl, by kernel_rfl, by kernel_rfl, by kernel_rfl⟩
theorem firstD : Rows.laid_unicode_utf8_first = Lib.firstData := by kernel_rfl
theorem acceptD : (Rows.laid_unicode_utf8_acceptRanges : DataW Unit) = Lib.acceptData := by kernel_rfl
/-- what both tables hold, where a row lists them -/
theorem tabs {W : World} (h : laidMet Tryz.prog [("unicode/utf8.acceptRanges", Rows.laid_unicode_utf8_acceptRanges), ("unicode/utf8.first", Rows.laid_unicode_utf8_first)] W) : Tabs W :=
  utf8Tabs_of_readsT (ρ := ren) u8types u8extra (firstD ▸ Lib.laidMet.reads h (by simp)) (acceptD ▸ Lib.laidMet.reads h (by simp))
theorem maxB_of {W : World} (h : W.ShapedOpen Tryz.prog) : MaxB W :=
  cell_of_shapedOpen_int (g := 0) (t := 3) (zero := #[.int .i64 0]) h (of_decide_eq_true (by kernel_rfl)) (by kernel_rfl) rfl (by kernel_rfl) (by kernel_rfl) Tryz.underlying3
def accCells : List Value := (List.range 16).flatMap fun i => [.int .u8 (Lib.accLo i : Int), .int .u8 (Lib.accHi i : Int)]
def fillObj (l : List Value) : Obj → Obj
  | .cells _ t frozen => .cells l.toArray t frozen
  | o => o
/-- a world whose tables are laid -/
noncomputable def laidWorld (os : Os) : World :=
  { World.holding Tryz.prog os ⟨#[], #[], []⟩ with heap := ((World.holding Tryz.prog os ⟨#[], #[], []⟩).heap.modify 1 (fillObj (Lib.firstTab.map (Value.int .u8)))).modify 2 (fillObj accCells) }
theorem laid_bytes (os : Os) : laidMet Tryz.prog [("unicode/utf8.acceptRanges", Rows.laid_unicode_utf8_acceptRanges), ("unicode/utf8.first", Rows.laid_unicode_utf8_first)] ((laidWorld os).forCall (fun _ _ => 0) ⟨#[], #[.slice none 0 0], []⟩).memory :=
  laidMet_of_run' 8 (by kernel_rfl) (by kernel_rfl)
end Go.Proofs.YtkfcdjomkcmkeaaGreatDoor
