/-
  What the rows' lists give: the tables of unicode/utf8; a world that holds them.
-/
import Derived.Test.YtgnaojphgdaalaaDoorCards
import Derived.Test.YtgnaojphgdaalaaDoorTie
import Derived.WalkKit
import Derived.ProofKit
import Derived.OpenShut
import Derived.Deep.DeepHandedRow
import Derived.Lib.LaidU8T
namespace Go.Proofs.YtgnaojphgdaalaaDoor
open Go Go.ChangeShapes Go.WideShapes Go.ChangeAt Go.RowKit

def ren : Shelf.Ren := ⟨fun x => x, fun x => if x = 119 then 109 else if x = 138 then 111 else if x = 139 then 112 else x, fun x => if x = 3 then 0 else 1⟩
theorem u8types : U8Types Tryd.prog ren := ⟨by kernel_rfl, by kernel_rfl, by kernel_rfl, by kernel_rfl⟩
theorem u8extra : U8Extra Tryd.prog ren := ⟨by kernel_rfl, by kernel_rfl, by kernel_rfl, by kernel_rfl, by kernel_rfl, by kernel_rfl, by kernel_rfl⟩
theorem firstD : Rows.laid_unicode_utf8_first = Lib.firstData := by kernel_rfl
theorem acceptD : (Rows.laid_unicode_utf8_acceptRanges : DataW Unit) = Lib.acceptData := by kernel_rfl
/-- what both tables hold, where a row lists them -/
theorem tabs {W : World} (h : laidMet Tryd.prog [("unicode/utf8.acceptRanges", Rows.laid_unicode_utf8_acceptRanges), ("unicode/utf8.first", Rows.laid_unicode_utf8_first)] W) : Lib.Utf8Tabs 0 1 W :=
  utf8Tabs_of_readsT (ρ := ren) u8types u8extra (firstD ▸ Lib.laidMet.reads h (by simp)) (acceptD ▸ Lib.laidMet.reads h (by simp))
def accCells : List Value := (List.range 16).flatMap fun i => [.int .u8 (Lib.accLo i : Int), .int .u8 (Lib.accHi i : Int)]
def fillObj (l : List Value) : Obj → Obj
  | .cells _ t frozen => .cells l.toArray t frozen
  | o => o
/-- a world whose tables are laid -/
noncomputable def laidWorld (os : Os) : World :=
  { World.holding Tryd.prog os ⟨#[], #[], []⟩ with heap := ((World.holding Tryd.prog os ⟨#[], #[], []⟩).heap.modify 0 (fillObj (Lib.firstTab.map (Value.int .u8)))).modify 1 (fillObj accCells) }
theorem laid_bytes (os : Os) : laidMet Tryd.prog [("unicode/utf8.acceptRanges", Rows.laid_unicode_utf8_acceptRanges), ("unicode/utf8.first", Rows.laid_unicode_utf8_first)] ((laidWorld os).forCall (fun _ _ => 0) ⟨#[], #[.slice none 0 0], []⟩).memory :=
  laidMet_of_run' 8 (by kernel_rfl) (by kernel_rfl)
end Go.Proofs.YtgnaojphgdaalaaDoor
