/-
  What the converters use of packages bytes and slices.
-/
import Derived.Test.YtffaffojkfalhaaGreatDoorWirA
namespace Go.Proofs.YtffaffojkfalhaaGreatDoor
open Go Go.RowKit

section
variable {V W : World}
theorem equal_bytes (hV : Sub V W) {x y : Sl} {a b : List UInt8} (hx : Byt V x a) (hy : Byt V y b) : Ret Tryz.prog 37 [x.v, y.v].toArray W fun v w' => v = .bool (decide (a = b)) ∧ Rel W V [] V w' := by
  have H := Rel.start hV
  have h1 := hx.len
  have h2 := hy.len
  have hcx : Cells W x.a (a.map bv) := byC_map a ▸ (hx.up hV).cells
  have hcy : Cells W y.a (b.map bv) := byC_map b ▸ (hy.up hV).cells
  refine cal_of_vc tabOk Tryz.func37 rfl (by kernel_rfl) 10 rfl (by simp) [0, 1, 4] ?_
  (first | (refine H.wg ?_; clear H; intros; rename_i w H; constructor) | refine wk ?_)
  exact H
end
end Go.Proofs.YtffaffojkfalhaaGreatDoor
