/-
  Pictures, the reference: what a residue tells.
-/
import Derived.Test.YtgnaojphgdaalaaGreatPicE
namespace Go.Proofs.YtgnaojphgdaalaaGreat
open Go Go.RowKit

abbrev lsBits : List UInt8 := [98, 105, 116, 115]
abbrev lsUp : List UInt8 := [114, 111, 119, 115, 32, 117, 112, 119, 97, 114, 100]
abbrev lsRuns : List UInt8 := [114, 117, 110, 115]
abbrev lsColors : List UInt8 := [99, 111, 108, 111, 114, 115]
/-- what a residue tells: f its flags, n the number of its colors -/
def lossPic (f n : Nat) : List LossD := (if bitsOf f = 24 then [] else [(lsBits, (bitsOf f : Int))]) ++ (if f % 2 = 1 then [(lsUp, 1)] else []) ++ (if f / 2 % 2 = 1 then [(lsRuns, 1)] else []) ++ (if f < 32 then [(lsColors, (n : Int))] else [])
theorem loss1_pic (x : LossD) : ∀ u ∈ lossC x, u.oneCell' = true := by
  intro u hu
  simp only [lossC, List.mem_cons, List.not_mem_nil, or_false] at hu
  rcases hu with rfl | rfl <;> rfl
section
variable {V W : World}
end
end Go.Proofs.YtgnaojphgdaalaaGreat
