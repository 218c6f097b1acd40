/-
  What a converter answers.
-/
import Derived.Test.YtkfcdjomkcmkeaaGreatDoorValI
import Derived.Test.YtkfcdjomkcmkeaaGreatDoorCnvR
namespace Go.Proofs.YtkfcdjomkcmkeaaGreatDoor
open Go Go.RowKit

abbrev zeroV : Val := .mk 0 0 [] [] []
abbrev zeroH : VH := ⟨0, 0, ⟨none, 0, 0⟩, ⟨none, 0, 0⟩, ⟨none, 0, 0⟩⟩
theorem valAt_zero (V : World) : ValAt V zeroH zeroV := .mk [] rfl rfl (SlF.nil _ _) (SlF.nil _ _) (SlF.nil _ _) rfl (fun i x p h => by simp at h)
abbrev numH (n : Int) : VH := ⟨1, n, ⟨none, 0, 0⟩, ⟨none, 0, 0⟩, ⟨none, 0, 0⟩⟩
abbrev bytH (s : Sl) : VH := ⟨2, 0, s, ⟨none, 0, 0⟩, ⟨none, 0, 0⟩⟩
theorem valAt_num (V : World) (n : Int) : ValAt V (numH n) (.mk 1 n [] [] []) := .mk [] rfl rfl (SlF.nil _ _) (SlF.nil _ _) (SlF.nil _ _) rfl (fun i x p h => by simp at h)
theorem valAt_byt {V : World} {s : Sl} {b : List UInt8} (h : Byt V s b) : ValAt V (bytH s) (.mk 2 0 b [] []) := .mk [] rfl rfl h (SlF.nil _ _) (SlF.nil _ _) rfl (fun i x p h => by simp at h)
/-- a record of three parts -/
theorem valAt_rec {V : World} {ss pl : Sl} {ns : List (List UInt8)} {hs : List VH} {ps : List Val} (h1 : SlF strC V ss ns) (h2 : SlF valC V pl hs) (h3 : hs.length = ps.length) (h4 : ∀ (i : Nat) x p, hs[i]? = some x → ps[i]? = some p → ValAt V x p) :
    ValAt V ⟨4, 0, ⟨none, 0, 0⟩, ss, pl⟩ (.mk 4 0 [] ns ps) := .mk hs rfl rfl (SlF.nil _ _) h1 h2 h3 h4
theorem i64_c (n : Int) (h : 0 ≤ n ∧ n ≤ 100 := by decide) : I64 n := ⟨by omega, by omega⟩
theorem vb_num {B : Nat} {n : Int} (h : I64 n) : VB B (.mk 1 n [] [] []) := .mk (i64_c 1) h (Nat.zero_le _) (Nat.zero_le _) (by simp) (Nat.zero_le _) (by simp)
theorem vb_byt {B : Nat} {b : List UInt8} (h : b.length ≤ B) : VB B (.mk 2 0 b [] []) := .mk (i64_c 2) (i64_c 0) h (Nat.zero_le _) (by simp) (Nat.zero_le _) (by simp)
theorem vb_zero (B : Nat) : VB B zeroV := .mk (i64_c 0) (i64_c 0) (Nat.zero_le _) (Nat.zero_le _) (by simp) (Nat.zero_le _) (by simp)
theorem vb_big {v : Val} (h : VB 1048576 v) : VB 1099511627776 v := h.mono (by omega)
/-- what To answers: a value, a residue and a fault -/
structure ToRes where
  v : Val
  r : List UInt8
  c : Int
  i : Int
def toRes (o : Option (Val × List UInt8)) (n : Nat) : ToRes := if 1000 < n then ⟨zeroV, [], 3, -1⟩ else match o with
  | none => ⟨zeroV, [], 21, -1⟩
  | some (v, r) => ⟨v, r, 0, 0⟩
structure ToR (W V : World) (x : ToRes) (q : Value) (w' : World) : Prop where
  ex : ∃ (V' : World) (h : VH) (r : Sl), Sub V V' ∧ Rel W V [] V' w' ∧ q = .tuple #[valV h, r.v, faultV x.c x.i] ∧ ValAt V' h x.v ∧ Byt V' r x.r
/-- what the reference answers -/
structure ToG (W V : World) (o : Option (Val × List UInt8)) (q : Value) (w' : World) : Prop where
  ex : ∃ (V' : World) (h : VH) (r : Sl) (v : Val) (b : List UInt8), Sub V V' ∧ Rel W V [] V' w' ∧ ValAt V' h v ∧ Byt V' r b ∧ (match o with
    | none => q = .tuple #[valV h, r.v, .bool false]
    | some x => q = .tuple #[valV h, r.v, .bool true] ∧ x = (v, b))
/-- what From answers -/
def frRes (v : Val) (shape : Bool) (o : Option (List UInt8)) : List UInt8 × Int × Int := if (vfault v).1 ≠ 0 then ([], vfault v) else if shape = false then ([], 13, 0) else match o with
  | none => ([], 6, -2)
  | some b => (b, 0, 0)
structure FrR (W V : World) (x : List UInt8 × Int × Int) (q : Value) (w' : World) : Prop where
  ex : ∃ (V' : World) (r : Sl), Sub V V' ∧ Rel W V [] V' w' ∧ q = .tuple #[r.v, faultV x.2.1 x.2.2] ∧ Byt V' r x.1
/-- what the reference answers -/
structure FrG (W V : World) (o : Option (List UInt8)) (q : Value) (w' : World) : Prop where
  ex : ∃ (V' : World) (r : Sl) (b : List UInt8) (k : Bool), Sub V V' ∧ Rel W V [] V' w' ∧ q = .tuple #[r.v, .bool k] ∧ Byt V' r b ∧ (match o with
    | none => k = false
    | some x => k = true ∧ b = x)
/-! ### losses -/
abbrev LossD := List UInt8 × Int
abbrev lossC (x : LossD) : List Value := [str x.1, iv x.2]
structure ExR (W V : World) (o : Option (List LossD)) (q : Value) (w' : World) : Prop where
  ex : ∃ (V' : World) (r : Sl), Sub V V' ∧ Rel W V [] V' w' ∧ (match o with
    | none => q = .tuple #[.slice none 0 0, faultV 6 (-1)]
    | some l => q = .tuple #[r.v, faultV 0 0] ∧ SlF lossC V' r l)
section
variable {V W : World}
end
end Go.Proofs.YtkfcdjomkcmkeaaGreatDoor
