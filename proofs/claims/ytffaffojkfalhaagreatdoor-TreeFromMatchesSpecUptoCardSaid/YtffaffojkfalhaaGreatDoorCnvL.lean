/-
  What a converter answers.
-/
import Derived.Test.YtffaffojkfalhaaGreatDoorValI
import Derived.Test.YtffaffojkfalhaaGreatDoorCnvR
namespace Go.Proofs.YtffaffojkfalhaaGreatDoor
open Go Go.RowKit

abbrev zeroV : Val := .mk 0 0 [] [] []
abbrev zeroH : VH := ⟨0, 0, ⟨none, 0, 0⟩, ⟨none, 0, 0⟩, ⟨none, 0, 0⟩⟩
theorem valAt_zero (V : World) : ValAt V zeroH zeroV := .mk [] rfl rfl (SlF.nil _ _) (SlF.nil _ _) (SlF.nil _ _) rfl (fun i x p h => by simp at h)
abbrev numH (n : Int) : VH := ⟨1, n, ⟨none, 0, 0⟩, ⟨none, 0, 0⟩, ⟨none, 0, 0⟩⟩
abbrev bytH (s : Sl) : VH := ⟨2, 0, s, ⟨none, 0, 0⟩, ⟨none, 0, 0⟩⟩
theorem valAt_num (V : World) (n : Int) : ValAt V (numH n) (.mk 1 n [] [] []) := .mk [] rfl rfl (SlF.nil _ _) (SlF.nil _ _) (SlF.nil _ _) rfl (fun i x p h => by simp at h)
theorem valAt_byt {V : World} {s : Sl} {b : List UInt8} (h : Byt V s b) : ValAt V (bytH s) (.mk 2 0 b [] []) := .mk [] rfl rfl h (SlF.nil _ _) (SlF.nil _ _) rfl (fun i x p h => by simp at h)
/-- a record of three parts -/
theorem valAt_rec {V : World} {ss pl : Sl} {ns : List (List UInt8)} {hs : List VH} {ps : List Val} (h1 : SlF strC V ss ns) (h2 : SlF valC V pl hs) (h3 : hs.length = ps.length) (h4 : ∀ (i : Nat) x p, hs[i]? = some x → ps[i]? = some p → ValAt V x p) :
    ValAt V ⟨4, 0, ⟨none, 0, 0⟩, ss, pl⟩ (.mk 4 0 [] ns ps) := .mk hs rfl rfl (SlF.nil _ _) h1 h2 h3 h4
theorem i64_c (n : Int) (h : 0 ≤ n ∧ n ≤ 100 := by decide) : I64 n := ⟨by omega, by omega⟩
theorem vb_num {B : Nat} {n : Int} (h : I64 n) : VB B (.mk 1 n [] [] []) := .mk (i64_c 1) h (Nat.zero_le _) (Nat.zero_le _) (by simp) (Nat.zero_le _) (by simp)
theorem vb_byt {B : Nat} {b : List UInt8} (h : b.length ≤ B) : VB B (.mk 2 0 b [] []) := .mk (i64_c 2) (i64_c 0) h (Nat.zero_le _) (by simp) (Nat.zero_le _) (by simp)
theorem vb_zero (B : Nat) : VB B zeroV := .mk (i64_c 0) (i64_c 0) (Nat.zero_le _) (Nat.zero_le _) (by simp) (Nat.zero_le _) (by simp)
theorem vb_big {v : Val} (h : VB 1048576 v) : VB 1099511627776 v := h.mono (by omega)
/-- what To answers: a value, a residue and a fault -/
structure ToRes where
  v : Val
  r : List UInt8
  c : Int
  i : Int
def toRes (o : Option (Val × List UInt8)) (n : Nat) : ToRes := if 1000 < n then ⟨zeroV, [], 3, -1⟩ else match o with
  | none => ⟨zeroV, [], 21, -1⟩
  | some (v, r) => ⟨v, r, 0, 0⟩
structure ToR (W V : World) (x : ToRes) (q : Value) (w' : World) : Prop where
  ex : ∃ (V' : World) (h : VH) (r : Sl), Sub V V' ∧ Rel W V [] V' w' ∧ q = .tuple #[valV h, r.v, faultV x.c x.i] ∧ ValAt V' h x.v ∧ Byt V' r x.r
/-- what the reference answers -/
structure ToG (W V : World) (o : Option (Val × List UInt8)) (q : Value) (w' : World) : Prop where
  ex : ∃ (V' : World) (h : VH) (r : Sl) (v : Val) (b : List UInt8), Sub V V' ∧ Rel W V [] V' w' ∧ ValAt V' h v ∧ Byt V' r b ∧ (match o with
    | none => q = .tuple #[valV h, r.v, .bool false]
    | some x => q = .tuple #[valV h, r.v, .bool true] ∧ x = (v, b))
/-- what From answers -/
def frRes (v : Val) (shape : Bool) (o : Option (List UInt8)) : List UInt8 × Int × Int := if (vfault v).1 ≠ 0 then ([], vfault v) else if shape = false then ([], 13, 0) else match o with
  | none => ([], 6, -2)
  | some b => (b, 0, 0)
structure FrR (W V : World) (x : List UInt8 × Int × Int) (q : Value) (w' : World) : Prop where
  ex : ∃ (V' : World) (r : Sl), Sub V V' ∧ Rel W V [] V' w' ∧ q = .tuple #[r.v, faultV x.2.1 x.2.2] ∧ Byt V' r x.1
/-- what the reference answers -/
structure FrG (W V : World) (o : Option (List UInt8)) (q : Value) (w' : World) : Prop where
  ex : ∃ (V' : World) (r : Sl) (b : List UInt8) (k : Bool), Sub V V' ∧ Rel W V [] V' w' ∧ q = .tuple #[r.v, .bool k] ∧ Byt V' r b ∧ (match o with
    | none => k = false
    | some x => k = true ∧ b = x)
/-! ### losses -/
abbrev LossD := List UInt8 × Int
abbrev lossC (x : LossD) : List Value := [str x.1, iv x.2]
structure ExR (W V : World) (o : Option (List LossD)) (q : Value) (w' : World) : Prop where
  ex : ∃ (V' : World) (r : Sl), Sub V V' ∧ Rel W V [] V' w' ∧ (match o with
    | none => q = .tuple #[.slice none 0 0, faultV 6 (-1)]
    | some l => q = .tuple #[r.v, faultV 0 0] ∧ SlF lossC V' r l)
section
variable {V W : World}
theorem sameLosses_ref (hV : Sub V W) {s t : Sl} {l k : List LossD} (hs : SlF lossC V s l) (ht : SlF lossC V t k) (hl : l.length ≤ 1000000) : Ret Tryz.prog 22 [s.v, t.v].toArray W fun q w' => q = .bool (decide (l = k)) ∧ Rel W V [] V w' := by
  have H := Rel.start hV
  have h1 := hs.len
  have h2 := ht.len
  refine cal_of_vc tabOk Tryz.func22 rfl (by kernel_rfl) 26 rfl (by simp) [0, 1, 4, 5, 10, 14, 25] ?_
  by_cases hll : l.length = k.length
  rotate_left
  · (first | (refine H.wg ?_; clear H; intros; rename_i w H; constructor) | refine wk ?_)
    rw [decide_eq_false (fun h => hll (by rw [h]))]
    exact ⟨rfl, H.sx⟩
  (first | (refine H.wg ?_; clear H; intros; rename_i w H; constructor) | refine wk ?_)
  refine loop_inv (S := Nat) tabOk [0, 1, 10] (fun j => [(5, iv j)]) (fun j w' => j ≤ l.length ∧ l.take j = k.take j ∧ Rel W V [] V w') (fun j _ => l.length - j) 0 ?_
  (conv => whnf)
  refine ⟨(by repeat (first | exact trivial | refine ⟨rfl, ?_⟩)), ⟨by omega, rfl, H.sx⟩, ?_⟩
  clear H
  rintro j w ⟨hj, hz, H⟩
  by_cases hlt : j < l.length
  rotate_left
  · rw [List.take_of_length_le (by omega), List.take_of_length_le (by omega)] at hz
    (first | (refine H.wg ?_; clear H; intros; rename_i w H; constructor) | refine wk ?_)
    rw [decide_eq_true hz]
    exact ⟨rfl, H.sx⟩
  have hlt' : j < k.length := by omega
  obtain ⟨hp, hq1, hq2⟩ := hs.at2 (g := fun x : LossD => str x.1) (g' := fun x : LossD => iv x.2) (fun _ => rfl) hlt
  obtain ⟨hp', hr1, hr2⟩ := ht.at2 (g := fun x : LossD => str x.1) (g' := fun x : LossD => iv x.2) (fun _ => rfl) hlt'
  (first | (refine H.wg ?_; clear H; intros; rename_i w H; constructor) | refine wk ?_)
  ((first | refine draw_vc (id := 6) tabOk mixed [] [0, 1, 2, 3, 4, 5, 6, 7, 8] (by kernel_rfl) ?_); intro w hdw; replace H := Rel.ext H hdw.ext)
  (first | (refine H.wg ?_; clear H; intros; rename_i w H; constructor) | refine wk ?_)
  refine condG_dec (fun h5 => ?_) (fun h5 => ?_)
  · (first | (refine H.wg ?_; clear H; intros; rename_i w H; constructor) | refine wk ?_)
    rw [decide_eq_false]
    · exact ⟨rfl, H.sx⟩
    · intro h
      subst h
      exact h5 ⟨rfl, rfl⟩
  · (first | (refine H.wg ?_; clear H; intros; rename_i w H; constructor) | refine wk ?_)
    refine ⟨(by repeat (first | exact trivial | refine ⟨rfl, ?_⟩)), j + 1, (by repeat (first | exact trivial | refine ⟨rfl, ?_⟩)), ⟨by omega, ?_, H.sx⟩, by omega⟩
    rw [List.take_succ_eq_append_getElem hlt, List.take_succ_eq_append_getElem hlt', hz]
    congr 2
    replace h5 := Decidable.not_not.1 h5
    exact Prod.ext h5.1 h5.2
end
end Go.Proofs.YtffaffojkfalhaaGreatDoor
