/-
  What the converters use of packages bytes and slices.
-/
import Derived.Test.YtkfcdjomkcmkeaaGreatDoorWirA
namespace Go.Proofs.YtkfcdjomkcmkeaaGreatDoor
open Go Go.RowKit

section
variable {V W : World}
theorem equal_bytes (hV : Sub V W) {x y : Sl} {a b : List UInt8} (hx : Byt V x a) (hy : Byt V y b) : Ret Tryz.prog 28 [x.v, y.v].toArray W fun v w' => v = .bool (decide (a = b)) ∧ Rel W V [] V w' := by
  have H := Rel.start hV
  have h1 := hx.len
  have h2 := hy.len
  have hcx : Cells W x.a (a.map bv) := byC_map a ▸ (hx.up hV).cells
  have hcy : Cells W y.a (b.map bv) := byC_map b ▸ (hy.up hV).cells
  refine cal_of_vc tabOk Tryz.func28 rfl (by kernel_rfl) 10 rfl (by simp) [0, 1, 4] ?_
  (first | (refine H.wg ?_; clear H; intros; rename_i w H; constructor) | refine wk ?_)
  exact H
theorem hasPrefix_spec (hV : Sub V W) {x y : Sl} {a b : List UInt8} (hx : Byt V x a) (hy : Byt V y b) : Ret Tryz.prog 75 [x.v, y.v].toArray W fun v w' => v = .bool (decide (a.take b.length = b)) ∧ Rel W V [] V w' := by
  have H := Rel.start hV
  have h1 := hx.len
  have h2 := hy.len
  have hc := hx.cap
  refine cal_of_vc tabOk Tryz.func75 rfl (by kernel_rfl) 18 rfl (by simp) [0, 1, 4] ?_
  by_cases hl : b.length ≤ a.length
  · have hsub := hx.sub (n := 1) (fun _ => rfl) (a := 0) (b := y.len) (by omega) (by omega)
    rw [List.drop_zero] at hsub
    (first | (refine H.wg ?_; clear H; intros; rename_i w H; constructor) | refine wk ?_)
    refine (equal_bytes H.data hsub hy).use ?_
    rintro v w ⟨rfl, K⟩
    (have hKb := K.base; replace H := Rel.call H K)
    (first | (refine H.wg ?_; clear H; intros; rename_i w H; constructor) | refine wk ?_)
    exact ⟨by rw [h2], H.sx⟩
  · (first | (refine H.wg ?_; clear H; intros; rename_i w H; constructor) | refine wk ?_)
    refine ⟨?_, H.sx⟩
    rw [decide_eq_false]
    intro h
    have := congrArg List.length h
    simp at this
    omega
theorem cutPrefix_spec (hV : Sub V W) {x y : Sl} {a b : List UInt8} (hx : Byt V x a) (hy : Byt V y b) : Ret Tryz.prog 61 [x.v, y.v].toArray W fun v w' => (∃ r : Sl, v = .tuple #[r.v, .bool (decide (a.take b.length = b))] ∧ (a.take b.length = b → Byt V r (a.drop b.length))) ∧ Rel W V [] V w' := by
  have H := Rel.start hV
  have h1 := hx.len
  have h2 := hy.len
  have hc := hx.cap
  refine cal_of_vc tabOk Tryz.func61 rfl (by kernel_rfl) 15 rfl (by simp) [0, 1, 4, 5, 9] ?_
  (first | (refine H.wg ?_; clear H; intros; rename_i w H; constructor) | refine wk ?_)
  refine (hasPrefix_spec H.data hx hy).use ?_
  rintro v w ⟨rfl, K⟩
  (have hKb := K.base; replace H := H.call0 K)
  by_cases hp : a.take b.length = b
  · have hl : b.length ≤ a.length := by
      have := congrArg List.length hp
      simp at this
      omega
    have hsub := hx.sub (n := 1) (fun _ => rfl) (a := y.len) (b := x.len) (by omega) (by omega)
    rw [h1, List.take_length] at hsub
    rw [decide_eq_true hp]
    (first | (refine H.wg ?_; clear H; intros; rename_i w H; constructor) | refine wk ?_)
    refine ⟨⟨⟨subA x.a y.len x.cap 1, x.len - y.len, x.cap - y.len⟩, rfl, fun _ => ?_⟩, H.sx⟩
    rw [h1]
    rw [h2] at hsub ⊢
    exact hsub
  · rw [decide_eq_false hp]
    (first | (refine H.wg ?_; clear H; intros; rename_i w H; constructor) | refine wk ?_)
    exact ⟨⟨x, rfl, fun h => absurd h hp⟩, H.sx⟩
theorem clone_b (hV : Sub V W) {s : Sl} {l : List UInt8} (hs : Byt V s l) (hl : l.length ≤ 1000000000) : Ret Tryz.prog 74 [s.v].toArray W fun v w' => ∃ r : Sl, v = r.v ∧ Rel W V [.row r 5 1 (l.flatMap byC)] V w' := by
  have H := Rel.start hV
  have hlen := hs.len
  refine cal_of_vc tabOk Tryz.func74 rfl (by kernel_rfl) 8 rfl (by simp) [0, 2, 4] ?_
  rcases s with ⟨_ | p, n, c⟩
  · have hl0 : l = [] := by
      rcases l with _ | ⟨b, l⟩
      · rfl
      · have := hs.cells.1 (by simp [byC_map])
        simp [Plain] at this
    subst hl0
    (first | (refine H.wg ?_; clear H; intros; rename_i w H; constructor) | refine wk ?_)
    exact ⟨⟨none, 0, 0⟩, rfl, H.rowNil _ _⟩
  · (first | (refine H.wh ?_; clear H; intros; rename_i w H; constructor) | refine wk ?_)
    ((first | refine Rel.nwD H ?_ | refine Rel.nw H ?_); clear H; intro w b5 H)
    (first | (refine H.wg ?_; clear H; intros; rename_i w H; constructor) | refine wk ?_)
    replace H := H.toRow (n := 0) (e := 5) (sz := 1) rfl (by simp [maxLen])
    refine Rel.appD (s := ⟨some ⟨b5, 0, none⟩, 0, 0⟩) (xs := []) H (i := 0) rfl hs (by simp; omega) ?_
    clear H
    intro r1 w H
    simp only [List.set_cons_zero] at H
    rw [List.nil_append] at H
    (first | (refine H.wg ?_; clear H; intros; rename_i w H; constructor) | refine wk ?_)
    exact ⟨r1, rfl, H⟩
end
end Go.Proofs.YtkfcdjomkcmkeaaGreatDoor
