/-
  What the converters use of packages bytes and slices.
-/
import Derived.Test.YtjfcpnlacodjjaaGreatWirA
namespace Go.Proofs.YtjfcpnlacodjjaaGreat
open Go Go.RowKit

section
variable {V W : World}
theorem equal_bytes (hV : Sub V W) {x y : Sl} {a b : List UInt8} (hx : Byt V x a) (hy : Byt V y b) : Ret Tryz.prog 21 [x.v, y.v].toArray W fun v w' => v = .bool (decide (a = b)) ∧ Rel W V [] V w' := by
  have H := Rel.start hV
  have h1 := hx.len
  have h2 := hy.len
  have hcx : Cells W x.a (a.map bv) := byC_map a ▸ (hx.up hV).cells
  have hcy : Cells W y.a (b.map bv) := byC_map b ▸ (hy.up hV).cells
  refine cal_of_vc tabOk Tryz.func21 rfl (by kernel_rfl) 10 rfl (by simp) [0, 1, 4] ?_
  (first | (refine H.wg ?_; clear H; intros; rename_i w H; constructor) | refine wk ?_)
  exact H
theorem equal_strs (hV : Sub V W) {x y : Sl} {a b : List (List UInt8)} (hx : SlF strC V x a) (hy : SlF strC V y b) (ha : a.length ≤ 1099511627776) : Ret Tryz.prog 39 [x.v, y.v].toArray W fun v w' => v = .bool (decide (a = b)) ∧ Rel W V [] V w' := by
  have H := Rel.start hV
  have h1 := hx.len
  have h2 := hy.len
  refine cal_of_vc tabOk Tryz.func39 rfl (by kernel_rfl) 26 rfl (by simp) [0, 1, 4, 5, 10, 12, 13, 14, 24] ?_
  by_cases hl : a.length = b.length
  rotate_left
  · (first | (refine H.wg ?_; clear H; intros; rename_i w H; constructor) | refine wk ?_)
    rw [decide_eq_false (fun h => hl (by rw [h]))]
    exact ⟨rfl, H⟩
  (first | (refine H.wg ?_; clear H; intros; rename_i w H; constructor) | refine wk ?_)
  refine loop_inv (S := Nat) tabOk [0, 1, 10, 12] (fun k => [(13, iv k)]) (fun k w' => k ≤ a.length ∧ a.take k = b.take k ∧ Rel W V [] V w') (fun k _ => a.length - k) 0 ?_
  (conv => whnf)
  refine ⟨(by repeat (first | exact trivial | refine ⟨rfl, ?_⟩)), ⟨by omega, rfl, H⟩, ?_⟩
  clear H
  rintro k w ⟨hk, hz, H⟩
  by_cases hka : k < a.length
  rotate_left
  · rw [List.take_of_length_le (by omega), List.take_of_length_le (by omega)] at hz
    (first | (refine H.wg ?_; clear H; intros; rename_i w H; constructor) | refine wk ?_)
    rw [decide_eq_true hz]
    exact ⟨rfl, H⟩
  have hkb : k < b.length := by omega
  obtain ⟨hp, hc⟩ := hx.get1 (g := str) (fun _ => rfl) hka
  obtain ⟨hp', hc'⟩ := hy.get1 (g := str) (fun _ => rfl) hkb
  (first | (refine H.wg ?_; clear H; intros; rename_i w H; constructor) | refine wk ?_)
  ((first | refine draw_vc (id := 6) tabOk mixed [] [0, 1, 2, 3, 4, 5, 6, 7, 8] (by kernel_rfl) ?_); intro w hdw; replace H := Rel.ext H hdw.ext)
  (first | (refine H.wg ?_; clear H; intros; rename_i w H; constructor) | refine wk ?_)
  refine condG_ndec (fun h5 => ?_) (fun h5 => ?_)
  · (first | (refine H.wg ?_; clear H; intros; rename_i w H; constructor) | refine wk ?_)
    rw [decide_eq_false]
    · exact ⟨rfl, H.sx⟩
    · intro e
      subst e
      exact h5 rfl
  · (first | (refine H.wg ?_; clear H; intros; rename_i w H; constructor) | refine wk ?_)
    refine ⟨(by repeat (first | exact trivial | refine ⟨rfl, ?_⟩)), k + 1, (by repeat (first | exact trivial | refine ⟨rfl, ?_⟩)), ⟨by omega, ?_, H.sx⟩, by omega⟩
    rw [List.take_succ_eq_append_getElem hka, List.take_succ_eq_append_getElem hkb, hz, h5]
end
end Go.Proofs.YtjfcpnlacodjjaaGreat
