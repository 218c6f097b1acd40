/-
  What the converters use of packages bytes and slices.
-/
import Derived.Test.YtjfcpnlacodjjaaWirA
namespace Go.Proofs.Ytjfcpnlacodjjaa
open Go Go.RowKit

section
variable {V W : World}
theorem equal_bytes (hV : Sub V W) {x y : Sl} {a b : List UInt8} (hx : Byt V x a) (hy : Byt V y b) : Ret Try.prog 66 [x.v, y.v].toArray W fun v w' => v = .bool (decide (a = b)) ∧ Rel W V [] V w' := by
  have H := Rel.start hV
  have h1 := hx.len
  have h2 := hy.len
  have hcx : Cells W x.a (a.map bv) := byC_map a ▸ (hx.up hV).cells
  have hcy : Cells W y.a (b.map bv) := byC_map b ▸ (hy.up hV).cells
  refine cal_of_vc tabOk Try.func66 rfl (by kernel_rfl) 10 rfl (by simp) [0, 1, 4] ?_
  (first | (refine H.wg ?_; clear H; intros; rename_i w H; constructor) | refine wk ?_)
  exact H
theorem hasPrefix_spec (hV : Sub V W) {x y : Sl} {a b : List UInt8} (hx : Byt V x a) (hy : Byt V y b) : Ret Try.prog 125 [x.v, y.v].toArray W fun v w' => v = .bool (decide (a.take b.length = b)) ∧ Rel W V [] V w' := by
  have H := Rel.start hV
  have h1 := hx.len
  have h2 := hy.len
  have hc := hx.cap
  refine cal_of_vc tabOk Try.func125 rfl (by kernel_rfl) 18 rfl (by simp) [0, 1, 4] ?_
  by_cases hl : b.length ≤ a.length
  · have hsub := hx.sub (n := 1) (fun _ => rfl) (a := 0) (b := y.len) (by omega) (by omega)
    rw [List.drop_zero] at hsub
    (first | (refine H.wg ?_; clear H; intros; rename_i w H; constructor) | refine wk ?_)
    refine (equal_bytes H.data hsub hy).use ?_
    rintro v w ⟨rfl, K⟩
    (have hKb := K.base; replace H := Rel.call H K)
    (first | (refine H.wg ?_; clear H; intros; rename_i w H; constructor) | refine wk ?_)
    exact ⟨by rw [h2], H.sx⟩
  · (first | (refine H.wg ?_; clear H; intros; rename_i w H; constructor) | refine wk ?_)
    refine ⟨?_, H.sx⟩
    rw [decide_eq_false]
    intro h
    have := congrArg List.length h
    simp at this
    omega
theorem cutPrefix_spec (hV : Sub V W) {x y : Sl} {a b : List UInt8} (hx : Byt V x a) (hy : Byt V y b) : Ret Try.prog 109 [x.v, y.v].toArray W fun v w' => (∃ r : Sl, v = .tuple #[r.v, .bool (decide (a.take b.length = b))] ∧ (a.take b.length = b → Byt V r (a.drop b.length))) ∧ Rel W V [] V w' := by
  have H := Rel.start hV
  have h1 := hx.len
  have h2 := hy.len
  have hc := hx.cap
  refine cal_of_vc tabOk Try.func109 rfl (by kernel_rfl) 15 rfl (by simp) [0, 1, 4, 5, 9] ?_
  (first | (refine H.wg ?_; clear H; intros; rename_i w H; constructor) | refine wk ?_)
  refine (hasPrefix_spec H.data hx hy).use ?_
  rintro v w ⟨rfl, K⟩
  (have hKb := K.base; replace H := H.call0 K)
  by_cases hp : a.take b.length = b
  · have hl : b.length ≤ a.length := by
      have := congrArg List.length hp
      simp at this
      omega
    have hsub := hx.sub (n := 1) (fun _ => rfl) (a := y.len) (b := x.len) (by omega) (by omega)
    rw [h1, List.take_length] at hsub
    rw [decide_eq_true hp]
    (first | (refine H.wg ?_; clear H; intros; rename_i w H; constructor) | refine wk ?_)
    refine ⟨⟨⟨subA x.a y.len x.cap 1, x.len - y.len, x.cap - y.len⟩, rfl, fun _ => ?_⟩, H.sx⟩
    rw [h1]
    rw [h2] at hsub ⊢
    exact hsub
  · rw [decide_eq_false hp]
    (first | (refine H.wg ?_; clear H; intros; rename_i w H; constructor) | refine wk ?_)
    exact ⟨⟨x, rfl, fun h => absurd h hp⟩, H.sx⟩
theorem equal_strs (hV : Sub V W) {x y : Sl} {a b : List (List UInt8)} (hx : SlF strC V x a) (hy : SlF strC V y b) (ha : a.length ≤ 1099511627776) : Ret Try.prog 103 [x.v, y.v].toArray W fun v w' => v = .bool (decide (a = b)) ∧ Rel W V [] V w' := by
  have H := Rel.start hV
  have h1 := hx.len
  have h2 := hy.len
  refine cal_of_vc tabOk Try.func103 rfl (by kernel_rfl) 26 rfl (by simp) [0, 1, 4, 5, 10, 12, 13, 14, 24] ?_
  by_cases hl : a.length = b.length
  rotate_left
  · (first | (refine H.wg ?_; clear H; intros; rename_i w H; constructor) | refine wk ?_)
    rw [decide_eq_false (fun h => hl (by rw [h]))]
    exact ⟨rfl, H⟩
  (first | (refine H.wg ?_; clear H; intros; rename_i w H; constructor) | refine wk ?_)
  refine loop_inv (S := Nat) tabOk [0, 1, 10, 12] (fun k => [(13, iv k)]) (fun k w' => k ≤ a.length ∧ a.take k = b.take k ∧ Rel W V [] V w') (fun k _ => a.length - k) 0 ?_
  (conv => whnf)
  refine ⟨(by repeat (first | exact trivial | refine ⟨rfl, ?_⟩)), ⟨by omega, rfl, H⟩, ?_⟩
  clear H
  rintro k w ⟨hk, hz, H⟩
  by_cases hka : k < a.length
  rotate_left
  · rw [List.take_of_length_le (by omega), List.take_of_length_le (by omega)] at hz
    (first | (refine H.wg ?_; clear H; intros; rename_i w H; constructor) | refine wk ?_)
    rw [decide_eq_true hz]
    exact ⟨rfl, H⟩
  have hkb : k < b.length := by omega
  obtain ⟨hp, hc⟩ := hx.get1 (g := str) (fun _ => rfl) hka
  obtain ⟨hp', hc'⟩ := hy.get1 (g := str) (fun _ => rfl) hkb
  (first | (refine H.wg ?_; clear H; intros; rename_i w H; constructor) | refine wk ?_)
  ((first | refine draw_vc (id := 6) tabOk mixed [] [0, 1, 2, 3, 4, 5, 6, 7, 8] (by kernel_rfl) ?_); intro w hdw; replace H := Rel.ext H hdw.ext)
  (first | (refine H.wg ?_; clear H; intros; rename_i w H; constructor) | refine wk ?_)
  refine condG_ndec (fun h5 => ?_) (fun h5 => ?_)
  · (first | (refine H.wg ?_; clear H; intros; rename_i w H; constructor) | refine wk ?_)
    rw [decide_eq_false]
    · exact ⟨rfl, H.sx⟩
    · intro e
      subst e
      exact h5 rfl
  · (first | (refine H.wg ?_; clear H; intros; rename_i w H; constructor) | refine wk ?_)
    refine ⟨(by repeat (first | exact trivial | refine ⟨rfl, ?_⟩)), k + 1, (by repeat (first | exact trivial | refine ⟨rfl, ?_⟩)), ⟨by omega, ?_, H.sx⟩, by omega⟩
    rw [List.take_succ_eq_append_getElem hka, List.take_succ_eq_append_getElem hkb, hz, h5]
end
end Go.Proofs.Ytjfcpnlacodjjaa
