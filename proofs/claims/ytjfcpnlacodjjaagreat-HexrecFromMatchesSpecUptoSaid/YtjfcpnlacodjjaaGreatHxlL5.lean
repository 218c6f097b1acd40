/-
  hexrec files: the law from of every converter.
-/
import Derived.Test.YtjfcpnlacodjjaaGreatHexX
import Derived.Test.YtjfcpnlacodjjaaGreatHexQ
import Derived.Test.YtjfcpnlacodjjaaGreatHexO
import Derived.Test.YtjfcpnlacodjjaaGreatValI
import Derived.Test.YtjfcpnlacodjjaaGreatVcW
namespace Go.Proofs.YtjfcpnlacodjjaaGreat
open Go Go.RowKit

/- Same of two values that are alike -/
set_option maxRecDepth 100000 in
set_option maxHeartbeats 2000000 in
theorem law_hex_from {W : World} (hM : MaxT W) {h : VH} {v : Val} {s : Sl} {b : List UInt8} (hv : ValAt W h v) (hB : VB 1048576 v) (hs0 : By W s b) (hl : b.length ≤ 1048576) : Ret Tryz.prog 3 [valV h, s.v].toArray W fun v w' => v = .bool true ∧ Ext W w' := by
  have H := Rel.start (Sub.refl W)
  have hs := hs0.slf
  have hlen := hs.len
  have hv0 := hv
  obtain ⟨k, n, bs, ss, pl⟩ := h
  change Ret Tryz.prog 3 [.agg [iv k, iv n, bs.v, ss.v, pl.v].toArray, s.v].toArray W _
  refine cal_of_vc tabOk Tryz.func3 rfl (by kernel_rfl) 66 rfl (by simp) [0, 1, 2, 4, 5, 6, 7, 8, 9, 11, 22, 33, 49] ?_
  (first | (refine H.wh ?_; clear H; intros; rename_i w H; constructor) | refine wk ?_)
  ((first | refine Rel.nwD H ?_ | refine Rel.nw H ?_); clear H; intro w b2 H)
  (first | (refine H.wg ?_; clear H; intros; rename_i w H; constructor) | refine wk ?_)
  refine (example_hex H.data hM).use ?_
  rintro q w ⟨rfl, V1, hV1, K⟩
  (have hKb := K.base; replace H := H.call0 K)
  (first | (refine H.wg ?_; clear H; intros; rename_i w H; constructor) | refine wk ?_)
  refine (from_hex H.data (hM.up hV1) (hv0.up hV1) hB (hs.up hV1) (by omega)).use ?_
  rintro q w ⟨V2, r, hV2, K, rfl, hr⟩
  (have hKb := K.base; replace H := H.call0 K)
  have hV12 := hV1.trans hV2
  by_cases hvf : (vfault v).1 = 0
  rotate_left
  · have e : frRes v (hexShape v).isSome (hexMake v b) = ([], vfault v) := by unfold frRes; rw [if_pos hvf]
    rw [e] at hr ⊢
    dsimp only at hr ⊢
    have hrl : r.len = 0 := hr.len
    (first | (refine H.wh ?_; clear H; intros; rename_i w H; constructor) | refine wk ?_)
    ((first | refine Rel.nwD H ?_ | refine Rel.nw H ?_); clear H; intro w b6 H)
    (first | (refine H.wg ?_; clear H; intros; rename_i w H; constructor) | refine wk ?_)
    refine (valueFault_ref H.data (hv0.up hV12) hB).use ?_
    rintro q w ⟨rfl, K⟩
    (have hKb := K.base; replace H := H.call0 K)
    (first | (refine H.wh ?_; clear H; intros; rename_i w H; constructor) | refine wk ?_)
    ((first | refine Rel.nwD H ?_ | refine Rel.nw H ?_); clear H; intro w b7 H)
    (first | (refine H.wg ?_; clear H; intros; rename_i w H; constructor) | refine wk ?_)
    first | exact H.base | exact ⟨rfl, H.base⟩ | exact ⟨by rw [hrl]; rfl, H.base⟩
  have hzz := vfault_zz hvf
  cases hsh : (hexShape v).isSome with
  | false =>
    have e : frRes v false (hexMake v b) = ([], 13, 0) := by unfold frRes; rw [if_neg (fun h => h hvf), if_pos rfl]
    rw [hsh, e] at hr
    rw [e]
    have hrl : r.len = 0 := hr.len
    (first | (refine H.wh ?_; clear H; intros; rename_i w H; constructor) | refine wk ?_)
    ((first | refine Rel.nwD H ?_ | refine Rel.nw H ?_); clear H; intro w b6 H)
    (first | (refine H.wg ?_; clear H; intros; rename_i w H; constructor) | refine wk ?_)
    refine (valueFault_ref H.data (hv0.up hV12) hB).use ?_
    rintro q w ⟨rfl, K⟩
    (have hKb := K.base; replace H := H.call0 K)
    rw [hzz]
    (first | (refine H.wh ?_; clear H; intros; rename_i w H; constructor) | refine wk ?_)
    ((first | refine Rel.nwD H ?_ | refine Rel.nw H ?_); clear H; intro w b7 H)
    (first | (refine H.wg ?_; clear H; intros; rename_i w H; constructor) | refine wk ?_)
    refine (hxrShape_ref H.data (hv0.up hV12) hB hvf).use ?_
    rintro q w ⟨rfl, K⟩
    (have hKb := K.base; replace H := H.call0 K)
    rw [hsh]
    (first | (refine H.wg ?_; clear H; intros; rename_i w H; constructor) | refine wk ?_)
    ((first | refine draw_vc (id := 8) tabOk mixed [1] [0, 1, 2, 3, 4, 5, 6, 7, 8] (by kernel_rfl) ?_ | refine draw_vc (id := 11) tabOk mixed [1] [0, 1, 2, 3, 4, 5, 6, 7, 8] (by kernel_rfl) ?_); intro w hdw; replace H := Rel.ext H hdw.ext)
    (first | (refine H.wg ?_; clear H; intros; rename_i w H; constructor) | refine wk ?_)
    refine (at_ref H.data 13 0).use ?_
    rintro q w ⟨rfl, K⟩
    (have hKb := K.base; replace H := Rel.call H K)
    simp only [List.cons_append, List.nil_append] at H
    (first | (refine H.wg ?_; clear H; intros; rename_i w H; constructor) | refine wk ?_)
    first | exact H.base | exact ⟨rfl, H.base⟩ | exact ⟨by rw [hrl]; rfl, H.base⟩
  | true =>
    cases hm : hexMake v b with
    | none =>
      have e : frRes v true none = ([], 6, -2) := by unfold frRes; rw [if_neg (fun h => h hvf)]; rfl
      rw [hsh, hm, e] at hr
      rw [e]
      have hrl : r.len = 0 := hr.len
      (first | (refine H.wh ?_; clear H; intros; rename_i w H; constructor) | refine wk ?_)
      ((first | refine Rel.nwD H ?_ | refine Rel.nw H ?_); clear H; intro w b6 H)
      (first | (refine H.wg ?_; clear H; intros; rename_i w H; constructor) | refine wk ?_)
      refine (valueFault_ref H.data (hv0.up hV12) hB).use ?_
      rintro q w ⟨rfl, K⟩
      (have hKb := K.base; replace H := H.call0 K)
      rw [hzz]
      (first | (refine H.wh ?_; clear H; intros; rename_i w H; constructor) | refine wk ?_)
      ((first | refine Rel.nwD H ?_ | refine Rel.nw H ?_); clear H; intro w b7 H)
      (first | (refine H.wg ?_; clear H; intros; rename_i w H; constructor) | refine wk ?_)
      refine (hxrShape_ref H.data (hv0.up hV12) hB hvf).use ?_
      rintro q w ⟨rfl, K⟩
      (have hKb := K.base; replace H := H.call0 K)
      rw [hsh]
      (first | (refine H.wg ?_; clear H; intros; rename_i w H; constructor) | refine wk ?_)
      refine (hxrFile_g H.data (hv0.up hV12) hB hvf hsh (hs.up hV12) (by omega)).use ?_
      rintro q w ⟨V3, r3, b3, k3, hV3, K, rfl, hr3, hk3⟩
      (have hKb := K.base; replace H := H.call0 K)
      rw [hm] at hk3
      dsimp only at hk3
      subst hk3
      (first | (refine H.wg ?_; clear H; intros; rename_i w H; constructor) | refine wk ?_)
      ((first | refine draw_vc (id := 8) tabOk mixed [1] [0, 1, 2, 3, 4, 5, 6, 7, 8] (by kernel_rfl) ?_ | refine draw_vc (id := 11) tabOk mixed [1] [0, 1, 2, 3, 4, 5, 6, 7, 8] (by kernel_rfl) ?_); intro w hdw; replace H := Rel.ext H hdw.ext)
      (first | (refine H.wg ?_; clear H; intros; rename_i w H; constructor) | refine wk ?_)
      refine (at_ref H.data 6 (-2)).use ?_
      rintro q w ⟨rfl, K⟩
      (have hKb := K.base; replace H := Rel.call H K)
      simp only [List.cons_append, List.nil_append] at H
      (first | (refine H.wg ?_; clear H; intros; rename_i w H; constructor) | refine wk ?_)
      first | exact H.base | exact ⟨rfl, H.base⟩ | exact ⟨by rw [hrl]; rfl, H.base⟩
    | some o =>
      have e : frRes v true (some o) = (o, 0, 0) := by unfold frRes; rw [if_neg (fun h => h hvf)]; rfl
      rw [hsh, hm, e] at hr
      rw [e]
      (first | (refine H.wh ?_; clear H; intros; rename_i w H; constructor) | refine wk ?_)
      ((first | refine Rel.nwD H ?_ | refine Rel.nw H ?_); clear H; intro w b6 H)
      (first | (refine H.wg ?_; clear H; intros; rename_i w H; constructor) | refine wk ?_)
      refine (valueFault_ref H.data (hv0.up hV12) hB).use ?_
      rintro q w ⟨rfl, K⟩
      (have hKb := K.base; replace H := H.call0 K)
      rw [hzz]
      (first | (refine H.wh ?_; clear H; intros; rename_i w H; constructor) | refine wk ?_)
      ((first | refine Rel.nwD H ?_ | refine Rel.nw H ?_); clear H; intro w b7 H)
      (first | (refine H.wg ?_; clear H; intros; rename_i w H; constructor) | refine wk ?_)
      refine (hxrShape_ref H.data (hv0.up hV12) hB hvf).use ?_
      rintro q w ⟨rfl, K⟩
      (have hKb := K.base; replace H := H.call0 K)
      rw [hsh]
      (first | (refine H.wg ?_; clear H; intros; rename_i w H; constructor) | refine wk ?_)
      refine (hxrFile_g H.data (hv0.up hV12) hB hvf hsh (hs.up hV12) (by omega)).use ?_
      rintro q w ⟨V3, r3, b3, k3, hV3, K, rfl, hr3, hk3⟩
      (have hKb := K.base; replace H := H.call0 K)
      rw [hm] at hk3
      obtain ⟨rfl, rfl⟩ := hk3
      (first | (refine H.wg ?_; clear H; intros; rename_i w H; constructor) | refine wk ?_)
      refine (bytes_ref H.data (hr.up hV3) hr3).use ?_
      rintro q w ⟨rfl, K⟩
      (have hKb := K.base; replace H := Rel.call H K)
      simp only [List.cons_append, List.nil_append] at H
      rw [decide_eq_true rfl]
      (first | (refine H.wg ?_; clear H; intros; rename_i w H; constructor) | refine wk ?_)
      (first | exact H.base | exact ⟨by simp, H.base⟩ | exact ⟨rfl, H.base⟩)
end Go.Proofs.YtjfcpnlacodjjaaGreat
