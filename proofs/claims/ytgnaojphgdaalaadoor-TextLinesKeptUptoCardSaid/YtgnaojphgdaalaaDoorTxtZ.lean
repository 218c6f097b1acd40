/-
  Text files: the example that every law begins with.
-/
import Derived.Test.YtgnaojphgdaalaaDoorTxtM
import Derived.Test.YtgnaojphgdaalaaDoorTxtL
import Derived.Test.YtgnaojphgdaalaaDoorCnvR
namespace Go.Proofs.YtgnaojphgdaalaaDoor
open Go Go.RowKit

abbrev exA : List UInt8 := [65, 13, 10, 66]
theorem exA_to : txtTo exA = some (txtVal [65, 10, 66], [0, 2, 2, 2]) := by kernel_rfl
theorem exB_to : txtTo [65, 13] = some (txtVal [65, 10], [0, 2, 4, 2]) := by kernel_rfl
theorem exB_mk : txtMake (txtVal [65, 10]) [0, 2, 4, 2] = some [65, 13] := txt_round (by decide) exB_to
theorem exC_out : txtOut [65] [0, 2, 4, 2] = none := by kernel_rfl
theorem exC_mk : txtMake (txtVal [65]) [0, 2, 4, 2] = none := by
  unfold txtMake
  rw [show txtShape (txtVal [65]) = some [65] from rfl]
  simp only
  rw [exC_out]
section
variable {V W : World}
set_option maxRecDepth 100000 in
set_option maxHeartbeats 2000000 in
theorem example_txt (hV : Sub V W) (hT : Lib.Utf8Tabs 0 1 V) : Ret Tryd.prog 9 [].toArray W fun q w' => q = .bool true ∧ ∃ V', Sub V V' ∧ Rel W V [] V' w' := by
  have H := Rel.start hV
  refine cal_of_vc tabOk Tryd.func9 rfl (by kernel_rfl) 59 rfl (by simp) [0, 1, 2, 3, 4, 5, 7] ?_
  (first | (refine H.wh ?_; clear H; intros; rename_i w H; constructor) | refine wk ?_)
  ((first | refine Rel.nwD H ?_ | refine Rel.nw H ?_); clear H; intro w b9 H)
  replace H := H.blkEq (c' := exA.flatMap byC) rfl
  obtain ⟨V2, hV2, H, hb9⟩ := H.freezeBlk
  have hx : Byt V2 ⟨some ⟨b9, 0, none⟩, 4, 4⟩ exA := ⟨rfl, Nat.le_refl _, hb9.cells⟩
  (first | (refine H.wg ?_; clear H; intros; rename_i w H; constructor) | refine wk ?_)
  refine (to_txt H.data (tabs_up hT hV2) hx (by decide)).use ?_
  rintro q w ⟨V3, h, r, hV3, K, rfl, hv, hr⟩
  (have hKb := K.base; replace H := H.call0 K)
  have e : toRes (txtTo exA) exA.length = ⟨txtVal [65, 10, 66], [0, 2, 2, 2], 0, 0⟩ := by unfold toRes; rw [if_neg (by decide), exA_to]
  rw [e] at hv hr ⊢
  have hvb := hv.bytes
  dsimp only at hv hr hvb ⊢
  (first | (refine H.wh ?_; clear H; intros; rename_i w H; constructor) | refine wk ?_)
  ((first | refine Rel.nwD H ?_ | refine Rel.nw H ?_); clear H; intro w b1 H)
  (first | (refine H.wh ?_; clear H; intros; rename_i w H; constructor) | refine wk ?_)
  ((first | refine Rel.nwD H ?_ | refine Rel.nw H ?_); clear H; intro w b3 H)
  (first | (refine H.wh ?_; clear H; intros; rename_i w H; constructor) | refine wk ?_)
  ((first | refine Rel.nwD H ?_ | refine Rel.nw H ?_); clear H; intro w b15 H)
  replace H := H.blkEq (c' := ([65, 10] : List UInt8).flatMap byC) rfl
  (first | (refine H.wg ?_; clear H; intros; rename_i w H; constructor) | refine wk ?_)
  refine Rel.convBB (b := b15) (l := [65, 10]) rfl rfl H rfl ?_
  clear H
  intro V4 w hV4 hy H
  (first | (refine H.wh ?_; clear H; intros; rename_i w H; constructor) | refine wk ?_)
  ((first | refine Rel.nwD H ?_ | refine Rel.nw H ?_); clear H; intro w b18 H)
  replace H := H.blkEq (c' := ([0, 2, 4, 2] : List UInt8).flatMap byC) rfl
  obtain ⟨V5, hV5, H, hb18⟩ := H.freezeBlk
  have hz : Byt V5 ⟨some ⟨b18, 0, none⟩, 4, 4⟩ [0, 2, 4, 2] := ⟨rfl, Nat.le_refl _, hb18.cells⟩
  have hV25 := (hV3.trans hV4).trans hV5
  (first | (refine H.wg ?_; clear H; intros; rename_i w H; constructor) | refine wk ?_)
  refine (from_txt H.data (tabs_up hT (hV2.trans hV25)) (valAt_byt (hy.up hV5)) (vb_byt (by decide)) hz (by decide)).use ?_
  rintro q w ⟨V6, r6, hV6, K, rfl, hr6⟩
  (have hKb := K.base; replace H := H.call0 K)
  have e : frRes (txtVal [65, 10]) (txtShape (txtVal [65, 10])).isSome (txtMake (txtVal [65, 10]) [0, 2, 4, 2]) = ([65, 13], 0, 0) := by
    rw [exB_mk]
    unfold frRes
    rw [vfault_txt (by decide)]
    rfl
  change Byt V6 r6 (frRes (txtVal [65, 10]) (txtShape (txtVal [65, 10])).isSome (txtMake (txtVal [65, 10]) [0, 2, 4, 2])).1 at hr6
  rw [e] at hr6
  dsimp only at hr6
  have e2 : faultV (frRes (txtVal [65, 10]) (txtShape (txtVal [65, 10])).isSome (txtMake (txtVal [65, 10]) [0, 2, 4, 2])).2.1 (frRes (txtVal [65, 10]) (txtShape (txtVal [65, 10])).isSome (txtMake (txtVal [65, 10]) [0, 2, 4, 2])).2.2 = faultV 0 0 := by rw [e]
  rw [e2]
  (first | (refine H.wh ?_; clear H; intros; rename_i w H; constructor) | refine wk ?_)
  ((first | refine Rel.nwD H ?_ | refine Rel.nw H ?_); clear H; intro w b5 H)
  (first | (refine H.wh ?_; clear H; intros; rename_i w H; constructor) | refine wk ?_)
  ((first | refine Rel.nwD H ?_ | refine Rel.nw H ?_); clear H; intro w b23 H)
  replace H := H.blkEq (c' := ([65] : List UInt8).flatMap byC) rfl
  (first | (refine H.wg ?_; clear H; intros; rename_i w H; constructor) | refine wk ?_)
  refine Rel.convBB (b := b23) (l := [65]) rfl rfl H rfl ?_
  clear H
  intro V7 w hV7 hy7 H
  (first | (refine H.wh ?_; clear H; intros; rename_i w H; constructor) | refine wk ?_)
  ((first | refine Rel.nwD H ?_ | refine Rel.nw H ?_); clear H; intro w b26 H)
  replace H := H.blkEq (c' := ([0, 2, 4, 2] : List UInt8).flatMap byC) rfl
  obtain ⟨V8, hV8, H, hb26⟩ := H.freezeBlk
  have hz8 : Byt V8 ⟨some ⟨b26, 0, none⟩, 4, 4⟩ [0, 2, 4, 2] := ⟨rfl, Nat.le_refl _, hb26.cells⟩
  have hV28 := ((hV25.trans hV6).trans hV7).trans hV8
  (first | (refine H.wg ?_; clear H; intros; rename_i w H; constructor) | refine wk ?_)
  refine (from_txt H.data (tabs_up hT (hV2.trans hV28)) (valAt_byt (hy7.up hV8)) (vb_byt (by decide)) hz8 (by decide)).use ?_
  rintro q w ⟨V9, r9, hV9, K, rfl, hr9⟩
  (have hKb := K.base; replace H := H.call0 K)
  have e : frRes (txtVal [65]) (txtShape (txtVal [65])).isSome (txtMake (txtVal [65]) [0, 2, 4, 2]) = ([], 6, -2) := by
    rw [exC_mk]
    unfold frRes
    rw [vfault_txt (by decide)]
    rfl
  have e2 : faultV (frRes (txtVal [65]) (txtShape (txtVal [65])).isSome (txtMake (txtVal [65]) [0, 2, 4, 2])).2.1 (frRes (txtVal [65]) (txtShape (txtVal [65])).isSome (txtMake (txtVal [65]) [0, 2, 4, 2])).2.2 = faultV 6 (-2) := by rw [e]
  rw [e2]
  (first | (refine H.wh ?_; clear H; intros; rename_i w H; constructor) | refine wk ?_)
  ((first | refine Rel.nwD H ?_ | refine Rel.nw H ?_); clear H; intro w b7 H)
  (first | (refine H.wg ?_; clear H; intros; rename_i w H; constructor) | refine wk ?_)
  ((first | refine draw_vcQ (id := 4) tabOk mixed [26] [0, 1, 2, 3, 4, 5, 6, 7, 8, 9, 10, 11, 12, 13, 14, 15, 16, 17, 18, 19, 20, 21, 22, 23, 24, 25, 26, 27, 28, 29] (by kernel_rfl) ?_); intro w hdw; replace H := Rel.ext H hdw.ext)
  (first | (refine H.wg ?_; clear H; intros; rename_i w H; constructor) | refine wk ?_)
  have hV39 := ((((hV4.trans hV5).trans hV6).trans hV7).trans hV8).trans hV9
  have hV69 := (hV7.trans hV8).trans hV9
  refine ⟨[65, 10, 66], hvb.len, byC_map _ ▸ ((hvb.up hV39).up H.data).cells, ?_⟩
  (first | (refine H.wh ?_; clear H; intros; rename_i w H; constructor) | refine wk ?_)
  ((first | refine Rel.nwD H ?_ | refine Rel.nw H ?_); clear H; intro w b46 H)
  replace H := H.blkEq (c' := ([0, 2, 2, 2] : List UInt8).flatMap byC) rfl
  obtain ⟨V10, hV10, H, hb46⟩ := H.freezeBlk
  have hz10 : Byt V10 ⟨some ⟨b46, 0, none⟩, 4, 4⟩ [0, 2, 2, 2] := ⟨rfl, Nat.le_refl _, hb46.cells⟩
  (first | (refine H.wg ?_; clear H; intros; rename_i w H; constructor) | refine wk ?_)
  refine (bytes_ref H.data ((hr.up hV39).up hV10) hz10).use ?_
  rintro q w ⟨rfl, K⟩
  (have hKb := K.base; replace H := H.call0 K)
  rw [decide_eq_true rfl]
  (first | (refine H.wg ?_; clear H; intros; rename_i w H; constructor) | refine wk ?_)
  refine ⟨[65, 13], hr6.len, byC_map _ ▸ (((hr6.up hV69).up hV10).up H.data).cells, ?_⟩
  (first | (refine H.wg ?_; clear H; intros; rename_i w H; constructor) | refine wk ?_)
  refine (at_ref H.data 6 (-2)).use ?_
  rintro q w ⟨rfl, K⟩
  (have hKb := K.base; replace H := H.call0 K)
  (first | (refine H.wg ?_; clear H; intros; rename_i w H; constructor) | refine wk ?_)
  exact Rel.less H.sx hV2 ((hV3.trans hV39).trans hV10)
end
end Go.Proofs.YtgnaojphgdaalaaDoor
