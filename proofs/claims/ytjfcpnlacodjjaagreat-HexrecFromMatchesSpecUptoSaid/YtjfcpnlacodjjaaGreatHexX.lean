/-
  Files of hexadecimal records: the laws' example.
-/
import Derived.Test.YtjfcpnlacodjjaaGreatHexI
import Derived.Test.YtjfcpnlacodjjaaGreatHexL
import Derived.Test.YtjfcpnlacodjjaaGreatValG
namespace Go.Proofs.YtjfcpnlacodjjaaGreat
open Go Go.RowKit

abbrev exH : List UInt8 := [58, 48, 49, 48, 48, 48, 53, 48, 48, 48, 55, 70, 51, 10, 58, 48, 48, 48, 48, 48, 48, 48, 49, 70, 70, 10]
theorem exH_read : hexRead 0 exH = some ([(5, [7])], [1]) := by kernel_rfl
theorem exH_pre : pre 0 (hexVal [(5, [7])]) = [(hexVal [(5, [7])], 0), (segV (5, [7]), 1), (.mk 1 5 [] [] [], 2), (.mk 2 0 [7] [] [], 2)] := by
  rw [pre_eq]
  simp [pre_eq]
theorem exH_chk : chk 0 (hexVal [(5, [7])]) 0 = .ok 4 := by
  unfold chk
  rw [exH_pre]
  kernel_rfl
theorem exH_v : (vfault (hexVal [(5, [7])])).1 = 0 := by
  unfold vfault
  rw [exH_chk]
  simp only
  rw [enc_len _ exH_chk, exH_pre]
  kernel_rfl
theorem exH_to : hexTo exH = some (hexVal [(5, [7])], []) := by
  have h : hexOne 0 exH = some (hexVal [(5, [7])], []) := by
    unfold hexOne
    rw [exH_read]
    simp only
    rw [if_pos exH_v]
    kernel_rfl
  unfold hexTo
  rw [hexFrom, h]
theorem exH_loss : hexLoss [2, 0] = some [(lsLower, 1)] := by kernel_rfl
theorem hexLoss_len {b : List UInt8} {ls : List LossD} (h : hexLoss b = some ls) : ls.length ≤ 1000000 := by
  unfold hexLoss at h
  split at h
  · cases h
  · cases h
    exact Nat.le_trans (lossHex_len _ _) (by decide)
section
variable {V W : World}
set_option maxRecDepth 100000 in
set_option maxHeartbeats 1000000 in
theorem example_hex (hV : Sub V W) (hM : MaxT V) : Ret Tryz.prog 4 [].toArray W fun q w' => q = .bool true ∧ ∃ V', Sub V V' ∧ Rel W V [] V' w' := by
  have H := Rel.start hV
  refine cal_of_vc tabOk Tryz.func4 rfl (by kernel_rfl) 45 rfl (by simp) [0, 1, 2, 3, 4, 5] ?_
  (first | (refine H.wh ?_; clear H; intros; rename_i w H; constructor) | refine wk ?_)
  ((first | refine Rel.nwD H ?_ | refine Rel.nw H ?_); clear H; intro w b7 H)
  replace H := H.blkEq (c' := exH.flatMap byC) rfl
  (first | (refine H.wg ?_; clear H; intros; rename_i w H; constructor) | refine wk ?_)
  refine Rel.convBB (b := b7) (l := exH) rfl rfl H rfl ?_
  clear H
  intro V2 w hV2 hx H
  (first | (refine H.wg ?_; clear H; intros; rename_i w H; constructor) | refine wk ?_)
  refine (to_hex H.data (hM.up hV2) hx (by decide)).use ?_
  rintro q w ⟨V3, h, r, hV3, K, rfl, hv, hr⟩
  (have hKb := K.base; replace H := H.call0 K)
  have e : toRes (hexTo exH) exH.length = ⟨hexVal [(5, [7])], [], 0, 0⟩ := by unfold toRes; rw [if_neg (by decide), exH_to]
  rw [e] at hv hr ⊢
  dsimp only at hv hr ⊢
  have hrl : r.len = 0 := hr.len
  (first | (refine H.wh ?_; clear H; intros; rename_i w H; constructor) | refine wk ?_)
  ((first | refine Rel.nwD H ?_ | refine Rel.nw H ?_); clear H; intro w b1 H)
  (first | (refine H.wh ?_; clear H; intros; rename_i w H; constructor) | refine wk ?_)
  ((first | refine Rel.nwD H ?_ | refine Rel.nw H ?_); clear H; intro w b3 H)
  (first | (refine H.wh ?_; clear H; intros; rename_i w H; constructor) | refine wk ?_)
  ((first | refine Rel.nwD H ?_ | refine Rel.nw H ?_); clear H; intro w b13 H)
  replace H := H.blkEq (c' := ([2, 0] : List UInt8).flatMap byC) rfl
  obtain ⟨V4, hV4, H, hb13⟩ := H.freezeBlk
  have hy : Byt V4 ⟨some ⟨b13, 0, none⟩, 2, 2⟩ [2, 0] := ⟨rfl, Nat.le_refl _, hb13.cells⟩
  (first | (refine H.wg ?_; clear H; intros; rename_i w H; constructor) | refine wk ?_)
  refine (explain_hex H.data hy (by decide)).use ?_
  rintro q w ⟨V5, r5, hV5, K, hres⟩
  (have hKb := K.base; replace H := H.call0 K)
  rw [exH_loss] at hres
  obtain ⟨rfl, hls⟩ := hres
  (first | (refine H.wh ?_; clear H; intros; rename_i w H; constructor) | refine wk ?_)
  ((first | refine Rel.nwD H ?_ | refine Rel.nw H ?_); clear H; intro w b5 H)
  (first | (refine H.wg ?_; clear H; intros; rename_i w H; constructor) | refine wk ?_)
  ((first | refine draw_vc (id := 3) tabOk mixed [10, 12, 13] [0, 1, 2, 3, 4, 5, 6, 7, 8, 9, 10, 11, 12, 13, 14, 15, 16, 17, 18, 19, 20, 21, 22, 23, 24, 25, 26, 27] (by kernel_rfl) ?_); intro w hdw; replace H := Rel.ext H hdw.ext)
  (first | (refine H.wh ?_; clear H; intros; rename_i w H; constructor) | refine wk ?_)
  ((first | refine Rel.nwD H ?_ | refine Rel.nw H ?_); clear H; intro w b28 H)
  replace H := H.blkEq (c' := ([7] : List UInt8).flatMap byC) rfl
  obtain ⟨V6, hV6, H, hb28⟩ := H.freezeBlk
  have hz : Byt V6 ⟨some ⟨b28, 0, none⟩, 1, 1⟩ [7] := ⟨rfl, Nat.le_refl _, hb28.cells⟩
  (first | (refine H.wh ?_; clear H; intros; rename_i w H; constructor) | refine wk ?_)
  ((first | refine Rel.nwD H ?_ | refine Rel.nw H ?_); clear H; intro w b30 H)
  obtain ⟨V7, hV7, H, hb30⟩ := H.freezeBlk
  have hsg : SegsAt V7 ⟨some ⟨b30, 0, none⟩, 1, 1⟩ [(5, [7])] := ⟨[(5, ⟨some ⟨b28, 0, none⟩, 1, 1⟩)], ⟨rfl, Nat.le_refl _, hb30.cells⟩, ⟨rfl, fun k x y hx hy => by
    match k, hx, hy with
    | 0, hx, hy => cases hx; cases hy; exact ⟨rfl, hz.up hV7⟩
    | k + 1, hx, hy => simp at hx⟩⟩
  (first | (refine H.wg ?_; clear H; intros; rename_i w H; constructor) | refine wk ?_)
  refine (plainHex_ref H.data hsg (by decide)).use ?_
  rintro q w ⟨V8, h7, hV8, K, rfl, hv7⟩
  (have hKb := K.base; replace H := H.call0 K)
  (first | (refine H.wg ?_; clear H; intros; rename_i w H; constructor) | refine wk ?_)
  refine (same_value (SizeOf.sizeOf (hexVal [(5, [7])]) + 1) H.data (Nat.lt_succ_self _) (((((hv.up hV4).up hV5).up hV6).up hV7).up hV8) hv7 (vb_big (vb_hex (S := [(5, [7])]) (by unfold segOk; intro s hs; simp only [List.mem_singleton] at hs; subst hs; decide) (by decide)))).use ?_
  rintro q w ⟨r0, rfl, hsame, K⟩
  (have hKb := K.base; replace H := H.call0 K)
  obtain rfl := hsame.2 rfl
  (first | (refine H.wh ?_; clear H; intros; rename_i w H; constructor) | refine wk ?_)
  ((first | refine Rel.nwD H ?_ | refine Rel.nw H ?_); clear H; intro w b39 H)
  obtain ⟨V9, hV9, H, hb39⟩ := H.freezeBlk
  have hl : SlF lossC V9 ⟨some ⟨b39, 0, none⟩, 1, 1⟩ [(lsLower, 1)] := ⟨rfl, Nat.le_refl _, hb39.cells⟩
  (first | (refine H.wg ?_; clear H; intros; rename_i w H; constructor) | refine wk ?_)
  refine (sameLosses_ref H.data ((((hls.up hV6).up hV7).up hV8).up hV9) hl (by decide)).use ?_
  rintro q w ⟨rfl, K⟩
  (have hKb := K.base; replace H := H.call0 K)
  rw [decide_eq_true rfl]
  (first | (refine H.wg ?_; clear H; intros; rename_i w H; constructor) | refine wk ?_)
  exact Rel.less H.sx hV2 ((((((hV3.trans hV4).trans hV5).trans hV6).trans hV7).trans hV8).trans hV9)
end
end Go.Proofs.YtjfcpnlacodjjaaGreat
