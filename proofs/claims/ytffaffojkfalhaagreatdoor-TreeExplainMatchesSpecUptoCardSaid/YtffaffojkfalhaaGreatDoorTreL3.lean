/-
  tree files: the law explain of every converter.
-/
import Derived.Test.YtffaffojkfalhaaGreatDoorTreX
import Derived.Test.YtffaffojkfalhaaGreatDoorTreW
import Derived.Test.YtffaffojkfalhaaGreatDoorVcW
namespace Go.Proofs.YtffaffojkfalhaaGreatDoor
open Go Go.RowKit

/- Same of two values that are alike -/
set_option maxRecDepth 100000 in
set_option maxHeartbeats 2000000 in
theorem law_tree_explain {W : World} (hE : NumT W) {s : Sl} {b : List UInt8} (hs0 : By W s b) (hl : b.length ≤ 1048576) : Ret Tryz.prog 7 [s.v].toArray W fun v w' => v = .bool true ∧ Ext W w' := by
  have H := Rel.start (Sub.refl W)
  have hs := hs0.slf
  have hlen := hs.len
  refine cal_of_vc tabOk Tryz.func7 rfl (by kernel_rfl) 32 rfl (by simp) [0, 2, 3, 4, 6, 14] ?_
  (first | (refine H.wg ?_; clear H; intros; rename_i w H; constructor) | refine wk ?_)
  refine (example_tree H.data hE).use ?_
  rintro q w ⟨rfl, V1, hV1, K⟩
  (have hKb := K.base; replace H := H.call0 K)
  (first | (refine H.wg ?_; clear H; intros; rename_i w H; constructor) | refine wk ?_)
  refine (explain_tree H.data (hs.up hV1) (by omega)).use ?_
  rintro q w ⟨V2, r, hV2, K, hres⟩
  (have hKb := K.base; replace H := H.call0 K)
  have hV12 := hV1.trans hV2
  cases hls : treLoss b with
  | none =>
    rw [hls] at hres
    dsimp only at hres
    subst hres
    have hrl : (0 : Nat) = 0 := rfl
    (first | (refine H.wh ?_; clear H; intros; rename_i w H; constructor) | refine wk ?_)
    ((first | refine Rel.nwD H ?_ | refine Rel.nw H ?_); clear H; intro w b4 H)
    (first | (refine H.wg ?_; clear H; intros; rename_i w H; constructor) | refine wk ?_)
    refine (trrGood_g H.data (hs.up hV12) (by omega)).use ?_
    rintro q w ⟨rfl, K⟩
    (have hKb := K.base; replace H := H.call0 K)
    rw [hls]
    (first | (refine H.wg ?_; clear H; intros; rename_i w H; constructor) | refine wk ?_)
    ((first | refine draw_vc (id := 5) tabOk mixed [1] [0, 1, 2, 3, 4, 5, 6, 7, 8] (by kernel_rfl) ?_); intro w hdw; replace H := Rel.ext H hdw.ext)
    (first | (refine H.wg ?_; clear H; intros; rename_i w H; constructor) | refine wk ?_)
    refine (at_ref H.data 6 (-1)).use ?_
    rintro q w ⟨rfl, K⟩
    (have hKb := K.base; replace H := Rel.call H K)
    simp only [List.cons_append, List.nil_append] at H
    (first | (refine H.wg ?_; clear H; intros; rename_i w H; constructor) | refine wk ?_)
    first | exact H.base | exact ⟨rfl, H.base⟩ | exact ⟨by rw [hrl]; rfl, H.base⟩
  | some ls =>
    rw [hls] at hres
    obtain ⟨rfl, hrs⟩ := hres
    (first | (refine H.wh ?_; clear H; intros; rename_i w H; constructor) | refine wk ?_)
    ((first | refine Rel.nwD H ?_ | refine Rel.nw H ?_); clear H; intro w b4 H)
    (first | (refine H.wg ?_; clear H; intros; rename_i w H; constructor) | refine wk ?_)
    refine (trrGood_g H.data (hs.up hV12) (by omega)).use ?_
    rintro q w ⟨rfl, K⟩
    (have hKb := K.base; replace H := H.call0 K)
    rw [hls]
    (first | (refine H.wg ?_; clear H; intros; rename_i w H; constructor) | refine wk ?_)
    refine (trrLosses_ref H.data (hs.up hV12) (by omega) hls).use ?_
    rintro q w ⟨V3, r3, hV3, K, rfl, hr3⟩
    (have hKb := K.base; replace H := H.call0 K)
    (first | (refine H.wg ?_; clear H; intros; rename_i w H; constructor) | refine wk ?_)
    refine (sameLosses_ref H.data (hrs.up hV3) hr3 (treLoss_len hls)).use ?_
    rintro q w ⟨rfl, K⟩
    (have hKb := K.base; replace H := H.call0 K)
    rw [decide_eq_true rfl]
    (first | (refine H.wg ?_; clear H; intros; rename_i w H; constructor) | refine wk ?_)
    (first | exact H.base | exact ⟨by simp, H.base⟩ | exact ⟨rfl, H.base⟩)
end Go.Proofs.YtffaffojkfalhaaGreatDoor
