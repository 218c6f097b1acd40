/-
  tree files: the law to of every converter.
-/
import Derived.Test.YtffaffojkfalhaaGreatDoorTreX
import Derived.Test.YtffaffojkfalhaaGreatDoorTreV
import Derived.Test.YtffaffojkfalhaaGreatDoorVcW
namespace Go.Proofs.YtffaffojkfalhaaGreatDoor
open Go Go.RowKit

/- Same of two values that are alike -/
set_option maxRecDepth 100000 in
set_option maxHeartbeats 2000000 in
theorem law_tree_to {W : World} (hE : NumT W) {s : Sl} {l : List UInt8} (hs0 : By W s l) (hl : l.length ≤ 1048576) : Ret Tryz.prog 3 [s.v].toArray W fun v w' => v = .bool true ∧ Ext W w' := by
  have H := Rel.start (Sub.refl W)
  have hs := hs0.slf
  have hlen := hs.len
  refine cal_of_vc tabOk Tryz.func3 rfl (by kernel_rfl) 67 rfl (by simp) [0, 2, 3, 4, 5, 6, 7, 8, 10, 19, 40] ?_
  (first | (refine H.wg ?_; clear H; intros; rename_i w H; constructor) | refine wk ?_)
  refine (example_tree H.data hE).use ?_
  rintro q w ⟨rfl, V1, hV1, K⟩
  (have hKb := K.base; replace H := H.call0 K)
  (first | (refine H.wg ?_; clear H; intros; rename_i w H; constructor) | refine wk ?_)
  refine (to_tree H.data (hE.up hV1) (hs.up hV1) (by omega)).use ?_
  rintro q w ⟨V2, h, r, hV2, K, rfl, hv, hr⟩
  (have hKb := K.base; replace H := H.call0 K)
  have hV12 := hV1.trans hV2
  by_cases hbig : 1000 < l.length
  · have e : toRes (treTo l) l.length = ⟨zeroV, [], 3, -1⟩ := by unfold toRes; rw [if_pos hbig]
    rw [e] at hv hr ⊢
    dsimp only at hv hr ⊢
    have hrl : r.len = 0 := hr.len
    (first | (refine H.wh ?_; clear H; intros; rename_i w H; constructor) | refine wk ?_)
    ((first | refine Rel.nwD H ?_ | refine Rel.nw H ?_); clear H; intro w b3 H)
    (first | (refine H.wh ?_; clear H; intros; rename_i w H; constructor) | refine wk ?_)
    ((first | refine Rel.nwD H ?_ | refine Rel.nw H ?_); clear H; intro w b5 H)
    (first | (refine H.wg ?_; clear H; intros; rename_i w H; constructor) | refine wk ?_)
    ((first | refine draw_vc (id := 5) tabOk mixed [1] [0, 1, 2, 3, 4, 5, 6, 7, 8, 9, 10, 11, 12, 13] (by kernel_rfl) ?_ | refine draw_vc (id := 8) tabOk mixed [1] [0, 1, 2, 3, 4, 5, 6, 7, 8, 9, 10, 11, 12, 13] (by kernel_rfl) ?_); intro w hdw; replace H := Rel.ext H hdw.ext)
    (first | (refine H.wg ?_; clear H; intros; rename_i w H; constructor) | refine wk ?_)
    refine (at_ref H.data 3 (-1)).use ?_
    rintro q w ⟨rfl, K⟩
    (have hKb := K.base; replace H := Rel.call H K)
    simp only [List.cons_append, List.nil_append] at H
    (first | (refine H.wg ?_; clear H; intros; rename_i w H; constructor) | refine wk ?_)
    refine (same_value (SizeOf.sizeOf (zeroV : Val) + 1) H.data (Nat.lt_succ_self _) hv (valAt_zero _) (vb_zero _)).use ?_
    rintro q w ⟨r0, rfl, hsame, K⟩
    (have hKb := K.base; replace H := Rel.call H K)
    simp only [List.cons_append, List.nil_append] at H
    obtain rfl := hsame.2 rfl
    (first | (refine H.wg ?_; clear H; intros; rename_i w H; constructor) | refine wk ?_)
    refine ⟨?_, H.base⟩
    rw [hrl]
    rfl
  cases ht : treTo l with
  | none =>
    have e : toRes (treTo l) l.length = ⟨zeroV, [], 21, -1⟩ := by unfold toRes; rw [if_neg hbig, ht]
    rw [e] at hv hr
    rw [← ht, e]
    dsimp only at hv hr ⊢
    have hrl : r.len = 0 := hr.len
    (first | (refine H.wh ?_; clear H; intros; rename_i w H; constructor) | refine wk ?_)
    ((first | refine Rel.nwD H ?_ | refine Rel.nw H ?_); clear H; intro w b3 H)
    (first | (refine H.wh ?_; clear H; intros; rename_i w H; constructor) | refine wk ?_)
    ((first | refine Rel.nwD H ?_ | refine Rel.nw H ?_); clear H; intro w b5 H)
    (first | (refine H.wg ?_; clear H; intros; rename_i w H; constructor) | refine wk ?_)
    refine (trrTo_ref H.data (hs.up hV12) (by omega)).use ?_
    rintro q w ⟨V3, h3, r3, v3, b3', hV3, K, hv3, hr3, hto⟩
    (have hKb := K.base; replace H := H.call0 K)
    rw [ht] at hto
    dsimp only at hto
    subst hto
    (first | (refine H.wh ?_; clear H; intros; rename_i w H; constructor) | refine wk ?_)
    ((first | refine Rel.nwD H ?_ | refine Rel.nw H ?_); clear H; intro w b6 H)
    (first | (refine H.wg ?_; clear H; intros; rename_i w H; constructor) | refine wk ?_)
    ((first | refine draw_vc (id := 5) tabOk mixed [1] [0, 1, 2, 3, 4, 5, 6, 7, 8, 9, 10, 11, 12, 13] (by kernel_rfl) ?_ | refine draw_vc (id := 8) tabOk mixed [1] [0, 1, 2, 3, 4, 5, 6, 7, 8, 9, 10, 11, 12, 13] (by kernel_rfl) ?_); intro w hdw; replace H := Rel.ext H hdw.ext)
    (first | (refine H.wg ?_; clear H; intros; rename_i w H; constructor) | refine wk ?_)
    refine (at_ref H.data 21 (-1)).use ?_
    rintro q w ⟨rfl, K⟩
    (have hKb := K.base; replace H := Rel.call H K)
    simp only [List.cons_append, List.nil_append] at H
    (first | (refine H.wg ?_; clear H; intros; rename_i w H; constructor) | refine wk ?_)
    refine (same_value (SizeOf.sizeOf (zeroV : Val) + 1) H.data (Nat.lt_succ_self _) (hv.up hV3) (valAt_zero _) (vb_zero _)).use ?_
    rintro q w ⟨r0, rfl, hsame, K⟩
    (have hKb := K.base; replace H := Rel.call H K)
    simp only [List.cons_append, List.nil_append] at H
    obtain rfl := hsame.2 rfl
    (first | (refine H.wg ?_; clear H; intros; rename_i w H; constructor) | refine wk ?_)
    refine ⟨?_, H.base⟩
    rw [hrl]
    rfl
  | some y =>
    obtain ⟨vv, rr⟩ := y
    have e : toRes (treTo l) l.length = ⟨vv, rr, 0, 0⟩ := by unfold toRes; rw [if_neg hbig, ht]
    rw [e] at hv hr
    rw [← ht, e]
    dsimp only at hv hr ⊢
    obtain ⟨hVB, _⟩ := tre_valid (by omega) ht
    (first | (refine H.wh ?_; clear H; intros; rename_i w H; constructor) | refine wk ?_)
    ((first | refine Rel.nwD H ?_ | refine Rel.nw H ?_); clear H; intro w b3 H)
    (first | (refine H.wh ?_; clear H; intros; rename_i w H; constructor) | refine wk ?_)
    ((first | refine Rel.nwD H ?_ | refine Rel.nw H ?_); clear H; intro w b5 H)
    (first | (refine H.wg ?_; clear H; intros; rename_i w H; constructor) | refine wk ?_)
    refine (trrTo_ref H.data (hs.up hV12) (by omega)).use ?_
    rintro q w ⟨V3, h3, r3, v3, b3', hV3, K, hv3, hr3, hto⟩
    (have hKb := K.base; replace H := H.call0 K)
    rw [ht] at hto
    obtain ⟨rfl, hto⟩ := hto
    cases hto
    (first | (refine H.wh ?_; clear H; intros; rename_i w H; constructor) | refine wk ?_)
    ((first | refine Rel.nwD H ?_ | refine Rel.nw H ?_); clear H; intro w b6 H)
    (first | (refine H.wg ?_; clear H; intros; rename_i w H; constructor) | refine wk ?_)
    refine (same_value (SizeOf.sizeOf (vv : Val) + 1) H.data (Nat.lt_succ_self _) (hv.up hV3) hv3 (vb_big hVB)).use ?_
    rintro q w ⟨r0, rfl, hsame, K⟩
    (have hKb := K.base; replace H := Rel.call H K)
    simp only [List.cons_append, List.nil_append] at H
    obtain rfl := hsame.2 rfl
    (first | (refine H.wg ?_; clear H; intros; rename_i w H; constructor) | refine wk ?_)
    refine (bytes_ref H.data (hr.up hV3) hr3).use ?_
    rintro q w ⟨rfl, K⟩
    (have hKb := K.base; replace H := Rel.call H K)
    simp only [List.cons_append, List.nil_append] at H
    rw [decide_eq_true rfl]
    (first | (refine H.wg ?_; clear H; intros; rename_i w H; constructor) | refine wk ?_)
    (first | exact H.base | exact ⟨by simp, H.base⟩ | exact ⟨rfl, H.base⟩)
end Go.Proofs.YtffaffojkfalhaaGreatDoor
