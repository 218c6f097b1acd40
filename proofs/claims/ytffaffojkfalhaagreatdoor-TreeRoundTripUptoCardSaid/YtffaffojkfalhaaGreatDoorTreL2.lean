/-
  tree files: the law round of every converter.
-/
import Derived.Test.YtffaffojkfalhaaGreatDoorTreX
import Derived.Test.YtffaffojkfalhaaGreatDoorVcW
namespace Go.Proofs.YtffaffojkfalhaaGreatDoor
open Go Go.RowKit

/- Same of two values that are alike -/
set_option maxRecDepth 100000 in
set_option maxHeartbeats 2000000 in
theorem law_tree_round {W : World} (hE : NumT W) {s : Sl} {l : List UInt8} (hs0 : By W s l) (hl : l.length ≤ 1048576) : Ret Tryz.prog 5 [s.v].toArray W fun v w' => v = .bool true ∧ Ext W w' := by
  have H := Rel.start (Sub.refl W)
  have hs := hs0.slf
  have hlen := hs.len
  refine cal_of_vc tabOk Tryz.func5 rfl (by kernel_rfl) 41 rfl (by simp) [0, 2, 3, 4, 5, 6, 7, 9, 18] ?_
  (first | (refine H.wg ?_; clear H; intros; rename_i w H; constructor) | refine wk ?_)
  refine (example_tree H.data hE).use ?_
  rintro q w ⟨rfl, V1, hV1, K⟩
  (have hKb := K.base; replace H := H.call0 K)
  (first | (refine H.wg ?_; clear H; intros; rename_i w H; constructor) | refine wk ?_)
  refine (to_tree H.data (hE.up hV1) (hs.up hV1) (by omega)).use ?_
  rintro q w ⟨V2, h, r, hV2, K, rfl, hv, hr⟩
  (have hKb := K.base; replace H := H.call0 K)
  have hV12 := hV1.trans hV2
  have zero : ∀ c i, c ≠ 0 → toRes (treTo l) l.length = ⟨zeroV, [], c, i⟩ → True := fun _ _ _ _ => trivial
  by_cases hbad : ∃ c i, (c : Int) ≠ 0 ∧ toRes (treTo l) l.length = ⟨zeroV, [], c, i⟩
  · obtain ⟨c, i, hc0, e⟩ := hbad
    rw [e] at hv hr ⊢
    dsimp only at hv hr ⊢
    have hrl : r.len = 0 := hr.len
    (first | (refine H.wh ?_; clear H; intros; rename_i w H; constructor) | refine wk ?_)
    ((first | refine Rel.nwD H ?_ | refine Rel.nw H ?_); clear H; intro w b3 H)
    (first | (refine H.wh ?_; clear H; intros; rename_i w H; constructor) | refine wk ?_)
    ((first | refine Rel.nwD H ?_ | refine Rel.nw H ?_); clear H; intro w b5 H)
    (first | (refine H.wg ?_; clear H; intros; rename_i w H; constructor) | refine wk ?_)
    refine (same_value (SizeOf.sizeOf (zeroV : Val) + 1) H.data (Nat.lt_succ_self _) hv (valAt_zero _) (vb_zero _)).use ?_
    rintro q w ⟨r0, rfl, hsame, K⟩
    (have hKb := K.base; replace H := Rel.call H K)
    simp only [List.cons_append, List.nil_append] at H
    obtain rfl := hsame.2 rfl
    (first | (refine H.wg ?_; clear H; intros; rename_i w H; constructor) | refine wk ?_)
    first | exact H.base | exact ⟨rfl, H.base⟩ | exact ⟨by rw [hrl]; rfl, H.base⟩
  by_cases hbig : 1000 < l.length
  · exact absurd ⟨3, -1, by decide, by unfold toRes; rw [if_pos hbig]⟩ hbad
  cases ht : treTo l with
  | none => exact absurd ⟨21, -1, by decide, by unfold toRes; rw [if_neg hbig, ht]⟩ hbad
  | some y =>
    obtain ⟨vv, rr⟩ := y
    have e : toRes (treTo l) l.length = ⟨vv, rr, 0, 0⟩ := by unfold toRes; rw [if_neg hbig, ht]
    rw [e] at hv hr
    rw [← ht, e]
    dsimp only at hv hr ⊢
    obtain ⟨hVB, hvf, hsh, hmk, hrl, _⟩ := tre_valid (by omega) ht
    (first | (refine H.wh ?_; clear H; intros; rename_i w H; constructor) | refine wk ?_)
    ((first | refine Rel.nwD H ?_ | refine Rel.nw H ?_); clear H; intro w b3 H)
    (first | (refine H.wh ?_; clear H; intros; rename_i w H; constructor) | refine wk ?_)
    ((first | refine Rel.nwD H ?_ | refine Rel.nw H ?_); clear H; intro w b5 H)
    (first | (refine H.wg ?_; clear H; intros; rename_i w H; constructor) | refine wk ?_)
    refine (from_tree H.data (hE.up hV12) hv hVB hr (by omega)).use ?_
    rintro q w ⟨V3, r3, hV3, K, rfl, hr3⟩
    (have hKb := K.base; replace H := H.call0 K)
    have e2 : frRes vv (treShape vv).isSome (treMake vv rr) = (l, 0, 0) := by rw [hsh, hmk]; unfold frRes; rw [if_neg (fun h => h hvf)]; rfl
    rw [e2] at hr3 ⊢
    (first | (refine H.wh ?_; clear H; intros; rename_i w H; constructor) | refine wk ?_)
    ((first | refine Rel.nwD H ?_ | refine Rel.nw H ?_); clear H; intro w b7 H)
    (first | (refine H.wg ?_; clear H; intros; rename_i w H; constructor) | refine wk ?_)
    refine (bytes_ref H.data hr3 ((hs.up hV12).up hV3)).use ?_
    rintro q w ⟨rfl, K⟩
    (have hKb := K.base; replace H := Rel.call H K)
    simp only [List.cons_append, List.nil_append] at H
    rw [decide_eq_true rfl]
    (first | (refine H.wg ?_; clear H; intros; rename_i w H; constructor) | refine wk ?_)
    (first | exact H.base | exact ⟨by simp, H.base⟩ | exact ⟨rfl, H.base⟩)
end Go.Proofs.YtffaffojkfalhaaGreatDoor
