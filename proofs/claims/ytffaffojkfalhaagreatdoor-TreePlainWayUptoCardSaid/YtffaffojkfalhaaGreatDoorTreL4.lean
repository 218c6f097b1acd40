/-
  tree files: the law plain of every converter.
-/
import Derived.Test.YtffaffojkfalhaaGreatDoorTreX
import Derived.Test.YtffaffojkfalhaaGreatDoorVcW
namespace Go.Proofs.YtffaffojkfalhaaGreatDoor
open Go Go.RowKit

/- Same of two values that are alike -/
set_option maxRecDepth 100000 in
set_option maxHeartbeats 2000000 in
theorem law_tree_plain {W : World} (hE : NumT W) {s : Sl} {l : List UInt8} (hs0 : By W s l) (hl : l.length ≤ 1048576) : Ret Tryz.prog 8 [s.v].toArray W fun v w' => v = .bool true ∧ Ext W w' := by
  have H := Rel.start (Sub.refl W)
  have hs := hs0.slf
  have hlen := hs.len
  refine cal_of_vc tabOk Tryz.func8 rfl (by kernel_rfl) 83 rfl (by simp) [0, 2, 3, 4, 5, 6, 7, 8, 9, 10, 11, 12, 14, 23, 43, 51] ?_
  (first | (refine H.wg ?_; clear H; intros; rename_i w H; constructor) | refine wk ?_)
  refine (example_tree H.data hE).use ?_
  rintro q w ⟨rfl, V1, hV1, K⟩
  (have hKb := K.base; replace H := H.call0 K)
  (first | (refine H.wg ?_; clear H; intros; rename_i w H; constructor) | refine wk ?_)
  refine (to_tree H.data (hE.up hV1) (hs.up hV1) (by omega)).use ?_
  rintro q w ⟨V2, h, r, hV2, K, rfl, hv, hr⟩
  (have hKb := K.base; replace H := H.call0 K)
  have hV12 := hV1.trans hV2
  by_cases hbad : ∃ c i, (c : Int) ≠ 0 ∧ toRes (treTo l) l.length = ⟨zeroV, [], c, i⟩
  · obtain ⟨c, i, hc0, e⟩ := hbad
    rw [e] at hv hr ⊢
    dsimp only at hv hr ⊢
    have hrl : r.len = 0 := hr.len
    (first | (refine H.wh ?_; clear H; intros; rename_i w H; constructor) | refine wk ?_)
    ((first | refine Rel.nwD H ?_ | refine Rel.nw H ?_); clear H; intro w b3 H)
    (first | (refine H.wh ?_; clear H; intros; rename_i w H; constructor) | refine wk ?_)
    ((first | refine Rel.nwD H ?_ | refine Rel.nw H ?_); clear H; intro w b5 H)
    (first | (refine H.wg ?_; clear H; intros; rename_i w H; constructor) | refine wk ?_)
    first | exact H.base | exact ⟨rfl, H.base⟩ | exact ⟨by rw [hrl]; rfl, H.base⟩
  by_cases hbig : 1000 < l.length
  · exact absurd ⟨3, -1, by decide, by unfold toRes; rw [if_pos hbig]⟩ hbad
  cases ht : treTo l with
  | none => exact absurd ⟨21, -1, by decide, by unfold toRes; rw [if_neg hbig, ht]⟩ hbad
  | some y =>
    obtain ⟨vv, rr⟩ := y
    have e : toRes (treTo l) l.length = ⟨vv, rr, 0, 0⟩ := by unfold toRes; rw [if_neg hbig, ht]
    rw [e] at hv hr
    rw [← ht, e]
    dsimp only at hv hr ⊢
    obtain ⟨hVB, hvf, hsh, hmk, hrl, ls, hls, hls2, hnil⟩ := tre_valid (by omega) ht
    have hrlen := hr.len
    (first | (refine H.wh ?_; clear H; intros; rename_i w H; constructor) | refine wk ?_)
    ((first | refine Rel.nwD H ?_ | refine Rel.nw H ?_); clear H; intro w b3 H)
    (first | (refine H.wh ?_; clear H; intros; rename_i w H; constructor) | refine wk ?_)
    ((first | refine Rel.nwD H ?_ | refine Rel.nw H ?_); clear H; intro w b5 H)
    (first | (refine H.wg ?_; clear H; intros; rename_i w H; constructor) | refine wk ?_)
    refine (explain_tree H.data hr (by omega)).use ?_
    rintro q w ⟨V3, r3, hV3, K, hres⟩
    (have hKb := K.base; replace H := H.call0 K)
    rw [hls] at hres
    obtain ⟨rfl, hr3⟩ := hres
    have hr3l := hr3.len
    have hzz : ls.length = 0 ↔ rr.length = 0 := by rw [List.length_eq_zero_iff, List.length_eq_zero_iff]; exact hnil
    have hneq : decide ((r3.len : Int) = 0) = decide ((r.len : Int) = 0) := decide_eq_decide.2 (by omega)
    (first | (refine H.wh ?_; clear H; intros; rename_i w H; constructor) | refine wk ?_)
    ((first | refine Rel.nwD H ?_ | refine Rel.nw H ?_); clear H; intro w b7 H)
    (first | (refine H.wg ?_; clear H; intros; rename_i w H; constructor) | refine wk ?_)
    refine condG_false (by rw [hneq]; simp) ?_
    (first | (refine H.wg ?_; clear H; intros; rename_i w H; constructor) | refine wk ?_)
    refine (from_tree H.data (hE.up (hV12.trans hV3)) (hv.up hV3) hVB (SlF.nil byC _) (by simp)).use ?_
    rintro q w ⟨V4, r4, hV4, K, rfl, hr4⟩
    (have hKb := K.base; replace H := H.call0 K)
    rw [hsh] at hr4 ⊢
    cases hm : treMake vv [] with
    | none =>
      have e2 : frRes vv true none = ([], 6, -2) := by unfold frRes; rw [if_neg (fun h => h hvf)]; rfl
      rw [e2]
      have hne : rr.length ≠ 0 := fun h => by
        rw [List.eq_nil_of_length_eq_zero h, hm] at hmk
        cases hmk
      (first | (refine H.wh ?_; clear H; intros; rename_i w H; constructor) | refine wk ?_)
      ((first | refine Rel.nwD H ?_ | refine Rel.nw H ?_); clear H; intro w b9 H)
      (first | (refine H.wg ?_; clear H; intros; rename_i w H; constructor) | refine wk ?_)
      exact ⟨congrArg Value.bool (decide_eq_true (by omega)), H.base⟩
    | some o =>
      have e2 : frRes vv true (some o) = (o, 0, 0) := by unfold frRes; rw [if_neg (fun h => h hvf)]; rfl
      rw [hm, e2] at hr4
      rw [e2]
      dsimp only at hr4
      obtain ⟨ho1, ho2⟩ := treMake_some hm
      (first | (refine H.wh ?_; clear H; intros; rename_i w H; constructor) | refine wk ?_)
      ((first | refine Rel.nwD H ?_ | refine Rel.nw H ?_); clear H; intro w b9 H)
      (first | (refine H.wg ?_; clear H; intros; rename_i w H; constructor) | refine wk ?_)
      refine (to_tree H.data (hE.up ((hV12.trans hV3).trans hV4)) hr4 (by omega)).use ?_
      rintro q w ⟨V5, h5, r5, hV5, K, rfl, hv5, hr5⟩
      (have hKb := K.base; replace H := H.call0 K)
      have e3 : toRes (treTo o) o.length = ⟨vv, [], 0, 0⟩ := by unfold toRes; rw [if_neg (by omega), ho2]
      rw [e3] at hv5 hr5 ⊢
      dsimp only at hv5 hr5 ⊢
      have hr5l : r5.len = 0 := hr5.len
      (first | (refine H.wh ?_; clear H; intros; rename_i w H; constructor) | refine wk ?_)
      ((first | refine Rel.nwD H ?_ | refine Rel.nw H ?_); clear H; intro w b10 H)
      (first | (refine H.wh ?_; clear H; intros; rename_i w H; constructor) | refine wk ?_)
      ((first | refine Rel.nwD H ?_ | refine Rel.nw H ?_); clear H; intro w b12 H)
      (first | (refine H.wg ?_; clear H; intros; rename_i w H; constructor) | refine wk ?_)
      refine (same_value (SizeOf.sizeOf (vv : Val) + 1) H.data (Nat.lt_succ_self _) (((hv.up hV3).up hV4).up hV5) hv5 (vb_big hVB)).use ?_
      rintro q w ⟨r0, rfl, hsame, K⟩
      (have hKb := K.base; replace H := Rel.call H K)
      simp only [List.cons_append, List.nil_append] at H
      obtain rfl := hsame.2 rfl
      (first | (refine H.wg ?_; clear H; intros; rename_i w H; constructor) | refine wk ?_)
      refine (bytes_ref H.data (hr4.up hV5) ((((hs.up hV12).up hV3).up hV4).up hV5)).use ?_
      rintro q w ⟨rfl, K⟩
      (have hKb := K.base; replace H := Rel.call H K)
      simp only [List.cons_append, List.nil_append] at H
      have hro : rr.length = 0 ↔ o = l := by
        constructor
        · intro h
          rw [List.eq_nil_of_length_eq_zero h, hm] at hmk
          exact Option.some.inj hmk
        · intro h
          rw [h, ht] at ho2
          cases ho2
          rfl
      have hbb : decide ((r.len : Int) = 0) = decide (o = l) := decide_eq_decide.2 ⟨fun h => hro.1 (by omega), fun h => by have := hro.2 h; omega⟩
      (first | (refine H.wg ?_; clear H; intros; rename_i w H; constructor) | refine wk ?_)
      refine ⟨?_, H.base⟩
      rw [hbb]
      simp
end Go.Proofs.YtffaffojkfalhaaGreatDoor
