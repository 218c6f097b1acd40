/-
  table files: the law of kept cells.
-/
import Derived.Test.YtkfcdjomkcmkeaaDoorTblX
import Derived.Test.YtkfcdjomkcmkeaaDoorVcW
namespace Go.Proofs.YtkfcdjomkcmkeaaDoor
open Go Go.RowKit

theorem tblAt_three {V : World} {a b c : Sl} {x y z : List UInt8} {d e f : Nat} {t t2 u : TypeId} (ha : Byt V a x) (hb : Byt V b y) (hc : Byt V c z) (hd : Blk V d [a.v, b.v] t) (he : Blk V e [c.v] t2) (hf : Blk V f [(⟨some ⟨d, 0, none⟩, 2, 2⟩ : Sl).v, (⟨some ⟨e, 0, none⟩, 1, 1⟩ : Sl).v] u) : TblAt V ⟨some ⟨f, 0, none⟩, 2, 2⟩ [[x, y], [z]] :=
  ⟨[⟨some ⟨d, 0, none⟩, 2, 2⟩, ⟨some ⟨e, 0, none⟩, 1, 1⟩], ⟨rfl, Nat.le_refl _, hf.cells⟩, rfl, fun i p q hp hq => by
    match i, hp, hq with
    | 0, hp, hq =>
      cases hp
      cases hq
      exact ⟨[a, b], ⟨rfl, Nat.le_refl _, hd.cells⟩, rfl, fun j p q hp hq => by
        match j, hp, hq with
        | 0, hp, hq => cases hp; cases hq; exact ha
        | 1, hp, hq => cases hp; cases hq; exact hb
        | j + 2, hp, hq => simp at hp⟩
    | 1, hp, hq =>
      cases hp
      cases hq
      exact ⟨[c], ⟨rfl, Nat.le_refl _, he.cells⟩, rfl, fun j p q hp hq => by
        match j, hp, hq with
        | 0, hp, hq => cases hp; cases hq; exact hc
        | j + 1, hp, hq => simp at hp⟩
    | i + 2, hp, hq => simp at hp⟩
set_option maxRecDepth 100000 in
set_option maxHeartbeats 2000000 in
theorem law_tbl_kept {W : World} (hT : Tabs W) (hM : MaxB W) {s1 s2 s3 : Sl} {a b c : List UInt8} (hs1 : By W s1 a) (hs2 : By W s2 b) (hs3 : By W s3 c) (hl : a.length + b.length + c.length ≤ 1048576) : Ret Tryd.prog 4 [s1.v, s2.v, s3.v].toArray W fun v w' => v = .bool true ∧ Ext W w' := by
  have H := Rel.start (Sub.refl W)
  have ha := hs1.slf
  have hb := hs2.slf
  have hc := hs3.slf
  have han := ha.len
  have hbn := hb.len
  have hcn := hc.len
  refine cal_of_vc tabOk Tryd.func4 rfl (by kernel_rfl) 60 rfl (by simp) [0, 1, 2, 6, 7, 8, 9, 10, 11, 12, 14, 23] ?_
  (first | (refine H.wg ?_; clear H; intros; rename_i w H; constructor) | refine wk ?_)
  refine (example_tbl H.data hT hM).use ?_
  rintro q w ⟨rfl, V1, hV1, K⟩
  (have hKb := K.base; replace H := H.call0 K)
  by_cases hbig : 300 < a.length + b.length + c.length
  · (first | (refine H.wg ?_; clear H; intros; rename_i w H; constructor) | refine wk ?_)
    first | exact H.base | exact ⟨rfl, H.base⟩
  obtain ⟨o, hmk, hto, hol⟩ := tbl_kept (a := a) (b := b) (c := c) (by omega)
  (first | (refine H.wh ?_; clear H; intros; rename_i w H; constructor) | refine wk ?_)
  ((first | refine Rel.nwD H ?_ | refine Rel.nw H ?_); clear H; intro w b26 H)
  obtain ⟨V2, hV2, H1, h26⟩ := H.freezeBlk
  clear H
  have H := H1
  clear H1
  (first | (refine H.wh ?_; clear H; intros; rename_i w H; constructor) | refine wk ?_)
  ((first | refine Rel.nwD H ?_ | refine Rel.nw H ?_); clear H; intro w b28 H)
  obtain ⟨V3, hV3, H1, h28⟩ := H.freezeBlk
  clear H
  have H := H1
  clear H1
  (first | (refine H.wh ?_; clear H; intros; rename_i w H; constructor) | refine wk ?_)
  ((first | refine Rel.nwD H ?_ | refine Rel.nw H ?_); clear H; intro w b29 H)
  obtain ⟨V4, hV4, H1, h29⟩ := H.freezeBlk
  clear H
  have H := H1
  clear H1
  have hV14 := (hV2.trans hV3).trans hV4
  have hV04 := hV1.trans hV14
  have hta := tblAt_three (ha.up hV04) (hb.up hV04) (hc.up hV04) (hV4.cel _ _ _ _ (hV3.cel _ _ _ _ h26)) (hV4.cel _ _ _ _ h28) h29
  (first | (refine H.wg ?_; clear H; intros; rename_i w H; constructor) | refine wk ?_)
  refine (plainTable_ref H.data hta (by simp) (by intro r hr; simp at hr; rcases hr with rfl | rfl <;> simp)).use ?_
  rintro q w ⟨V5, h, hV5, K, rfl, hv⟩
  (have hKb := K.base; replace H := H.call0 K)
  have hV05 := hV04.trans hV5
  (first | (refine H.wh ?_; clear H; intros; rename_i w H; constructor) | refine wk ?_)
  ((first | refine Rel.nwD H ?_ | refine Rel.nw H ?_); clear H; intro w b7 H)
  (first | (refine H.wg ?_; clear H; intros; rename_i w H; constructor) | refine wk ?_)
  have hVB : VB 1048576 (tblVal [[a, b], [c]]) := vb_tbl (by simp) (by intro r hr; simp at hr; rcases hr with rfl | rfl <;> simp <;> omega)
  refine (from_tbl H.data (tabs_up' hT hV05) (hM.up hV05) hv hVB (SlF.nil byC _) (by simp)).use ?_
  rintro q w ⟨V6, r6, hV6, K, rfl, hr6⟩
  (have hKb := K.base; replace H := H.call0 K)
  have hV06 := hV05.trans hV6
  have e6 : frRes (tblVal [[a, b], [c]]) (tblShape (tblVal [[a, b], [c]])).isSome (tblMake (tblVal [[a, b], [c]]) []) = (o, 0, 0) := by
    rw [hmk, show (tblShape (tblVal [[a, b], [c]])).isSome = true by rw [tblShape_val (by simp) (by simp)]; rfl]
    unfold frRes
    rw [if_neg (fun h => h (vfault_three (by omega)))]
    rfl
  rw [e6] at hr6 ⊢
  dsimp only at hr6 ⊢
  (first | (refine H.wh ?_; clear H; intros; rename_i w H; constructor) | refine wk ?_)
  ((first | refine Rel.nwD H ?_ | refine Rel.nw H ?_); clear H; intro w b9 H)
  (first | (refine H.wg ?_; clear H; intros; rename_i w H; constructor) | refine wk ?_)
  refine (to_tbl H.data (tabs_up' hT hV06) (hM.up hV06) hr6 (by omega)).use ?_
  rintro q w ⟨V7, h7, r7, hV7, K, rfl, hv7, hr7⟩
  (have hKb := K.base; replace H := H.call0 K)
  have e7 : toRes (tblTo o) o.length = ⟨tblVal [[a, b], [c]], [], 0, 0⟩ := by unfold toRes; rw [if_neg (by omega), hto]
  rw [e7] at hv7 hr7 ⊢
  dsimp only at hv7 hr7 ⊢
  have hr7l : r7.len = 0 := hr7.len
  (first | (refine H.wh ?_; clear H; intros; rename_i w H; constructor) | refine wk ?_)
  ((first | refine Rel.nwD H ?_ | refine Rel.nw H ?_); clear H; intro w b10 H)
  (first | (refine H.wh ?_; clear H; intros; rename_i w H; constructor) | refine wk ?_)
  ((first | refine Rel.nwD H ?_ | refine Rel.nw H ?_); clear H; intro w b12 H)
  (first | (refine H.wg ?_; clear H; intros; rename_i w H; constructor) | refine wk ?_)
  refine (same_value (SizeOf.sizeOf (tblVal [[a, b], [c]]) + 1) H.data (Nat.lt_succ_self _) (hv.up (hV6.trans hV7)) hv7 (vb_big hVB)).use ?_
  rintro q w ⟨r0, rfl, hsame, K⟩
  (have hKb := K.base; replace H := H.call0 K)
  obtain rfl := hsame.2 rfl
  (first | (refine H.wg ?_; clear H; intros; rename_i w H; constructor) | refine wk ?_)
  first | exact H.base | exact ⟨rfl, H.base⟩
end Go.Proofs.YtkfcdjomkcmkeaaDoor
