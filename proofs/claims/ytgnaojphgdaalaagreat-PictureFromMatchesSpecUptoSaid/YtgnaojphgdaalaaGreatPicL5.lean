/-
  Pictures, the reference: PictureShape.
-/
import Derived.Test.YtgnaojphgdaalaaGreatPicX
import Derived.Test.YtgnaojphgdaalaaGreatPicF
import Derived.Test.YtgnaojphgdaalaaGreatVcW
namespace Go.Proofs.YtgnaojphgdaalaaGreat
open Go Go.RowKit

section
variable {V W : World}
set_option maxRecDepth 100000 in
set_option maxHeartbeats 1000000 in
theorem pctShape_ref (hV : Sub V W) {h : VH} {v : Val} (hv : ValAt V h v) (hB : VB 1048576 v) (hval : (vfault v).1 = 0) : Ret Tryz.prog 7 [valV h].toArray W fun q w' => q = .bool (picShape v).isSome ∧ Rel W V [] V w' := by
  have H := Rel.start hV
  have e1 := hv.kind
  have hns := hv.names
  have hpl := hv.plen
  have hnb := hB.names
  have hv0 := hv
  obtain ⟨k, n, bs, ss, pl⟩ := h
  dsimp only at e1 hns hpl
  subst e1
  change Ret Tryz.prog 7 [.agg [iv v.kind, iv n, bs.v, ss.v, pl.v].toArray].toArray W _
  refine cal_of_vc tabOk Tryz.func7 rfl (by kernel_rfl) 63 rfl (by simp) [0, 1, 2, 3, 4, 5, 15, 52] ?_
  (first | (refine H.wh ?_; clear H; intros; rename_i w H; constructor) | refine wk ?_)
  ((first | refine Rel.nwD H ?_ | refine Rel.nw H ?_); clear H; intro w b1 H)
  by_cases k4 : v.kind = 4
  rotate_left
  · rw [picShape_not fun r c s _ h => k4 h.kind]
    (first | (refine H.wg ?_; clear H; intros; rename_i w H; constructor) | refine wk ?_)
    exact Rel.back H.sx
  obtain ⟨z1, z2, z3⟩ := valid_rec hval k4
  rw [k4] at H
  (first | (refine H.wh ?_; clear H; intros; rename_i w H; constructor) | refine wk ?_)
  ((first | refine Rel.nwD H ?_ | refine Rel.nw H ?_); clear H; intro w b12 H)
  have H0 : Rel W V [.blk b12 [str sWidth, str sHeight, str sPixels] 9, .blk b1 [iv 4, iv n, bs.v, ss.v, pl.v] 26] V w := H
  obtain ⟨V2, hV2, H, hb12⟩ := H0.freezeBlk
  clear H0
  have hnm : SlF strC V2 ⟨some ⟨b12, 0, none⟩, 3, 3⟩ [sWidth, sHeight, sPixels] := ⟨rfl, Nat.le_refl _, hb12.cells⟩
  (first | (refine H.wg ?_; clear H; intros; rename_i w H; constructor) | refine wk ?_)
  refine (strings_ref H.data (hns.up hV2) hnm (by omega)).use ?_
  rintro q w ⟨rfl, K⟩
  (have hKb := K.base; replace H := H.call0 K)
  by_cases hnn : v.names = [sWidth, sHeight, sPixels]
  rotate_left
  · rw [picShape_not fun r c s _ h => hnn h.names, decide_eq_false hnn]
    (first | (refine H.wg ?_; clear H; intros; rename_i w H; constructor) | refine wk ?_)
    exact Rel.back H.sx
  rw [decide_eq_true hnn]
  have h3 : v.parts.length = 3 := by rw [← z1, hnn]; rfl
  obtain ⟨r, c, s, hps⟩ := three h3
  have hsh : picShape v = if PicShapeOk v r c s then some (r.num.toNat, c.num.toNat, s.bytes) else none := by
    unfold picShape
    rw [hps]
  have H0 : Rel W V [.blk b1 [iv 4, iv n, bs.v, ss.v, pl.v] 26] V2 w := H.sx
  obtain ⟨V3, hV3, H, hb1⟩ := H0.freezeBlk
  clear H0
  have o3 := hb1.cel (i := 4) rfl
  obtain ⟨hp0, x0, hx0, a0, a1, a2, a3, a4⟩ := (hv0.up (hV2.trans hV3)).part5 (i := 0) (by omega)
  obtain ⟨_, x1, hx1, c0, c1, c2, c3, c4⟩ := (hv0.up (hV2.trans hV3)).part5 (i := 1) (by omega)
  obtain ⟨_, x2, hx2, d0, d1, d2, d3, d4⟩ := (hv0.up (hV2.trans hV3)).part5 (i := 2) (by omega)
  have g0 : v.parts[0] = r := by simp [hps]
  have g1 : v.parts[1] = c := by simp [hps]
  have g2 : v.parts[2] = s := by simp [hps]
  rw [g0] at hx0
  rw [g1] at hx1
  rw [g2] at hx2
  have k0 := hx0.kind
  have k1 := hx1.kind
  have k2 := hx2.kind
  have n0 := hx0.num
  have n1 := hx1.num
  have hbl := hx2.bytes.len
  have hsb : s.bytes.length ≤ 1048576 := (hB.part s (by rw [hps]; simp)).bytes
  (first | (refine H.wg ?_; clear H; intros; rename_i w H; constructor) | refine wk ?_)
  refine SemC.cutN (fun q : Nat × Nat × Nat => [(1, .pointer (some ⟨b1, 0, none⟩)), (2, .bool false), (3, .pointer (some ⟨q.1, 0, none⟩)), (4, .pointer (some ⟨q.2.1, 0, none⟩)), (5, .pointer (some ⟨q.2.2, 0, none⟩))])
    (fun q w' => Rel W V [.blk q.1 (valC x0) 26, .blk q.2.1 (valC x1) 26, .blk q.2.2 (valC x2) 26] V3 w') ?_ ?_
  · ((first | refine draw_vcTX (id := 3) tabOk mixed (Kv V3) Kv.trans [12, 13, 14, 15, 16] [1, 3, 5, 7, 9, 11] [0, 1, 2, 3, 4, 5, 6, 7, 8, 9, 10, 11, 12, 13, 14, 15, 16, 17] [(12, []), (13, []), (14, []), (15, [12, 13, 14]), (16, [12, 13, 14, 15]), (17, [12, 13, 14, 15, 16])] (by kernel_rfl) ?_); intro w hdw; replace H := Rel.ext H hdw.ext)
    repeat' ((first | (refine H.wh ?_; clear H; intros; rename_i w H; constructor) | refine wk ?_); (first | refine Kv.go H ?_ | refine Kv.go2 H (by assumption) ?_ | (refine And.intro (fun w1 hkp => ?_) ?_; focus ((first | have H := Kv.in H hkp | have H := Kv.in2 H (by assumption) hkp); ((repeat ((conv => whnf); first | refine an ?_ | refine H.ce ?_ | refine H.db ?_ | refine ea ?_ | refine ol ?_ | fail | refine cT ?_ | refine cF ?_ | refine cN ?_ | refine cM ?_ | refine H.lw ?_ | refine H.ll ?_)); (conv => whnf)); all_goals (first | exact ⟨rfl, rfl⟩ | exact rfl))) | refine And.intro ?_ ?_ | ((first | refine Rel.nwD H ?_ | refine Rel.nw H ?_); clear H; intro w _ H)))
    all_goals
      (first | (refine H.wg ?_; clear H; intros; rename_i w H; constructor) | refine wk ?_)
      exact ⟨(_, _, _), (by repeat (first | exact trivial | refine ⟨rfl, ?_⟩)), H.pick⟩
  clear H
  rintro ⟨b3, b4, b5⟩ w H
  dsimp only at H
  obtain ⟨xk0, xn0, xb0, xs0, xp0⟩ := x0
  obtain ⟨xk1, xn1, xb1, xs1, xp1⟩ := x1
  obtain ⟨xk2, xn2, xb2, xs2, xp2⟩ := x2
  dsimp only at k0 k1 k2 n0 n1 hbl
  dsimp only [valC] at H
  by_cases q0 : xk0 = 1
  rotate_left
  · rw [hsh, if_neg (fun h => q0 (by rw [k0]; exact h.wk))]
    (first | (refine H.wg ?_; clear H; intros; rename_i w H; constructor) | refine wk ?_)
    exact Rel.back H.sx
  by_cases q1 : xk1 = 1
  rotate_left
  · rw [hsh, if_neg (fun h => q1 (by rw [k1]; exact h.hk))]
    (first | (refine H.wg ?_; clear H; intros; rename_i w H; constructor) | refine wk ?_)
    exact Rel.back H.sx
  by_cases q2 : xk2 = 2
  rotate_left
  · rw [hsh, if_neg (fun h => q2 (by rw [k2]; exact h.pk))]
    (first | (refine H.wg ?_; clear H; intros; rename_i w H; constructor) | refine wk ?_)
    exact Rel.back H.sx
  (first | (refine H.wg ?_; clear H; intros; rename_i w H; constructor) | refine wk ?_)
  refine (in_ref xn0 1 64 w).use ?_
  rintro q w' ⟨rfl, rfl⟩
  by_cases q3 : 1 ≤ xn0 ∧ xn0 ≤ 64
  rotate_left
  · rw [hsh, if_neg (fun h => q3 (by rw [n0]; exact h.w0)), decide_eq_false q3]
    (first | (refine H.wg ?_; clear H; intros; rename_i w H; constructor) | refine wk ?_)
    exact Rel.back H.sx
  rw [decide_eq_true q3]
  (first | (refine H.wg ?_; clear H; intros; rename_i w H; constructor) | refine wk ?_)
  refine (in_ref xn1 1 64 w).use ?_
  rintro q w' ⟨rfl, rfl⟩
  by_cases q4 : 1 ≤ xn1 ∧ xn1 ≤ 64
  rotate_left
  · rw [hsh, if_neg (fun h => q4 (by rw [n1]; exact h.h0)), decide_eq_false q4]
    (first | (refine H.wg ?_; clear H; intros; rename_i w H; constructor) | refine wk ?_)
    exact Rel.back H.sx
  rw [decide_eq_true q4]
  obtain ⟨C, hC⟩ : ∃ C : Nat, xn0 = C := ⟨xn0.toNat, by omega⟩
  subst hC
  obtain ⟨D, hD⟩ : ∃ D : Nat, xn1 = D := ⟨xn1.toNat, by omega⟩
  subst hD
  have hrt : r.num.toNat = C := by rw [← n0]; simp
  have hct : c.num.toNat = D := by rw [← n1]; simp
  have hmul : 3 * (C : Int) * (D : Int) = ((3 * C * D : Nat) : Int) := by push_cast; rfl
  have hmb : 3 * C * D ≤ 192 * 64 := Nat.mul_le_mul (by omega) (by omega)
  have hiff : PicShapeOk v r c s ↔ s.bytes.length = 3 * C * D := ⟨fun h => by rw [← hct, ← hrt]; exact h.p0, fun h => ⟨k4, hnn, by omega, by omega, by omega, by omega, by omega, by rw [hct, hrt]; exact h⟩⟩
  (first | (refine H.wg ?_; clear H; intros; rename_i w H; constructor) | refine wk ?_)
  refine ⟨?_, Rel.back H.sx⟩
  rw [hsh]
  by_cases hok : s.bytes.length = 3 * C * D
  · rw [if_pos (hiff.2 hok)]
    exact congrArg Value.bool (decide_eq_true (by omega))
  · rw [if_neg (fun h => hok (hiff.1 h))]
    exact congrArg Value.bool (decide_eq_false (by omega))
end
end Go.Proofs.YtgnaojphgdaalaaGreat
namespace Go.Proofs.YtgnaojphgdaalaaGreat
open Go Go.RowKit

/- Same of two values that are alike -/
set_option maxRecDepth 100000 in
set_option maxHeartbeats 2000000 in
theorem law_pic_from {W : World} {h : VH} {v : Val} {s : Sl} {b : List UInt8} (hv : ValAt W h v) (hB : VB 1048576 v) (hs0 : By W s b) (hl : b.length ≤ 1048576) : Ret Tryz.prog 3 [valV h, s.v].toArray W fun v w' => v = .bool true ∧ Ext W w' := by
  have H := Rel.start (Sub.refl W)
  have hs := hs0.slf
  have hlen := hs.len
  have hv0 := hv
  obtain ⟨k, n, bs, ss, pl⟩ := h
  change Ret Tryz.prog 3 [.agg [iv k, iv n, bs.v, ss.v, pl.v].toArray, s.v].toArray W _
  refine cal_of_vc tabOk Tryz.func3 rfl (by kernel_rfl) 66 rfl (by simp) [0, 1, 2, 4, 5, 6, 7, 8, 9, 11, 22, 33, 49] ?_
  (first | (refine H.wh ?_; clear H; intros; rename_i w H; constructor) | refine wk ?_)
  ((first | refine Rel.nwD H ?_ | refine Rel.nw H ?_); clear H; intro w b2 H)
  (first | (refine H.wg ?_; clear H; intros; rename_i w H; constructor) | refine wk ?_)
  refine (example_pic H.data).use ?_
  rintro q w ⟨rfl, V1, hV1, K⟩
  (have hKb := K.base; replace H := H.call0 K)
  (first | (refine H.wg ?_; clear H; intros; rename_i w H; constructor) | refine wk ?_)
  refine (from_pic H.data (hv0.up hV1) hB (hs.up hV1) (by omega)).use ?_
  rintro q w ⟨V2, r, hV2, K, rfl, hr⟩
  (have hKb := K.base; replace H := H.call0 K)
  have hV12 := hV1.trans hV2
  by_cases hvf : (vfault v).1 = 0
  rotate_left
  · have e : frRes v (picShape v).isSome (picMake v b) = ([], vfault v) := by unfold frRes; rw [if_pos hvf]
    rw [e] at hr ⊢
    dsimp only at hr ⊢
    have hrl : r.len = 0 := hr.len
    (first | (refine H.wh ?_; clear H; intros; rename_i w H; constructor) | refine wk ?_)
    ((first | refine Rel.nwD H ?_ | refine Rel.nw H ?_); clear H; intro w b6 H)
    (first | (refine H.wg ?_; clear H; intros; rename_i w H; constructor) | refine wk ?_)
    refine (valueFault_ref H.data (hv0.up hV12) hB).use ?_
    rintro q w ⟨rfl, K⟩
    (have hKb := K.base; replace H := H.call0 K)
    (first | (refine H.wh ?_; clear H; intros; rename_i w H; constructor) | refine wk ?_)
    ((first | refine Rel.nwD H ?_ | refine Rel.nw H ?_); clear H; intro w b7 H)
    (first | (refine H.wg ?_; clear H; intros; rename_i w H; constructor) | refine wk ?_)
    first | exact H.base | exact ⟨rfl, H.base⟩ | exact ⟨by rw [hrl]; rfl, H.base⟩
  have hzz := vfault_zz hvf
  cases hsh : (picShape v).isSome with
  | false =>
    have e : frRes v false (picMake v b) = ([], 13, 0) := by unfold frRes; rw [if_neg (fun h => h hvf), if_pos rfl]
    rw [hsh, e] at hr
    rw [e]
    have hrl : r.len = 0 := hr.len
    (first | (refine H.wh ?_; clear H; intros; rename_i w H; constructor) | refine wk ?_)
    ((first | refine Rel.nwD H ?_ | refine Rel.nw H ?_); clear H; intro w b6 H)
    (first | (refine H.wg ?_; clear H; intros; rename_i w H; constructor) | refine wk ?_)
    refine (valueFault_ref H.data (hv0.up hV12) hB).use ?_
    rintro q w ⟨rfl, K⟩
    (have hKb := K.base; replace H := H.call0 K)
    rw [hzz]
    (first | (refine H.wh ?_; clear H; intros; rename_i w H; constructor) | refine wk ?_)
    ((first | refine Rel.nwD H ?_ | refine Rel.nw H ?_); clear H; intro w b7 H)
    (first | (refine H.wg ?_; clear H; intros; rename_i w H; constructor) | refine wk ?_)
    refine (pctShape_ref H.data (hv0.up hV12) hB hvf).use ?_
    rintro q w ⟨rfl, K⟩
    (have hKb := K.base; replace H := H.call0 K)
    rw [hsh]
    (first | (refine H.wg ?_; clear H; intros; rename_i w H; constructor) | refine wk ?_)
    ((first | refine draw_vc (id := 8) tabOk mixed [1] [0, 1, 2, 3, 4, 5, 6, 7, 8] (by kernel_rfl) ?_ | refine draw_vc (id := 11) tabOk mixed [1] [0, 1, 2, 3, 4, 5, 6, 7, 8] (by kernel_rfl) ?_); intro w hdw; replace H := Rel.ext H hdw.ext)
    (first | (refine H.wg ?_; clear H; intros; rename_i w H; constructor) | refine wk ?_)
    refine (at_ref H.data 13 0).use ?_
    rintro q w ⟨rfl, K⟩
    (have hKb := K.base; replace H := Rel.call H K)
    simp only [List.cons_append, List.nil_append] at H
    (first | (refine H.wg ?_; clear H; intros; rename_i w H; constructor) | refine wk ?_)
    first | exact H.base | exact ⟨rfl, H.base⟩ | exact ⟨by rw [hrl]; rfl, H.base⟩
  | true =>
    cases hm : picMake v b with
    | none =>
      have e : frRes v true none = ([], 6, -2) := by unfold frRes; rw [if_neg (fun h => h hvf)]; rfl
      rw [hsh, hm, e] at hr
      rw [e]
      have hrl : r.len = 0 := hr.len
      (first | (refine H.wh ?_; clear H; intros; rename_i w H; constructor) | refine wk ?_)
      ((first | refine Rel.nwD H ?_ | refine Rel.nw H ?_); clear H; intro w b6 H)
      (first | (refine H.wg ?_; clear H; intros; rename_i w H; constructor) | refine wk ?_)
      refine (valueFault_ref H.data (hv0.up hV12) hB).use ?_
      rintro q w ⟨rfl, K⟩
      (have hKb := K.base; replace H := H.call0 K)
      rw [hzz]
      (first | (refine H.wh ?_; clear H; intros; rename_i w H; constructor) | refine wk ?_)
      ((first | refine Rel.nwD H ?_ | refine Rel.nw H ?_); clear H; intro w b7 H)
      (first | (refine H.wg ?_; clear H; intros; rename_i w H; constructor) | refine wk ?_)
      refine (pctShape_ref H.data (hv0.up hV12) hB hvf).use ?_
      rintro q w ⟨rfl, K⟩
      (have hKb := K.base; replace H := H.call0 K)
      rw [hsh]
      (first | (refine H.wg ?_; clear H; intros; rename_i w H; constructor) | refine wk ?_)
      refine (pctFile_g H.data (hv0.up hV12) hB hvf hsh (hs.up hV12) (by omega)).use ?_
      rintro q w ⟨V3, r3, b3, k3, hV3, K, rfl, hr3, hk3⟩
      (have hKb := K.base; replace H := H.call0 K)
      rw [hm] at hk3
      dsimp only at hk3
      subst hk3
      (first | (refine H.wg ?_; clear H; intros; rename_i w H; constructor) | refine wk ?_)
      ((first | refine draw_vc (id := 8) tabOk mixed [1] [0, 1, 2, 3, 4, 5, 6, 7, 8] (by kernel_rfl) ?_ | refine draw_vc (id := 11) tabOk mixed [1] [0, 1, 2, 3, 4, 5, 6, 7, 8] (by kernel_rfl) ?_); intro w hdw; replace H := Rel.ext H hdw.ext)
      (first | (refine H.wg ?_; clear H; intros; rename_i w H; constructor) | refine wk ?_)
      refine (at_ref H.data 6 (-2)).use ?_
      rintro q w ⟨rfl, K⟩
      (have hKb := K.base; replace H := Rel.call H K)
      simp only [List.cons_append, List.nil_append] at H
      (first | (refine H.wg ?_; clear H; intros; rename_i w H; constructor) | refine wk ?_)
      first | exact H.base | exact ⟨rfl, H.base⟩ | exact ⟨by rw [hrl]; rfl, H.base⟩
    | some o =>
      have e : frRes v true (some o) = (o, 0, 0) := by unfold frRes; rw [if_neg (fun h => h hvf)]; rfl
      rw [hsh, hm, e] at hr
      rw [e]
      (first | (refine H.wh ?_; clear H; intros; rename_i w H; constructor) | refine wk ?_)
      ((first | refine Rel.nwD H ?_ | refine Rel.nw H ?_); clear H; intro w b6 H)
      (first | (refine H.wg ?_; clear H; intros; rename_i w H; constructor) | refine wk ?_)
      refine (valueFault_ref H.data (hv0.up hV12) hB).use ?_
      rintro q w ⟨rfl, K⟩
      (have hKb := K.base; replace H := H.call0 K)
      rw [hzz]
      (first | (refine H.wh ?_; clear H; intros; rename_i w H; constructor) | refine wk ?_)
      ((first | refine Rel.nwD H ?_ | refine Rel.nw H ?_); clear H; intro w b7 H)
      (first | (refine H.wg ?_; clear H; intros; rename_i w H; constructor) | refine wk ?_)
      refine (pctShape_ref H.data (hv0.up hV12) hB hvf).use ?_
      rintro q w ⟨rfl, K⟩
      (have hKb := K.base; replace H := H.call0 K)
      rw [hsh]
      (first | (refine H.wg ?_; clear H; intros; rename_i w H; constructor) | refine wk ?_)
      refine (pctFile_g H.data (hv0.up hV12) hB hvf hsh (hs.up hV12) (by omega)).use ?_
      rintro q w ⟨V3, r3, b3, k3, hV3, K, rfl, hr3, hk3⟩
      (have hKb := K.base; replace H := H.call0 K)
      rw [hm] at hk3
      obtain ⟨rfl, rfl⟩ := hk3
      (first | (refine H.wg ?_; clear H; intros; rename_i w H; constructor) | refine wk ?_)
      refine (bytes_ref H.data (hr.up hV3) hr3).use ?_
      rintro q w ⟨rfl, K⟩
      (have hKb := K.base; replace H := Rel.call H K)
      simp only [List.cons_append, List.nil_append] at H
      rw [decide_eq_true rfl]
      (first | (refine H.wg ?_; clear H; intros; rename_i w H; constructor) | refine wk ?_)
      (first | exact H.base | exact ⟨by simp, H.base⟩ | exact ⟨rfl, H.base⟩)
end Go.Proofs.YtgnaojphgdaalaaGreat
