/-
  Pictures: Explain; the sides of a plain picture.
-/
import Derived.Test.YtgnaojphgdaalaaGreatPicN
import Derived.Test.YtgnaojphgdaalaaGreatLibE
namespace Go.Proofs.YtgnaojphgdaalaaGreat
open Go Go.RowKit

theorem lossPic_add (f n : Nat) (hf : f < 64) : addIf (addIf (addIf (addIf [] (decide (f / 16 ≠ 3)) (lsBits, (bitsOf f : Int))) (decide (f % 2 = 1)) (lsUp, 1)) (decide (f / 2 % 2 = 1)) (lsRuns, 1)) (decide (f < 32)) (lsColors, (n : Int)) = lossPic f n := by
  have hb : bitsOf f = 24 ↔ f / 16 = 3 := by
    unfold bitsOf
    split
    · omega
    · split
      · omega
      · split <;> omega
  unfold addIf lossPic
  simp only [decide_eq_true_eq, ne_eq]
  by_cases h1 : f / 16 = 3 <;> by_cases h2 : f % 2 = 1 <;> by_cases h3 : f / 2 % 2 = 1 <;> by_cases h4 : f < 32 <;> simp [h1, h2, h3, h4, hb]
section
variable {V W : World}
set_option maxRecDepth 100000 in
theorem explain_pic (hV : Sub V W) {s : Sl} {b : List UInt8} (hs : Byt V s b) (hl : b.length ≤ 100000000) : Ret Tryz.prog 12 [s.v].toArray W (ExR W V (picLoss b)) := by
  have H := Rel.start hV
  refine cal_of_vc tabOk Tryz.func12 rfl (by kernel_rfl) 41 rfl (by simp) [0, 2, 3, 4, 5, 6, 7, 14] ?_
  (first | (refine H.wh ?_; clear H; intros; rename_i w H; constructor) | refine wk ?_)
  ((first | refine Rel.nwD H ?_ | refine Rel.nw H ?_); clear H; intro w b3 H)
  (first | (refine H.wg ?_; clear H; intros; rename_i w H; constructor) | refine wk ?_)
  refine (readResidue_spec H.data hs (by omega)).use ?_
  rintro q w ⟨V2, f, r, hV2, K, hres⟩
  (have hKb := K.base; replace H := H.call0 K)
  unfold picLoss
  cases hr : picRd b with
  | none =>
    rw [hr] at hres
    obtain rfl := hres
    (first | (refine H.wh ?_; clear H; intros; rename_i w H; constructor) | refine wk ?_)
    ((first | refine Rel.nwD H ?_ | refine Rel.nw H ?_); clear H; intro w b4 H)
    (first | (refine H.wg ?_; clear H; intros; rename_i w H; constructor) | refine wk ?_)
    refine (fault_pic H.data 6 (-1)).use ?_
    rintro q w ⟨rfl, K⟩
    (have hKb := K.base; replace H := H.call0 K)
    (first | (refine H.wg ?_; clear H; intros; rename_i w H; constructor) | refine wk ?_)
    exact ⟨V2, ⟨none, 0, 0⟩, hV2, H.sx, rfl⟩
  | some x =>
    obtain ⟨g, pal⟩ := x
    rw [hr] at hres
    obtain ⟨rfl, rfl, hp⟩ := hres
    obtain ⟨_, hfo, hpo⟩ := picRd_some hr
    have hf := hfo.1
    have hpl := hp.len
    have hb := bitsOf_le f
    (first | (refine H.wh ?_; clear H; intros; rename_i w H; constructor) | refine wk ?_)
    ((first | refine Rel.nwD H ?_ | refine Rel.nw H ?_); clear H; intro w b4 H)
    (first | (refine H.wh ?_; clear H; intros; rename_i w H; constructor) | refine wk ?_)
    ((first | refine Rel.nwD H ?_ | refine Rel.nw H ?_); clear H; intro w b6 H)
    replace H := H.rowNil 48 2
    (first | (refine H.wg ?_; clear H; intros; rename_i w H; constructor) | refine wk ?_)
    ((first | refine draw_vc (id := 6) tabOk mixed [2] [0, 1, 4, 2, 3, 5, 6] (by kernel_rfl) ?_ | refine draw_vc (id := 9) tabOk mixed [2] [0, 1, 3, 4, 5, 2, 6] (by kernel_rfl) ?_); intro w hdw; replace H := Rel.ext H hdw.ext)
    (first | (refine H.wg ?_; clear H; intros; rename_i w H; constructor) | refine wk ?_)
    refine (depth_spec H.data (by omega) r).use ?_
    rintro q w ⟨rfl, K⟩
    (have hKb := K.base; replace H := H.call0 K)
    (first | (refine H.wg ?_; clear H; intros; rename_i w H; constructor) | refine wk ?_)
    refine (bits_spec H.data hf r).use ?_
    rintro q w ⟨rfl, K⟩
    (have hKb := K.base; replace H := H.call0 K)
    (first | (refine H.wg ?_; clear H; intros; rename_i w H; constructor) | refine wk ?_)
    rw [show decide (((f / 16 : Nat) : Int) ≠ 3) = decide (f / 16 ≠ 3) from decide_eq_decide.2 (by omega)]
    refine (add_pic H (L := []) (by simp) _ _ _).use ?_
    rintro q w ⟨r1, H⟩
    (first | (refine H.wg ?_; clear H; intros; rename_i w H; constructor) | refine wk ?_)
    refine (has1_spec H.data (by omega) r).use ?_
    rintro q w ⟨rfl, K⟩
    (have hKb := K.base; replace H := H.call0 K)
    (first | (refine H.wg ?_; clear H; intros; rename_i w H; constructor) | refine wk ?_)
    refine (add_pic H (Nat.le_trans (addIf_le (Nat.le_refl _)) (by decide)) _ _ _).use ?_
    clear H
    rintro q w ⟨r2, H⟩
    (first | (refine H.wg ?_; clear H; intros; rename_i w H; constructor) | refine wk ?_)
    refine (has2_spec H.data (by omega) r).use ?_
    rintro q w ⟨rfl, K⟩
    (have hKb := K.base; replace H := H.call0 K)
    (first | (refine H.wg ?_; clear H; intros; rename_i w H; constructor) | refine wk ?_)
    refine (add_pic H (Nat.le_trans (addIf_le (addIf_le (Nat.le_refl _))) (by decide)) _ _ _).use ?_
    clear H
    rintro q w ⟨r3, H⟩
    (first | (refine H.wg ?_; clear H; intros; rename_i w H; constructor) | refine wk ?_)
    ((first | refine draw_vc (id := 6) tabOk mixed [2] [0, 1, 4, 2, 3, 5, 6] (by kernel_rfl) ?_ | refine draw_vc (id := 9) tabOk mixed [2] [0, 1, 3, 4, 5, 2, 6] (by kernel_rfl) ?_); intro w hdw; replace H := Rel.ext H hdw.ext)
    (first | (refine H.wg ?_; clear H; intros; rename_i w H; constructor) | refine wk ?_)
    refine (indexed_spec H.data (by omega) r).use ?_
    rintro q w ⟨rfl, K⟩
    (have hKb := K.base; replace H := H.call0 K)
    (first | (refine H.wg ?_; clear H; intros; rename_i w H; constructor) | refine wk ?_)
    rw [hpl]
    refine (add_pic H (Nat.le_trans (addIf_le (addIf_le (addIf_le (Nat.le_refl _)))) (by decide)) _ _ _).use ?_
    clear H
    rintro q w ⟨r4, H⟩
    rw [lossPic_add f pal.length hf] at H
    obtain ⟨V3, hV3, H, hr4⟩ := Rel.freezeF H (fun _ => rfl) (by decide)
    (first | (refine H.wg ?_; clear H; intros; rename_i w H; constructor) | refine wk ?_)
    exact ⟨V3, r4, hV2.trans hV3, H.sx, rfl, hr4⟩
/-- what sides returns -/
structure SidesP (W V : World) (res : Option (Nat × Nat × List UInt8)) (q : Value) (w' : World) : Prop where
  ex : ∃ (V' : World) (r : Sl), Sub V V' ∧ Rel W V [] V' w' ∧ (match res with
    | none => q = .tuple #[iv 0, iv 0, .slice none 0 0, .bool false]
    | some (a, b, x) => q = .tuple #[iv a, iv b, r.v, .bool true] ∧ Byt V' r x)
theorem picShape_not {v : Val} (h : ∀ r c s, v.parts = [r, c, s] → ¬ PicShapeOk v r c s) : picShape v = none := by
  unfold picShape
  split
  · rename_i r c s hp
    rw [if_neg (h r c s hp)]
  · rfl
theorem three {v : Val} (h : v.parts.length = 3) : ∃ r c s, v.parts = [r, c, s] := by
  match hp : v.parts, h with
  | [r, c, s], _ => exact ⟨r, c, s, rfl⟩
theorem side_spec (hV : Sub V W) (x : VH) : Ret Tryz.prog 42 [valV x].toArray W fun q w' => q = .bool (decide (x.k = 1 ∧ 1 ≤ x.n ∧ x.n ≤ 64)) ∧ Rel W V [] V w' := by
  have H := Rel.start hV
  obtain ⟨k, n, bs, ss, pl⟩ := x
  change Ret Tryz.prog 42 [.agg [iv k, iv n, bs.v, ss.v, pl.v].toArray].toArray W _
  refine cal_of_vc tabOk Tryz.func42 rfl (by kernel_rfl) 16 rfl (by simp) [0, 1, 2] ?_
  (first | (refine H.wh ?_; clear H; intros; rename_i w H; constructor) | refine wk ?_)
  ((first | refine Rel.nwD H ?_ | refine Rel.nw H ?_); clear H; intro w b3 H)
  by_cases h1 : k = 1
  rotate_left
  · rw [decide_eq_false (fun h => h1 h.1)]
    (first | (refine H.wg ?_; clear H; intros; rename_i w H; constructor) | refine wk ?_)
    exact H.sx
  by_cases h2 : 1 ≤ n
  rotate_left
  · rw [decide_eq_false (fun h => h2 h.2.1)]
    (first | (refine H.wg ?_; clear H; intros; rename_i w H; constructor) | refine wk ?_)
    exact H.sx
  by_cases h3 : n ≤ 64
  rotate_left
  · rw [decide_eq_false (fun h => h3 h.2.2)]
    (first | (refine H.wg ?_; clear H; intros; rename_i w H; constructor) | refine wk ?_)
    rw [decide_eq_false h3]
    exact ⟨rfl, H.sx⟩
  rw [decide_eq_true (⟨h1, h2, h3⟩ : k = 1 ∧ 1 ≤ n ∧ n ≤ 64)]
  (first | (refine H.wg ?_; clear H; intros; rename_i w H; constructor) | refine wk ?_)
  rw [decide_eq_true h3]
  exact ⟨rfl, H.sx⟩
set_option maxRecDepth 100000 in
set_option maxHeartbeats 1000000 in
theorem sides_spec (hV : Sub V W) {h : VH} {v : Val} (hv : ValAt V h v) (hB : VB 1048576 v) (hval : (vfault v).1 = 0) : Ret Tryz.prog 17 [valV h].toArray W (SidesP W V (picShape v)) := by
  have H := Rel.start hV
  have e1 := hv.kind
  have hns := hv.names
  have hpl := hv.plen
  have hnb := hB.names
  have hv0 := hv
  obtain ⟨k, n, bs, ss, pl⟩ := h
  dsimp only at e1 hns hpl
  subst e1
  change Ret Tryz.prog 17 [.agg [iv v.kind, iv n, bs.v, ss.v, pl.v].toArray].toArray W _
  refine cal_of_vc tabOk Tryz.func17 rfl (by kernel_rfl) 65 rfl (by simp) [0, 1, 2, 3, 4, 5, 6, 7, 8, 9, 19, 58] ?_
  (first | (refine H.wh ?_; clear H; intros; rename_i w H; constructor) | refine wk ?_)
  ((first | refine Rel.nwD H ?_ | refine Rel.nw H ?_); clear H; intro w b1 H)
  by_cases k4 : v.kind = 4
  rotate_left
  · rw [picShape_not fun r c s _ h => k4 h.kind]
    (first | (refine H.wg ?_; clear H; intros; rename_i w H; constructor) | refine wk ?_)
    exact ⟨V, ⟨none, 0, 0⟩, Sub.refl _, Rel.back H.sx, rfl⟩
  obtain ⟨z1, z2, z3⟩ := valid_rec hval k4
  rw [k4] at H
  (first | (refine H.wh ?_; clear H; intros; rename_i w H; constructor) | refine wk ?_)
  ((first | refine Rel.nwD H ?_ | refine Rel.nw H ?_); clear H; intro w b16 H)
  have H0 : Rel W V [.blk b16 [str sWidth, str sHeight, str sPixels] 9, .blk b1 [iv 4, iv n, bs.v, ss.v, pl.v] 26] V w := H
  obtain ⟨V2, hV2, H, hb16⟩ := H0.freezeBlk
  clear H0
  have hnm : SlF strC V2 ⟨some ⟨b16, 0, none⟩, 3, 3⟩ [sWidth, sHeight, sPixels] := ⟨rfl, Nat.le_refl _, hb16.cells⟩
  (first | (refine H.wg ?_; clear H; intros; rename_i w H; constructor) | refine wk ?_)
  refine (equal_strs H.data (hns.up hV2) hnm (by omega)).use ?_
  rintro q w ⟨rfl, K⟩
  (have hKb := K.base; replace H := H.call0 K)
  by_cases hnn : v.names = [sWidth, sHeight, sPixels]
  rotate_left
  · rw [picShape_not fun r c s _ h => hnn h.names, decide_eq_false hnn]
    (first | (refine H.wg ?_; clear H; intros; rename_i w H; constructor) | refine wk ?_)
    exact ⟨V, ⟨none, 0, 0⟩, Sub.refl _, Rel.back H.sx, rfl⟩
  rw [decide_eq_true hnn]
  have h3 : v.parts.length = 3 := by rw [← z1, hnn]; rfl
  obtain ⟨r, c, s, hps⟩ := three h3
  have hsh : picShape v = if PicShapeOk v r c s then some (r.num.toNat, c.num.toNat, s.bytes) else none := by
    unfold picShape
    rw [hps]
  obtain ⟨hp0, x0, hx0, a0, a1, a2, a3, a4⟩ := (hv0.up hV2).part5 (i := 0) (by omega)
  obtain ⟨_, x1, hx1, c0, c1, c2, c3, c4⟩ := (hv0.up hV2).part5 (i := 1) (by omega)
  obtain ⟨_, x2, hx2, d0, d1, d2, d3, d4⟩ := (hv0.up hV2).part5 (i := 2) (by omega)
  have g0 : v.parts[0] = r := by simp [hps]
  have g1 : v.parts[1] = c := by simp [hps]
  have g2 : v.parts[2] = s := by simp [hps]
  rw [g0] at hx0
  rw [g1] at hx1
  rw [g2] at hx2
  have k0 := hx0.kind
  have k1 := hx1.kind
  have k2 := hx2.kind
  have n0 := hx0.num
  have n1 := hx1.num
  have hbs := hx2.bytes
  have hbl := hbs.len
  have hsb : s.bytes.length ≤ 1048576 := (hB.part s (by rw [hps]; simp)).bytes
  have H0 : Rel W V [.blk b1 [iv 4, iv n, bs.v, ss.v, pl.v] 26] V2 w := H.sx
  obtain ⟨V3, hV3, H, hb1⟩ := H0.freezeBlk
  clear H0
  have o3 := hb1.cel (i := 4) rfl
  replace a0 := hV3.cell a0
  replace a1 := hV3.cell a1
  replace a2 := hV3.cell a2
  replace a3 := hV3.cell a3
  replace a4 := hV3.cell a4
  replace c0 := hV3.cell c0
  replace c1 := hV3.cell c1
  replace c2 := hV3.cell c2
  replace c3 := hV3.cell c3
  replace c4 := hV3.cell c4
  replace d0 := hV3.cell d0
  replace d1 := hV3.cell d1
  replace d2 := hV3.cell d2
  replace d3 := hV3.cell d3
  replace d4 := hV3.cell d4
  (first | (refine H.wg ?_; clear H; intros; rename_i w H; constructor) | refine wk ?_)
  refine SemC.cutN (fun q : Nat × Nat × Nat => [(1, .pointer (some ⟨b1, 0, none⟩)), (2, iv 0), (3, iv 0), (4, .slice none 0 0), (5, .bool false), (6, .pointer (some ⟨q.1, 0, none⟩)), (7, .pointer (some ⟨q.2.1, 0, none⟩)), (8, .pointer (some ⟨q.2.2, 0, none⟩))])
    (fun q w' => Rel W V [.blk q.1 (valC x0) 26, .blk q.2.1 (valC x1) 26, .blk q.2.2 (valC x2) 26] V3 w') ?_ ?_
  · ((first | refine draw_vcTX (id := 3) tabOk mixed (Kv V3) Kv.trans [12, 13, 14, 15, 16] [1, 3, 5, 7, 9, 11] [0, 1, 2, 3, 4, 5, 6, 7, 8, 9, 10, 11, 12, 13, 14, 15, 16, 17] [(12, []), (13, []), (14, []), (15, [12, 13, 14]), (16, [12, 13, 14, 15]), (17, [12, 13, 14, 15, 16])] (by kernel_rfl) ?_ | refine draw_vcTX (id := 7) tabOk mixed (Kv V3) Kv.trans [] [] [0, 1, 2, 3, 4, 5, 6, 7, 8, 9] [] (by kernel_rfl) ?_); intro w hdw; replace H := Rel.ext H hdw.ext)
    repeat' ((first | (refine H.wh ?_; clear H; intros; rename_i w H; constructor) | refine wk ?_); (first | refine Kv.go H ?_ | refine Kv.go2 H (by assumption) ?_ | (refine And.intro (fun w1 hkp => ?_) ?_; focus ((first | have H := Kv.in H hkp | have H := Kv.in2 H (by assumption) hkp); ((repeat ((conv => whnf); first | refine an ?_ | refine H.ce ?_ | refine H.db ?_ | refine ea ?_ | refine ol ?_ | fail | refine cT ?_ | refine cF ?_ | refine cN ?_ | refine cM ?_ | refine H.lw ?_ | refine H.ll ?_)); (conv => whnf)); all_goals (first | exact ⟨rfl, rfl⟩ | exact rfl))) | refine And.intro ?_ ?_ | ((first | refine Rel.nwD H ?_ | refine Rel.nw H ?_); clear H; intro w _ H)))
    all_goals
      (first | (refine H.wg ?_; clear H; intros; rename_i w H; constructor) | refine wk ?_)
      exact ⟨(_, _, _), (by repeat (first | exact trivial | refine ⟨rfl, ?_⟩)), H.pick⟩
  clear H
  rintro ⟨b6, b7, b8⟩ w H
  dsimp only at H
  obtain ⟨xk0, xn0, xb0, xs0, xp0⟩ := x0
  obtain ⟨xk1, xn1, xb1, xs1, xp1⟩ := x1
  obtain ⟨xk2, xn2, xb2, xs2, xp2⟩ := x2
  dsimp only at k0 k1 k2 n0 n1 hbs hbl
  dsimp only [valC] at H
  (first | (refine H.wg ?_; clear H; intros; rename_i w H; constructor) | refine wk ?_)
  refine (side_spec H.data ⟨xk0, xn0, xb0, xs0, xp0⟩).use ?_
  rintro q w ⟨rfl, K⟩
  (have hKb := K.base; replace H := H.call0 K)
  by_cases q0 : xk0 = 1 ∧ 1 ≤ xn0 ∧ xn0 ≤ 64
  rotate_left
  · rw [hsh, if_neg (fun h => q0 ⟨by rw [k0]; exact h.wk, by rw [n0]; exact h.w0⟩), decide_eq_false q0]
    (first | (refine H.wg ?_; clear H; intros; rename_i w H; constructor) | refine wk ?_)
    exact ⟨V, ⟨none, 0, 0⟩, Sub.refl _, Rel.back H.sx, rfl⟩
  rw [decide_eq_true q0]
  (first | (refine H.wg ?_; clear H; intros; rename_i w H; constructor) | refine wk ?_)
  refine (side_spec H.data ⟨xk1, xn1, xb1, xs1, xp1⟩).use ?_
  rintro q w ⟨rfl, K⟩
  (have hKb := K.base; replace H := H.call0 K)
  by_cases q1 : xk1 = 1 ∧ 1 ≤ xn1 ∧ xn1 ≤ 64
  rotate_left
  · rw [hsh, if_neg (fun h => q1 ⟨by rw [k1]; exact h.hk, by rw [n1]; exact h.h0⟩), decide_eq_false q1]
    (first | (refine H.wg ?_; clear H; intros; rename_i w H; constructor) | refine wk ?_)
    exact ⟨V, ⟨none, 0, 0⟩, Sub.refl _, Rel.back H.sx, rfl⟩
  rw [decide_eq_true q1]
  obtain ⟨C, hC⟩ : ∃ C : Nat, xn0 = C := ⟨xn0.toNat, by omega⟩
  subst hC
  obtain ⟨D, hD⟩ : ∃ D : Nat, xn1 = D := ⟨xn1.toNat, by omega⟩
  subst hD
  have hrt : r.num.toNat = C := by rw [← n0]; simp
  have hct : c.num.toNat = D := by rw [← n1]; simp
  have hmul : 3 * (C : Int) * (D : Int) = ((3 * C * D : Nat) : Int) := by push_cast; rfl
  have hmb : 3 * C * D ≤ 192 * 64 := Nat.mul_le_mul (by omega) (by omega)
  by_cases q2 : xk2 = 2
  rotate_left
  · rw [hsh, if_neg (fun h => q2 (by rw [k2]; exact h.pk))]
    (first | (refine H.wg ?_; clear H; intros; rename_i w H; constructor) | refine wk ?_)
    exact ⟨V, ⟨none, 0, 0⟩, Sub.refl _, Rel.back H.sx, rfl⟩
  by_cases q3 : s.bytes.length = 3 * C * D
  rotate_left
  · rw [hsh, if_neg (fun h => q3 (by rw [← hct, ← hrt]; exact h.p0))]
    (first | (refine H.wg ?_; clear H; intros; rename_i w H; constructor) | refine wk ?_)
    exact ⟨V, ⟨none, 0, 0⟩, Sub.refl _, Rel.back H.sx, rfl⟩
  have hok : PicShapeOk v r c s := ⟨k4, hnn, by omega, by omega, by omega, by omega, by omega, by rw [hct, hrt]; exact q3⟩
  rw [hsh, if_pos hok, hct, hrt]
  have hbr : SlF byC V3 xb2 s.bytes := hbs.up hV3
  (first | (refine H.wg ?_; clear H; intros; rename_i w H; constructor) | refine wk ?_)
  ((first | refine draw_vc (id := 7) tabOk mixed [] [0, 1, 2, 3, 4, 5, 6, 7, 8, 9] (by kernel_rfl) ?_); intro w hdw; replace H := Rel.ext H hdw.ext)
  (first | (refine H.wg ?_; clear H; intros; rename_i w H; constructor) | refine wk ?_)
  exact ⟨V3, xb2, hV2.trans hV3, H.sx, rfl, hbr⟩
end
end Go.Proofs.YtgnaojphgdaalaaGreat
