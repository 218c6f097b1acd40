/-
  Files of tables: the rows of a value; how a file is written.
-/
import Derived.Test.YtkfcdjomkcmkeaaGreatDoorTblD
import Derived.Test.YtkfcdjomkcmkeaaGreatDoorValB
import Derived.Test.YtkfcdjomkcmkeaaGreatDoorLibE
namespace Go.Proofs.YtkfcdjomkcmkeaaGreatDoor
open Go Go.RowKit

theorem markR_get (s : UInt8) (Z : List Nat) : ∀ {r : List (List UInt8)} {k j : Nat} (hj : j < r.length), (markR s Z k r)[j]? = some (wrC s Z (k + j) r[j])
  | x :: r, k, 0, _ => rfl
  | x :: r, k, j + 1, hj => by
    show (markR s Z (k + 1) r)[j]? = _
    rw [markR_get s Z (r := r) (by simpa using hj)]
    simp only [List.getElem_cons_succ]
    rw [show k + 1 + j = k + (j + 1) by omega]
theorem markF_get (s : UInt8) (Z : List Nat) : ∀ {R : List (List (List UInt8))} {k i : Nat} (hi : i < R.length), (markF s Z k R)[i]? = some (markR s Z (k + (R.take i).flatten.length) R[i])
  | r :: R, k, 0, _ => by simp [markF]
  | r :: R, k, i + 1, hi => by
    show (markF s Z (k + r.length) R)[i]? = _
    rw [markF_get s Z (R := R) (by simpa using hi)]
    simp only [List.getElem_cons_succ, List.take_succ_cons, List.flatten_cons, List.length_append]
    rw [show k + r.length + (R.take i).flatten.length = k + (r.length + (R.take i).flatten.length) by omega]
theorem outR_snoc (s : UInt8) (c : Cel) : ∀ {r : List Cel}, r ≠ [] → outR s (r ++ [c]) = outR s r ++ s :: outC c
  | [d], _ => rfl
  | d :: e :: r, _ => by
    have := outR_snoc s c (r := e :: r) (by simp)
    show outC d ++ s :: outR s ((e :: r) ++ [c]) = (outC d ++ s :: outR s (e :: r)) ++ _
    rw [this]
    simp
theorem fileB_acc (s : UInt8) (e : List UInt8) (o : Bool) : ∀ {R : List (List Cel)} {i : Nat}, i < R.length → fileB s e o R = (R.take i).flatMap (fun r => outR s r ++ e) ++ fileB s e o (R.drop i)
  | r :: R, 0, _ => by simp
  | [r], i + 1, h => by simp at h
  | r :: q :: R, i + 1, h => by
    have ih := fileB_acc s e o (R := q :: R) (i := i) (by simpa using h)
    show outR s r ++ (e ++ fileB s e o (q :: R)) = _
    rw [ih]
    simp
theorem fileB_last (s : UInt8) (e : List UInt8) (o : Bool) {R : List (List Cel)} {i : Nat} {r : List Cel} (h : i + 1 = R.length) (hr : R[i]? = some r) : fileB s e o R = (R.take i).flatMap (fun r => outR s r ++ e) ++ outR s r ++ (if o = true then [] else e) := by
  rw [fileB_acc s e o (i := i) (by omega)]
  obtain ⟨h1, h2⟩ := List.getElem?_eq_some_iff.1 hr
  rw [List.drop_eq_getElem_cons h1, h2, List.drop_of_length_le (by omega), fileB, List.append_assoc]
structure RowsH (W V : World) (o : Option Tbl) (q : Value) (w' : World) : Prop where
  ex : ∃ (V' : World) (r : Sl) (g : Bool), Sub V V' ∧ Rel W V [] V' w' ∧ q = .tuple #[r.v, .bool g] ∧ (match o with
    | none => g = false
    | some T => g = true ∧ TblAt V' r T)
section
variable {V W : World}
theorem isList_tbl (hV : Sub V W) {h : VH} {v : Val} (hv : ValAt V h v) : Ret Tryz.prog 46 [valV h].toArray W fun q w' => q = .bool (decide (v.kind = 3 ∧ v.parts ≠ [])) ∧ Rel W V [] V w' := by
  have H := Rel.start hV
  have e1 := hv.kind
  have hpl := hv.plen
  obtain ⟨k, n, bs, ss, pl⟩ := h
  dsimp only at e1 hpl
  subst e1
  change Ret Tryz.prog 46 [.agg [iv v.kind, iv n, bs.v, ss.v, pl.v].toArray].toArray W _
  refine cal_of_vc tabOk Tryz.func46 rfl (by kernel_rfl) 12 rfl (by simp) [0, 1, 2] ?_
  (first | (refine H.wh ?_; clear H; intros; rename_i w H; constructor) | refine wk ?_)
  ((first | refine Rel.nwD H ?_ | refine Rel.nw H ?_); clear H; intro w b1 H)
  by_cases h3 : v.kind = 3
  · by_cases h0 : v.parts.length = 0
    · rw [decide_eq_false (fun h => h.2 (List.eq_nil_of_length_eq_zero h0))]
      (first | (refine H.wg ?_; clear H; intros; rename_i w H; constructor) | refine wk ?_)
      rw [decide_eq_false (by omega)]
      first | exact H.sx | exact ⟨rfl, H.sx⟩
    · rw [decide_eq_true ⟨h3, fun h => h0 (by rw [h]; rfl)⟩]
      (first | (refine H.wg ?_; clear H; intros; rename_i w H; constructor) | refine wk ?_)
      rw [decide_eq_true (by omega)]
      first | exact H.sx | exact ⟨rfl, H.sx⟩
  · rw [decide_eq_false (fun h => h3 h.1)]
    (first | (refine H.wg ?_; clear H; intros; rename_i w H; constructor) | refine wk ?_)
    first | exact H.sx | exact ⟨rfl, H.sx⟩
set_option maxRecDepth 100000 in
set_option maxHeartbeats 2000000 in
theorem rowsOf_tbl (hV : Sub V W) {h : VH} {v : Val} (hv : ValAt V h v) (hB : VB 1048576 v) : Ret Tryz.prog 25 [valV h].toArray W (RowsH W V (tblShape v)) := by
  have H := Rel.start hV
  have hv0 := hv
  have e1 := hv.kind
  have hpl := hv.plen
  have hcnt := hB.parts
  obtain ⟨k, n, bs, ss, pl⟩ := h
  dsimp only at e1 hpl
  subst e1
  change Ret Tryz.prog 25 [.agg [iv v.kind, iv n, bs.v, ss.v, pl.v].toArray].toArray W _
  refine cal_of_vc tabOk Tryz.func25 rfl (by kernel_rfl) 48 rfl (by simp) [0, 1, 2, 3, 4, 5, 7, 8, 10, 14, 16, 17, 18, 19, 25, 27, 28, 29, 30, 35] ?_
  (first | (refine H.wh ?_; clear H; intros; rename_i w H; constructor) | refine wk ?_)
  ((first | refine Rel.nwD H ?_ | refine Rel.nw H ?_); clear H; intro w b1 H)
  (first | (refine H.wg ?_; clear H; intros; rename_i w H; constructor) | refine wk ?_)
  refine (isList_tbl H.data hv0).use ?_
  rintro q w ⟨rfl, K⟩
  (have hKb := K.base; replace H := Rel.call H K)
  simp only [List.nil_append] at H
  by_cases h3 : v.kind = 3 ∧ v.parts ≠ []
  rotate_left
  · rw [decide_eq_false h3, show tblShape v = none by unfold tblShape; rw [if_neg h3]]
    (first | (refine H.wg ?_; clear H; intros; rename_i w H; constructor) | refine wk ?_)
    exact ⟨V, ⟨none, 0, 0⟩, false, Sub.refl _, H.sx, rfl, rfl⟩
  rw [decide_eq_true h3, show tblShape v = allM rowOfV v.parts by unfold tblShape; rw [if_pos h3]]
  (first | (refine H.wg ?_; clear H; intros; rename_i w H; constructor) | refine wk ?_)
  replace H := H.rowNil 46 1
  refine loop_inv (S := Nat × Sl × List Sl × Tbl) tabOk [0, 1, 4, 14, 16, 17] (fun z => [(5, z.2.1.v), (18, iv z.1)]) (fun z w' => z.1 ≤ v.parts.length ∧ allM rowOfV (v.parts.take z.1) = some z.2.2.2 ∧ ∃ V2, Sub V V2 ∧ Pw BysR V2 z.2.2.1 z.2.2.2 ∧ Rel W V [.row z.2.1 46 1 (z.2.2.1.flatMap slC), .blk b1 [iv v.kind, iv n, bs.v, ss.v, pl.v] 27] V2 w') (fun z _ => v.parts.length - z.1) (0, ⟨none, 0, 0⟩, [], []) ?_
  (conv => whnf)
  refine ⟨(by repeat (first | exact trivial | refine ⟨rfl, ?_⟩)), ⟨by omega, rfl, V, Sub.refl _, Pw.nil, H⟩, ?_⟩
  clear H
  rintro ⟨i, rs, hh, T⟩ w ⟨hi, hall, V2, hV2, hP, H⟩
  dsimp only at hi hall hP H ⊢
  have hTl := (allM_some hall).1
  rw [List.length_take] at hTl
  have hPl := hP.len
  by_cases hlt : i < v.parts.length
  rotate_left
  · obtain rfl : i = v.parts.length := by omega
    rw [List.take_length] at hall
    rw [hall]
    obtain ⟨V3, hV3, H, hr⟩ := Rel.freezeF H (fun _ => rfl) (by decide)
    (first | (refine H.wg ?_; clear H; intros; rename_i w H; constructor) | refine wk ?_)
    exact ⟨V3, rs, true, hV2.trans hV3, H.sx, rfl, rfl, hh, hr, hP.up bysR_up hV3⟩
  obtain ⟨hp0, x, hx, a0, a1, a2, a3, a4⟩ := (hv0.up hV2).part5 (i := i) hlt
  obtain ⟨r, hr⟩ : ∃ r, r = v.parts[i] := ⟨_, rfl⟩
  rw [← hr] at hx
  have hmem : r ∈ v.parts := by rw [hr]; exact List.getElem_mem hlt
  have hno : rowOfV r = none → allM rowOfV v.parts = none := fun h => allM_none hmem h
  have hrB := hB.part r hmem
  have hrc := hrB.parts
  have k1 := hx.kind
  have hrl := hx.plen
  have hx0 := hx
  obtain ⟨xk, xn, xb, xs, xp⟩ := x
  dsimp only at k1 hrl a0 a1 a2 a3 a4
  subst k1
  (first | (refine H.wh ?_; clear H; intros; rename_i w H; constructor) | refine wk ?_)
  ((first | refine Rel.nwD H ?_ | refine Rel.nw H ?_); clear H; intro w b7 H)
  (first | (refine H.wg ?_; clear H; intros; rename_i w H; constructor) | refine wk ?_)
  refine (isList_tbl H.data hx0).use ?_
  rintro q w ⟨rfl, K⟩
  (have hKb := K.base; replace H := Rel.call H K)
  simp only [List.nil_append] at H
  by_cases h4 : r.kind = 3 ∧ r.parts ≠ []
  rotate_left
  · rw [decide_eq_false h4, hno (by unfold rowOfV; rw [if_neg h4])]
    (first | (refine H.wg ?_; clear H; intros; rename_i w H; constructor) | refine wk ?_)
    exact ⟨V2, ⟨none, 0, 0⟩, false, hV2, H.sx, rfl, rfl⟩
  have hrow : rowOfV r = allM cellOf r.parts := by unfold rowOfV; rw [if_pos h4]
  rw [decide_eq_true h4]
  (first | (refine H.wg ?_; clear H; intros; rename_i w H; constructor) | refine wk ?_)
  replace H := H.rowNil 22 1
  refine loop_inv (S := Nat × Sl × List Sl × List (List UInt8)) tabOk [0, 1, 4, 5, 7, 14, 16, 17, 18, 19, 25, 27, 28] (fun z => [(8, z.2.1.v), (29, iv z.1)]) (fun z w' => z.1 ≤ r.parts.length ∧ allM cellOf (r.parts.take z.1) = some z.2.2.2 ∧ Pw BytR V2 z.2.2.1 z.2.2.2 ∧ Rel W V [.row z.2.1 22 1 (z.2.2.1.flatMap slC), .blk b7 [iv r.kind, iv xn, xb.v, xs.v, xp.v] 27, .row rs 46 1 (hh.flatMap slC), .blk b1 [iv v.kind, iv n, bs.v, ss.v, pl.v] 27] V2 w') (fun z _ => r.parts.length - z.1) (0, ⟨none, 0, 0⟩, [], []) ?_
  (conv => whnf)
  refine ⟨(by repeat (first | exact trivial | refine ⟨rfl, ?_⟩)), ⟨by omega, rfl, Pw.nil, H⟩, ?_⟩
  clear H
  rintro ⟨j, cs, gs, cc⟩ w ⟨hj, hal2, hG, H⟩
  dsimp only at hj hal2 hG H ⊢
  have hcl := (allM_some hal2).1
  rw [List.length_take] at hcl
  have hGl := hG.len
  by_cases hjl : j < r.parts.length
  · obtain ⟨_, y, hy, b0, b1', b2, b3, b4⟩ := hx0.part5 (i := j) hjl
    obtain ⟨c, hc⟩ : ∃ c, c = r.parts[j] := ⟨_, rfl⟩
    rw [← hc] at hy
    have hcm : c ∈ r.parts := by rw [hc]; exact List.getElem_mem hjl
    have ky := hy.kind
    have hyb := hy.bytes
    obtain ⟨yk, yn, yb, ys, yp⟩ := y
    dsimp only at ky hyb b0 b1' b2 b3 b4
    subst ky
    (first | (refine H.wh ?_; clear H; intros; rename_i w H; constructor) | refine wk ?_)
    ((first | refine Rel.nwD H ?_ | refine Rel.nw H ?_); clear H; intro w b10 H)
    by_cases h2 : c.kind = 2
    rotate_left
    · rw [hno (by rw [hrow]; exact allM_none hcm (by unfold cellOf; rw [if_neg h2]))]
      (first | (refine H.wg ?_; clear H; intros; rename_i w H; constructor) | refine wk ?_)
      exact ⟨V2, ⟨none, 0, 0⟩, false, hV2, H.sx, rfl, rfl⟩
    have hce : cellOf c = some c.bytes := by unfold cellOf; rw [if_pos h2]
    have hal3 := allM_step hjl hal2 (by rw [← hc]; exact hce)
    (first | (refine H.wh ?_; clear H; intros; rename_i w H; constructor) | refine wk ?_)
    ((first | refine Rel.nwD H ?_ | refine Rel.nw H ?_); clear H; intro w b39 H)
    (first | (refine H.wg ?_; clear H; intros; rename_i w H; constructor) | refine wk ?_)
    refine Rel.app1_1 (f := slC) (s := cs) (l := gs) (x := yb) tabOk rfl rfl rfl rfl rfl (by decide) (fun _ => rfl) (by simp [Value.oneCell']) H (by show (gs.length + 1) * 24 ≤ _; omega) (by omega) ?_
    clear H
    intro cs2 w H
    (first | (refine H.wg ?_; clear H; intros; rename_i w H; constructor) | refine wk ?_)
    exact ⟨(by repeat (first | exact trivial | refine ⟨rfl, ?_⟩)), (j + 1, cs2, gs ++ [yb], cc ++ [c.bytes]), (by repeat (first | exact trivial | refine ⟨rfl, ?_⟩)), ⟨by dsimp only; omega, hal3, hG.snoc hyb, H.sx⟩, by dsimp only; omega⟩
  · obtain rfl : j = r.parts.length := by omega
    rw [List.take_length] at hal2
    have hall2 := allM_step hlt hall (by rw [← hr, hrow]; exact hal2)
    obtain ⟨V3, hV3, H, hcs⟩ := Rel.freezeF H (fun _ => rfl) (by decide)
    (first | (refine H.wh ?_; clear H; intros; rename_i w H; constructor) | refine wk ?_)
    ((first | refine Rel.nwD H ?_ | refine Rel.nw H ?_); clear H; intro w b44 H)
    (first | (refine H.wg ?_; clear H; intros; rename_i w H; constructor) | refine wk ?_)
    refine Rel.app1_1 (f := slC) (s := rs) (l := hh) (x := cs) tabOk rfl rfl rfl rfl rfl (by decide) (fun _ => rfl) (by simp [Value.oneCell']) H (by show (hh.length + 1) * 24 ≤ _; omega) (by omega) ?_
    clear H
    intro rs2 w H
    (first | (refine H.wg ?_; clear H; intros; rename_i w H; constructor) | refine wk ?_)
    exact ⟨(by repeat (first | exact trivial | refine ⟨rfl, ?_⟩)), (i + 1, rs2, hh ++ [cs], T ++ [cc]), (by repeat (first | exact trivial | refine ⟨rfl, ?_⟩)), ⟨by dsimp only; omega, hall2, V3, hV2.trans hV3, (hP.up bysR_up hV3).snoc ⟨gs, hcs, hG.up (fun _ _ _ _ k h => h.up k) hV3⟩, H.sx⟩, by dsimp only; omega⟩
theorem nz_mem {Z : List Nat} {m : Nat} : decide (((m : Nat) : Int) ∈ nz Z) = Z.contains m := by
  rw [Bool.eq_iff_iff, decide_eq_true_eq, List.contains_iff_mem]
  simp only [nz, List.mem_map]
  constructor
  · rintro ⟨a, ha, e⟩
    rwa [← Int.ofNat_inj.1 e]
  · exact fun h => ⟨m, h, rfl⟩
theorem flatten_le {α : Type} {m : Nat} : ∀ {L : List (List α)}, (∀ r ∈ L, r.length ≤ m) → L.flatten.length ≤ L.length * m
  | [], _ => by simp
  | r :: L, h => by
    have h1 := h r (by simp)
    have h2 := flatten_le (L := L) fun x hx => h x (by simp [hx])
    rw [List.flatten_cons, List.length_append, List.length_cons, Nat.succ_mul]
    omega
set_option maxRecDepth 100000 in
set_option maxHeartbeats 4000000 in
theorem write_tbl (hV : Sub V W) (hT : Tabs V) (hM : MaxB V) {n : Nat} (hn : n < 3) (k o : Bool) {rs qs : Sl} {T : Tbl} {Z : List Nat} (hs : TblAt V rs T) (hqs : SlF itC V qs (nz Z)) (hZl : Z.length ≤ 1000) (hTl : T.length ≤ 600) (hrl : ∀ r ∈ T, r.length ≤ 600 ∧ ∀ x ∈ r, x.length ≤ 1048576) :
    Ret Tryz.prog 27 [.agg (fileC n k rs qs o).toArray].toArray W fun v w' => ∃ (V' : World) (r : Sl), Sub V V' ∧ Rel W V [] V' w' ∧ v = r.v ∧ Byt V' r (fileB (sepB n) (tEnd k) o (markF (sepB n) Z 0 T)) ∧ (fileB (sepB n) (tEnd k) o (markF (sepB n) Z 0 T)).length ≤ 1099511627776 := by
  have H := Rel.start hV
  have hlen := hs.len
  obtain ⟨xs, h1, h2⟩ := hs
  have h2l := h2.len
  obtain ⟨R, hR⟩ : ∃ R, R = markF (sepB n) Z 0 T := ⟨_, rfl⟩
  have hRl : R.length = T.length := by rw [hR, markF_len]
  rw [← hR]
  have hel := tEnd_le k
  refine cal_of_vc tabOk Tryz.func27 rfl (by kernel_rfl) 75 rfl (by simp) [0, 1, 2, 3, 4, 5, 6, 7, 8, 10, 11, 12, 13, 17, 18, 19, 20, 25, 42, 67] ?_
  (first | (refine H.wh ?_; clear H; intros; rename_i w H; constructor) | refine wk ?_)
  ((first | refine Rel.nwD H ?_ | refine Rel.nw H ?_); clear H; intro w b1 H)
  (first | (refine H.wg ?_; clear H; intros; rename_i w H; constructor) | refine wk ?_)
  replace H := H.rowNil 5 1
  refine loop_inv (S := Nat × Sl × List UInt8) tabOk [0, 1, 2, 10, 11] (fun z => [(3, z.2.1.v), (4, iv ((T.take z.1).flatten.length : Nat)), (12, iv z.1)]) (fun z w' => z.1 ≤ T.length ∧ z.2.2 = (if z.1 < T.length then (R.take z.1).flatMap (fun r => outR (sepB n) r ++ tEnd k) else fileB (sepB n) (tEnd k) o R) ∧ z.2.2.length ≤ z.1 * 1300000000 ∧ ∃ V2, Sub V V2 ∧ Rel W V [.row z.2.1 5 1 (z.2.2.flatMap byC), .blk b1 (fileC n k rs qs o) 52] V2 w') (fun z _ => T.length - z.1) (0, ⟨none, 0, 0⟩, []) ?_
  (conv => whnf)
  refine ⟨(by repeat (first | exact trivial | refine ⟨rfl, ?_⟩)), ⟨by omega, ?_, by simp, V, Sub.refl _, H⟩, ?_⟩
  · dsimp only
    split
    · rfl
    · have : R = [] := List.eq_nil_of_length_eq_zero (by omega)
      rw [this]
      rfl
  clear H
  rintro ⟨i, ot, acc⟩ w ⟨hi, hacc, hal, V2, hV2, H⟩
  dsimp only at hi hacc hal H ⊢
  by_cases hlt : i < T.length
  rotate_left
  · rw [if_neg hlt] at hacc
    subst hacc
    obtain ⟨V3, hV3, H, hro⟩ := Rel.freezeF H (fun _ => rfl) (by decide)
    (first | (refine H.wg ?_; clear H; intros; rename_i w H; constructor) | refine wk ?_)
    exact ⟨V3, ot, hV2.trans hV3, H.sx, rfl, hro, by have : i * 1300000000 ≤ 600 * 1300000000 := Nat.mul_le_mul_right _ (by omega); omega⟩
  rw [if_pos hlt] at hacc
  obtain ⟨p0, c0⟩ := (h1.up hV2).at1 (g := fun x : Sl => x.v) (fun _ => rfl) (i := i) (by omega)
  obtain ⟨gs, g1, g2⟩ := h2.all i (xs[i]'(by omega)) T[i] (List.getElem?_eq_getElem _) (List.getElem?_eq_getElem _)
  have hTt := List.take_succ_eq_append_getElem hlt
  have hRg := markF_get (sepB n) Z (R := T) (k := 0) hlt
  rw [← hR, Nat.zero_add] at hRg
  obtain ⟨r, hr⟩ : ∃ r, r = T[i] := ⟨_, rfl⟩
  obtain ⟨x, hx⟩ : ∃ x, x = xs[i]'(by omega) := ⟨_, rfl⟩
  obtain ⟨hr1, hr2⟩ := hrl r (by rw [hr]; exact List.getElem_mem hlt)
  rw [← hr] at g2 hTt hRg
  rw [← hx] at c0 g1
  have g1l := g1.len
  have g2l := g2.len
  obtain ⟨N, hN⟩ : ∃ N, N = (T.take i).flatten.length := ⟨_, rfl⟩
  have hNb : N ≤ 360000 := by
    have := flatten_le (m := 600) (L := T.take i) fun r hr => (hrl r (List.mem_of_mem_take hr)).1
    rw [List.length_take] at this
    omega
  rw [← hN] at hRg ⊢
  obtain ⟨rm, hrm⟩ : ∃ rm, rm = markR (sepB n) Z N r := ⟨_, rfl⟩
  rw [← hrm] at hRg
  have hrml : rm.length = r.length := by rw [hrm, markR_len]
  (first | (refine H.wg ?_; clear H; intros; rename_i w H; constructor) | refine wk ?_)
  refine loop_inv (S := Nat × Sl × List UInt8) tabOk [0, 1, 2, 5, 6, 10, 11, 12, 13, 17, 18, 67] (fun z => [(3, z.2.1.v), (4, iv ((N + z.1 : Nat) : Int)), (19, iv z.1)]) (fun z w' => z.1 ≤ r.length ∧ z.2.2 = acc ++ outR (sepB n) (rm.take z.1) ∧ z.2.2.length ≤ acc.length + z.1 * 2097155 ∧ ∃ V3, Sub V V3 ∧ Rel W V [.row z.2.1 5 1 (z.2.2.flatMap byC), .blk b1 (fileC n k rs qs o) 52] V3 w') (fun z _ => r.length - z.1) (0, ot, acc) ?_
  (conv => whnf)
  refine ⟨(by repeat (first | exact trivial | refine ⟨rfl, ?_⟩)), ⟨by omega, ?_, by simp, V2, hV2, H⟩, ?_⟩
  · show acc = acc ++ outR (sepB n) []
    simp [outR]
  clear H
  rintro ⟨j, o2, acc2⟩ w ⟨hj, hacc2, hal2, V3, hV3, H⟩
  dsimp only at hj hacc2 hal2 H ⊢
  have hmi : i * 1300000000 ≤ 600 * 1300000000 := Nat.mul_le_mul_right _ (by omega)
  have hmj : j * 2097155 ≤ 600 * 2097155 := Nat.mul_le_mul_right _ (by omega)
  by_cases hjl : j < r.length
  rotate_left
  · obtain rfl : j = r.length := by omega
    rw [List.take_of_length_le (by omega)] at hacc2
    have hnum : (T.take (i + 1)).flatten.length = N + r.length := by rw [hTt, List.flatten_append, List.length_append, ← hN]; simp
    have hRt : R.take (i + 1) = R.take i ++ [rm] := by
      obtain ⟨q1, q2⟩ := List.getElem?_eq_some_iff.1 hRg
      rw [List.take_succ_eq_append_getElem q1, q2]
    have hml : (i + 1) * 1300000000 = i * 1300000000 + 1300000000 := Nat.succ_mul _ _
    by_cases hlast : i + 1 < T.length
    · (first | (refine H.wg ?_; clear H; intros; rename_i w H; constructor) | refine wk ?_)
      refine (end_tbl H.data n k).use ?_
      rintro v w ⟨V4, er, hV4, K, rfl, her⟩
      (have hKb := K.base; replace H := Rel.call H K)
      simp only [List.nil_append] at H
      (first | (refine H.wg ?_; clear H; intros; rename_i w H; constructor) | refine wk ?_)
      refine Rel.appD H (i := 0) rfl her (by omega) ?_
      clear H
      intro o5 w H
      simp only [List.set_cons_zero] at H
      (first | (refine H.wg ?_; clear H; intros; rename_i w H; constructor) | refine wk ?_)
      refine ⟨(by repeat (first | exact trivial | refine ⟨rfl, ?_⟩)), (i + 1, o5, acc2 ++ tEnd k), ⟨rfl, ?_, rfl, trivial⟩, ⟨by dsimp only; omega, ?_, ?_, V4, hV3.trans hV4, H⟩, by dsimp only; omega⟩
      · show some (Value.int .i64 _) = some (.int .i64 _)
        dsimp only
        rw [hnum]
      · dsimp only
        rw [if_pos hlast, hRt, List.flatMap_append, hacc2, hacc]; simp
      · dsimp only
        rw [List.length_append]
        omega
    · have hfl := fileB_last (sepB n) (tEnd k) o (R := R) (i := i) (r := rm) (by omega) hRg
      cases o with
      | false =>
        rw [if_neg (by decide)] at hfl
        (first | (refine H.wg ?_; clear H; intros; rename_i w H; constructor) | refine wk ?_)
        refine (end_tbl H.data n k).use ?_
        rintro v w ⟨V4, er, hV4, K, rfl, her⟩
        (have hKb := K.base; replace H := Rel.call H K)
        simp only [List.nil_append] at H
        (first | (refine H.wg ?_; clear H; intros; rename_i w H; constructor) | refine wk ?_)
        refine Rel.appD H (i := 0) rfl her (by omega) ?_
        clear H
        intro o5 w H
        simp only [List.set_cons_zero] at H
        (first | (refine H.wg ?_; clear H; intros; rename_i w H; constructor) | refine wk ?_)
        refine ⟨(by repeat (first | exact trivial | refine ⟨rfl, ?_⟩)), (i + 1, o5, acc2 ++ tEnd k), ⟨rfl, ?_, rfl, trivial⟩, ⟨by dsimp only; omega, ?_, ?_, V4, hV3.trans hV4, H⟩, by dsimp only; omega⟩
        · show some (Value.int .i64 _) = some (.int .i64 _)
          dsimp only
          rw [hnum]
        · dsimp only
          rw [if_neg hlast, hfl, hacc2, hacc]
        · dsimp only
          rw [List.length_append]
          omega
      | true =>
        rw [if_pos rfl, List.append_nil] at hfl
        (first | (refine H.wg ?_; clear H; intros; rename_i w H; constructor) | refine wk ?_)
        refine ⟨(by repeat (first | exact trivial | refine ⟨rfl, ?_⟩)), (i + 1, o2, acc2), ⟨rfl, ?_, rfl, trivial⟩, ⟨by dsimp only; omega, ?_, ?_, V3, hV3, H⟩, by dsimp only; omega⟩
        · show some (Value.int .i64 _) = some (.int .i64 _)
          dsimp only
          rw [hnum]
        · dsimp only
          rw [if_neg hlast, hfl, hacc2, hacc]
        · dsimp only
          omega
  obtain ⟨p1, c1⟩ := (g1.up hV3).at1 (g := fun x : Sl => x.v) (fun _ => rfl) (i := j) (by omega)
  have hyg := g2.all j (gs[j]'(by omega)) r[j] (List.getElem?_eq_getElem _) (List.getElem?_eq_getElem _)
  have hmg := markR_get (sepB n) Z (r := r) (k := N) hjl
  rw [← hrm] at hmg
  obtain ⟨g, hg⟩ : ∃ g, g = gs[j]'(by omega) := ⟨_, rfl⟩
  obtain ⟨y, hye⟩ : ∃ y, y = r[j] := ⟨_, rfl⟩
  have hyl := hr2 y (by rw [hye]; exact List.getElem_mem hjl)
  rw [← hg] at c1 hyg
  rw [← hye] at hyg hmg
  have hy := hyg.up hV3
  have hyl2 : y.length ≤ 100000000 := Nat.le_trans hyl (by decide)
  have hrt : rm.take (j + 1) = rm.take j ++ [wrC (sepB n) Z (N + j) y] := by
    obtain ⟨q1, q2⟩ := List.getElem?_eq_some_iff.1 hmg
    rw [List.take_succ_eq_append_getElem q1, q2]
  by_cases hj0 : j = 0
  · have hstep : acc ++ outR (sepB n) (rm.take (j + 1)) = acc2 ++ outC (wrC (sepB n) Z (N + j) y) := by
      rw [hrt, hacc2, hj0]
      simp [outR]
    (first | (refine H.wg ?_; clear H; intros; rename_i w H; constructor) | refine wk ?_)
    refine (needs_tbl H.data (tabs_up' hT hV3) (hM.up hV3) hn k hy hyl2).use ?_
    rintro v w ⟨rfl, K⟩
    (have hKb := K.base; replace H := Rel.call H K)
    simp only [List.nil_append] at H
    cases hN : tNeeds (sepB n) y with
    | true =>
      have hq : (tNeeds (sepB n) y || Z.contains (N + j)) = true := by rw [hN]; rfl
      have hout : outC (wrC (sepB n) Z (N + j) y) = 34 :: (esc y ++ [34]) := by unfold wrC outC; rw [hq]; rfl
      (first | (refine H.wh ?_; clear H; intros; rename_i w H; constructor) | refine wk ?_)
      ((first | refine Rel.nwD H ?_ | refine Rel.nw H ?_); clear H; intro w b43 H)
      replace H := H.blkEq (c' := ([34] : List UInt8).flatMap byC) rfl
      obtain ⟨U1, hU1, H1, q1⟩ := H.freezeBlk
      clear H
      have H := H1
      clear H1
      (first | (refine H.wh ?_; clear H; intros; rename_i w H; constructor) | refine wk ?_)
      ((first | refine Rel.nwD H ?_ | refine Rel.nw H ?_); clear H; intro w b45 H)
      replace H := H.blkEq (c' := ([34] : List UInt8).flatMap byC) rfl
      obtain ⟨U2, hU2, H1, q2⟩ := H.freezeBlk
      clear H
      have H := H1
      clear H1
      (first | (refine H.wh ?_; clear H; intros; rename_i w H; constructor) | refine wk ?_)
      ((first | refine Rel.nwD H ?_ | refine Rel.nw H ?_); clear H; intro w b46 H)
      replace H := H.blkEq (c' := ([34, 34] : List UInt8).flatMap byC) rfl
      obtain ⟨U3, hU3, H1, q3⟩ := H.freezeBlk
      clear H
      have H := H1
      clear H1
      have hU := (hU1.trans hU2).trans hU3
      have k1 : Byt U3 ⟨some ⟨b43, 0, none⟩, 1, 1⟩ [34] := ⟨rfl, Nat.le_refl _, q1.cells.sub' (hU2.trans hU3)⟩
      have k2 : Byt U3 ⟨some ⟨b45, 0, none⟩, 1, 1⟩ [34] := ⟨rfl, Nat.le_refl _, q2.cells.sub' hU3⟩
      have k3 : Byt U3 ⟨some ⟨b46, 0, none⟩, 2, 2⟩ [34, 34] := ⟨rfl, Nat.le_refl _, q3.cells⟩
      (first | (refine H.wg ?_; clear H; intros; rename_i w H; constructor) | refine wk ?_)
      refine (replaceAll_spec H.data (hy.up hU) hyl2 k2 k3).use ?_
      rintro v w ⟨U4, er, hU4, K, rfl, her⟩
      (have hKb := K.base; replace H := Rel.call H K)
      simp only [List.nil_append] at H
      (first | (refine H.wh ?_; clear H; intros; rename_i w H; constructor) | refine wk ?_)
      ((first | refine Rel.nwD H ?_ | refine Rel.nw H ?_); clear H; intro w b48 H)
      replace H := H.blkEq (c' := ([34] : List UInt8).flatMap byC) rfl
      obtain ⟨U5, hU5, H1, q4⟩ := H.freezeBlk
      clear H
      have H := H1
      clear H1
      (first | (refine H.wh ?_; clear H; intros; rename_i w H; constructor) | refine wk ?_)
      ((first | refine Rel.nwD H ?_ | refine Rel.nw H ?_); clear H; intro w b49 H)
      obtain ⟨U6, hU6, H1, q5⟩ := H.freezeBlk
      clear H
      have H := H1
      clear H1
      have hll : SlF slC U6 ⟨some ⟨b49, 0, none⟩, 3, 3⟩ [⟨some ⟨b43, 0, none⟩, 1, 1⟩, er, ⟨some ⟨b48, 0, none⟩, 1, 1⟩] := ⟨rfl, Nat.le_refl _, q5.cells⟩
      have hpw : Pw BytR U6 [⟨some ⟨b43, 0, none⟩, 1, 1⟩, er, ⟨some ⟨b48, 0, none⟩, 1, 1⟩] [[34], esc y, [34]] := ⟨rfl, fun i x y hx hy => by
        match i, hx, hy with
        | 0, hx, hy => cases hx; cases hy; exact k1.up ((hU4.trans hU5).trans hU6)
        | 1, hx, hy => cases hx; cases hy; exact her.up (hU5.trans hU6)
        | 2, hx, hy => cases hx; cases hy; exact ⟨rfl, Nat.le_refl _, q4.cells.sub' hU6⟩
        | i + 3, hx, hy => simp at hx⟩
      have hfl : ([[34], esc y, [34]] : List (List UInt8)).flatten = 34 :: (esc y ++ [34]) := by simp
      have hesl := esc_cnt y
      have hecl : y.count 34 ≤ y.length := List.count_le_length
      (first | (refine H.wg ?_; clear H; intros; rename_i w H; constructor) | refine wk ?_)
      refine (concat_bytes H.data hll hpw (by show 3 ≤ _; decide) (by rw [hfl]; simp only [List.length_append, List.length_cons, List.length_nil]; omega)).use ?_
      rintro v w ⟨r8, rfl, K⟩
      (have hKb := K.base; replace H := Rel.call H K)
      simp only [List.cons_append, List.nil_append] at H
      rw [hfl] at H
      obtain ⟨U7, hU7, H1, hr8⟩ := Rel.freezeF H (fun _ => rfl) (by decide)
      clear H
      have H := H1
      clear H1
      have hVf := (((hV3.trans hU).trans (hU4.trans hU5)).trans hU6).trans hU7
      (first | (refine H.wg ?_; clear H; intros; rename_i w H; constructor) | refine wk ?_)
      refine Rel.appD H (i := 0) rfl hr8 (by first | omega | (simp only [List.length_append, List.length_cons, List.length_nil]; omega)) ?_
      clear H
      intro o4 w H
      simp only [List.set_cons_zero] at H
      (first | (refine H.wg ?_; clear H; intros; rename_i w H; constructor) | refine wk ?_)
      refine ⟨(by repeat (first | exact trivial | refine ⟨rfl, ?_⟩)), (j + 1, o4, acc2 ++ (34 :: (esc y ++ [34]))), ⟨rfl, ?_, rfl, trivial⟩, ⟨by dsimp only; omega, ?_, ?_, U7, hVf, H⟩, by dsimp only; omega⟩
      · show some (Value.int .i64 _) = some (.int .i64 _)
        congr 2
      · dsimp only
        rw [hstep, hout]
      · simp only [List.length_append, List.length_cons, List.length_nil]
        omega
    | false =>
      (first | (refine H.wg ?_; clear H; intros; rename_i w H; constructor) | refine wk ?_)
      refine (contains_ints H.data (hqs.up hV3) (by rw [List.length_map]; omega) ((N + j : Nat) : Int)).use ?_
      rintro v w ⟨rfl, K⟩
      (have hKb := K.base; replace H := Rel.call H K)
      simp only [List.nil_append] at H
      rw [nz_mem]
      cases hZ : Z.contains (N + j) with
      | true =>
        have hq : (tNeeds (sepB n) y || Z.contains (N + j)) = true := by rw [hZ, Bool.or_true]
        have hout : outC (wrC (sepB n) Z (N + j) y) = 34 :: (esc y ++ [34]) := by unfold wrC outC; rw [hq]; rfl
        (first | (refine H.wh ?_; clear H; intros; rename_i w H; constructor) | refine wk ?_)
        ((first | refine Rel.nwD H ?_ | refine Rel.nw H ?_); clear H; intro w b43 H)
        replace H := H.blkEq (c' := ([34] : List UInt8).flatMap byC) rfl
        obtain ⟨U1, hU1, H1, q1⟩ := H.freezeBlk
        clear H
        have H := H1
        clear H1
        (first | (refine H.wh ?_; clear H; intros; rename_i w H; constructor) | refine wk ?_)
        ((first | refine Rel.nwD H ?_ | refine Rel.nw H ?_); clear H; intro w b45 H)
        replace H := H.blkEq (c' := ([34] : List UInt8).flatMap byC) rfl
        obtain ⟨U2, hU2, H1, q2⟩ := H.freezeBlk
        clear H
        have H := H1
        clear H1
        (first | (refine H.wh ?_; clear H; intros; rename_i w H; constructor) | refine wk ?_)
        ((first | refine Rel.nwD H ?_ | refine Rel.nw H ?_); clear H; intro w b46 H)
        replace H := H.blkEq (c' := ([34, 34] : List UInt8).flatMap byC) rfl
        obtain ⟨U3, hU3, H1, q3⟩ := H.freezeBlk
        clear H
        have H := H1
        clear H1
        have hU := (hU1.trans hU2).trans hU3
        have k1 : Byt U3 ⟨some ⟨b43, 0, none⟩, 1, 1⟩ [34] := ⟨rfl, Nat.le_refl _, q1.cells.sub' (hU2.trans hU3)⟩
        have k2 : Byt U3 ⟨some ⟨b45, 0, none⟩, 1, 1⟩ [34] := ⟨rfl, Nat.le_refl _, q2.cells.sub' hU3⟩
        have k3 : Byt U3 ⟨some ⟨b46, 0, none⟩, 2, 2⟩ [34, 34] := ⟨rfl, Nat.le_refl _, q3.cells⟩
        (first | (refine H.wg ?_; clear H; intros; rename_i w H; constructor) | refine wk ?_)
        refine (replaceAll_spec H.data (hy.up hU) hyl2 k2 k3).use ?_
        rintro v w ⟨U4, er, hU4, K, rfl, her⟩
        (have hKb := K.base; replace H := Rel.call H K)
        simp only [List.nil_append] at H
        (first | (refine H.wh ?_; clear H; intros; rename_i w H; constructor) | refine wk ?_)
        ((first | refine Rel.nwD H ?_ | refine Rel.nw H ?_); clear H; intro w b48 H)
        replace H := H.blkEq (c' := ([34] : List UInt8).flatMap byC) rfl
        obtain ⟨U5, hU5, H1, q4⟩ := H.freezeBlk
        clear H
        have H := H1
        clear H1
        (first | (refine H.wh ?_; clear H; intros; rename_i w H; constructor) | refine wk ?_)
        ((first | refine Rel.nwD H ?_ | refine Rel.nw H ?_); clear H; intro w b49 H)
        obtain ⟨U6, hU6, H1, q5⟩ := H.freezeBlk
        clear H
        have H := H1
        clear H1
        have hll : SlF slC U6 ⟨some ⟨b49, 0, none⟩, 3, 3⟩ [⟨some ⟨b43, 0, none⟩, 1, 1⟩, er, ⟨some ⟨b48, 0, none⟩, 1, 1⟩] := ⟨rfl, Nat.le_refl _, q5.cells⟩
        have hpw : Pw BytR U6 [⟨some ⟨b43, 0, none⟩, 1, 1⟩, er, ⟨some ⟨b48, 0, none⟩, 1, 1⟩] [[34], esc y, [34]] := ⟨rfl, fun i x y hx hy => by
          match i, hx, hy with
          | 0, hx, hy => cases hx; cases hy; exact k1.up ((hU4.trans hU5).trans hU6)
          | 1, hx, hy => cases hx; cases hy; exact her.up (hU5.trans hU6)
          | 2, hx, hy => cases hx; cases hy; exact ⟨rfl, Nat.le_refl _, q4.cells.sub' hU6⟩
          | i + 3, hx, hy => simp at hx⟩
        have hfl : ([[34], esc y, [34]] : List (List UInt8)).flatten = 34 :: (esc y ++ [34]) := by simp
        have hesl := esc_cnt y
        have hecl : y.count 34 ≤ y.length := List.count_le_length
        (first | (refine H.wg ?_; clear H; intros; rename_i w H; constructor) | refine wk ?_)
        refine (concat_bytes H.data hll hpw (by show 3 ≤ _; decide) (by rw [hfl]; simp only [List.length_append, List.length_cons, List.length_nil]; omega)).use ?_
        rintro v w ⟨r8, rfl, K⟩
        (have hKb := K.base; replace H := Rel.call H K)
        simp only [List.cons_append, List.nil_append] at H
        rw [hfl] at H
        obtain ⟨U7, hU7, H1, hr8⟩ := Rel.freezeF H (fun _ => rfl) (by decide)
        clear H
        have H := H1
        clear H1
        have hVf := (((hV3.trans hU).trans (hU4.trans hU5)).trans hU6).trans hU7
        (first | (refine H.wg ?_; clear H; intros; rename_i w H; constructor) | refine wk ?_)
        refine Rel.appD H (i := 0) rfl hr8 (by first | omega | (simp only [List.length_append, List.length_cons, List.length_nil]; omega)) ?_
        clear H
        intro o4 w H
        simp only [List.set_cons_zero] at H
        (first | (refine H.wg ?_; clear H; intros; rename_i w H; constructor) | refine wk ?_)
        refine ⟨(by repeat (first | exact trivial | refine ⟨rfl, ?_⟩)), (j + 1, o4, acc2 ++ (34 :: (esc y ++ [34]))), ⟨rfl, ?_, rfl, trivial⟩, ⟨by dsimp only; omega, ?_, ?_, U7, hVf, H⟩, by dsimp only; omega⟩
        · show some (Value.int .i64 _) = some (.int .i64 _)
          congr 2
        · dsimp only
          rw [hstep, hout]
        · simp only [List.length_append, List.length_cons, List.length_nil]
          omega
      | false =>
        have hout : outC (wrC (sepB n) Z (N + j) y) = y := by unfold wrC outC; rw [hN, hZ]; rfl
        (first | (refine H.wg ?_; clear H; intros; rename_i w H; constructor) | refine wk ?_)
        refine Rel.appD H (i := 0) rfl hy (by first | omega | (simp only [List.length_append, List.length_cons, List.length_nil]; omega)) ?_
        clear H
        intro o4 w H
        simp only [List.set_cons_zero] at H
        (first | (refine H.wg ?_; clear H; intros; rename_i w H; constructor) | refine wk ?_)
        refine ⟨(by repeat (first | exact trivial | refine ⟨rfl, ?_⟩)), (j + 1, o4, acc2 ++ y), ⟨rfl, ?_, rfl, trivial⟩, ⟨by dsimp only; omega, ?_, ?_, V3, hV3, H⟩, by dsimp only; omega⟩
        · show some (Value.int .i64 _) = some (.int .i64 _)
          congr 2
        · dsimp only
          rw [hstep, hout]
        · simp only [List.length_append, List.length_cons, List.length_nil]
          omega
  · have hstep : acc ++ outR (sepB n) (rm.take (j + 1)) = (acc2 ++ [sepB n]) ++ outC (wrC (sepB n) Z (N + j) y) := by
      rw [hrt, hacc2, outR_snoc _ _ (List.ne_nil_of_length_pos (by rw [List.length_take]; omega))]
      simp
    have hgs := sep_get hn
    (first | (refine H.wg ?_; clear H; intros; rename_i w H; constructor) | refine wk ?_)
    refine Rel.app1_0 (f := byC) (s := o2) (l := acc2) (x := sepB n) tabOk rfl rfl rfl rfl rfl (by decide) (fun _ => rfl) (by simp [Value.oneCell']) H (by show (acc2.length + 1) * 1 ≤ _; omega) (by omega) ?_
    clear H
    intro o3 w H
    (first | (refine H.wg ?_; clear H; intros; rename_i w H; constructor) | refine wk ?_)
    refine (needs_tbl H.data (tabs_up' hT hV3) (hM.up hV3) hn k hy hyl2).use ?_
    rintro v w ⟨rfl, K⟩
    (have hKb := K.base; replace H := Rel.call H K)
    simp only [List.nil_append] at H
    cases hN : tNeeds (sepB n) y with
    | true =>
      have hq : (tNeeds (sepB n) y || Z.contains (N + j)) = true := by rw [hN]; rfl
      have hout : outC (wrC (sepB n) Z (N + j) y) = 34 :: (esc y ++ [34]) := by unfold wrC outC; rw [hq]; rfl
      (first | (refine H.wh ?_; clear H; intros; rename_i w H; constructor) | refine wk ?_)
      ((first | refine Rel.nwD H ?_ | refine Rel.nw H ?_); clear H; intro w b43 H)
      replace H := H.blkEq (c' := ([34] : List UInt8).flatMap byC) rfl
      obtain ⟨U1, hU1, H1, q1⟩ := H.freezeBlk
      clear H
      have H := H1
      clear H1
      (first | (refine H.wh ?_; clear H; intros; rename_i w H; constructor) | refine wk ?_)
      ((first | refine Rel.nwD H ?_ | refine Rel.nw H ?_); clear H; intro w b45 H)
      replace H := H.blkEq (c' := ([34] : List UInt8).flatMap byC) rfl
      obtain ⟨U2, hU2, H1, q2⟩ := H.freezeBlk
      clear H
      have H := H1
      clear H1
      (first | (refine H.wh ?_; clear H; intros; rename_i w H; constructor) | refine wk ?_)
      ((first | refine Rel.nwD H ?_ | refine Rel.nw H ?_); clear H; intro w b46 H)
      replace H := H.blkEq (c' := ([34, 34] : List UInt8).flatMap byC) rfl
      obtain ⟨U3, hU3, H1, q3⟩ := H.freezeBlk
      clear H
      have H := H1
      clear H1
      have hU := (hU1.trans hU2).trans hU3
      have k1 : Byt U3 ⟨some ⟨b43, 0, none⟩, 1, 1⟩ [34] := ⟨rfl, Nat.le_refl _, q1.cells.sub' (hU2.trans hU3)⟩
      have k2 : Byt U3 ⟨some ⟨b45, 0, none⟩, 1, 1⟩ [34] := ⟨rfl, Nat.le_refl _, q2.cells.sub' hU3⟩
      have k3 : Byt U3 ⟨some ⟨b46, 0, none⟩, 2, 2⟩ [34, 34] := ⟨rfl, Nat.le_refl _, q3.cells⟩
      (first | (refine H.wg ?_; clear H; intros; rename_i w H; constructor) | refine wk ?_)
      refine (replaceAll_spec H.data (hy.up hU) hyl2 k2 k3).use ?_
      rintro v w ⟨U4, er, hU4, K, rfl, her⟩
      (have hKb := K.base; replace H := Rel.call H K)
      simp only [List.nil_append] at H
      (first | (refine H.wh ?_; clear H; intros; rename_i w H; constructor) | refine wk ?_)
      ((first | refine Rel.nwD H ?_ | refine Rel.nw H ?_); clear H; intro w b48 H)
      replace H := H.blkEq (c' := ([34] : List UInt8).flatMap byC) rfl
      obtain ⟨U5, hU5, H1, q4⟩ := H.freezeBlk
      clear H
      have H := H1
      clear H1
      (first | (refine H.wh ?_; clear H; intros; rename_i w H; constructor) | refine wk ?_)
      ((first | refine Rel.nwD H ?_ | refine Rel.nw H ?_); clear H; intro w b49 H)
      obtain ⟨U6, hU6, H1, q5⟩ := H.freezeBlk
      clear H
      have H := H1
      clear H1
      have hll : SlF slC U6 ⟨some ⟨b49, 0, none⟩, 3, 3⟩ [⟨some ⟨b43, 0, none⟩, 1, 1⟩, er, ⟨some ⟨b48, 0, none⟩, 1, 1⟩] := ⟨rfl, Nat.le_refl _, q5.cells⟩
      have hpw : Pw BytR U6 [⟨some ⟨b43, 0, none⟩, 1, 1⟩, er, ⟨some ⟨b48, 0, none⟩, 1, 1⟩] [[34], esc y, [34]] := ⟨rfl, fun i x y hx hy => by
        match i, hx, hy with
        | 0, hx, hy => cases hx; cases hy; exact k1.up ((hU4.trans hU5).trans hU6)
        | 1, hx, hy => cases hx; cases hy; exact her.up (hU5.trans hU6)
        | 2, hx, hy => cases hx; cases hy; exact ⟨rfl, Nat.le_refl _, q4.cells.sub' hU6⟩
        | i + 3, hx, hy => simp at hx⟩
      have hfl : ([[34], esc y, [34]] : List (List UInt8)).flatten = 34 :: (esc y ++ [34]) := by simp
      have hesl := esc_cnt y
      have hecl : y.count 34 ≤ y.length := List.count_le_length
      (first | (refine H.wg ?_; clear H; intros; rename_i w H; constructor) | refine wk ?_)
      refine (concat_bytes H.data hll hpw (by show 3 ≤ _; decide) (by rw [hfl]; simp only [List.length_append, List.length_cons, List.length_nil]; omega)).use ?_
      rintro v w ⟨r8, rfl, K⟩
      (have hKb := K.base; replace H := Rel.call H K)
      simp only [List.cons_append, List.nil_append] at H
      rw [hfl] at H
      obtain ⟨U7, hU7, H1, hr8⟩ := Rel.freezeF H (fun _ => rfl) (by decide)
      clear H
      have H := H1
      clear H1
      have hVf := (((hV3.trans hU).trans (hU4.trans hU5)).trans hU6).trans hU7
      (first | (refine H.wg ?_; clear H; intros; rename_i w H; constructor) | refine wk ?_)
      refine Rel.appD H (i := 0) rfl hr8 (by first | omega | (simp only [List.length_append, List.length_cons, List.length_nil]; omega)) ?_
      clear H
      intro o4 w H
      simp only [List.set_cons_zero] at H
      (first | (refine H.wg ?_; clear H; intros; rename_i w H; constructor) | refine wk ?_)
      refine ⟨(by repeat (first | exact trivial | refine ⟨rfl, ?_⟩)), (j + 1, o4, (acc2 ++ [sepB n]) ++ (34 :: (esc y ++ [34]))), ⟨rfl, ?_, rfl, trivial⟩, ⟨by dsimp only; omega, ?_, ?_, U7, hVf, H⟩, by dsimp only; omega⟩
      · show some (Value.int .i64 _) = some (.int .i64 _)
        congr 2
      · dsimp only
        rw [hstep, hout]
      · simp only [List.length_append, List.length_cons, List.length_nil]
        omega
    | false =>
      (first | (refine H.wg ?_; clear H; intros; rename_i w H; constructor) | refine wk ?_)
      refine (contains_ints H.data (hqs.up hV3) (by rw [List.length_map]; omega) ((N + j : Nat) : Int)).use ?_
      rintro v w ⟨rfl, K⟩
      (have hKb := K.base; replace H := Rel.call H K)
      simp only [List.nil_append] at H
      rw [nz_mem]
      cases hZ : Z.contains (N + j) with
      | true =>
        have hq : (tNeeds (sepB n) y || Z.contains (N + j)) = true := by rw [hZ, Bool.or_true]
        have hout : outC (wrC (sepB n) Z (N + j) y) = 34 :: (esc y ++ [34]) := by unfold wrC outC; rw [hq]; rfl
        (first | (refine H.wh ?_; clear H; intros; rename_i w H; constructor) | refine wk ?_)
        ((first | refine Rel.nwD H ?_ | refine Rel.nw H ?_); clear H; intro w b43 H)
        replace H := H.blkEq (c' := ([34] : List UInt8).flatMap byC) rfl
        obtain ⟨U1, hU1, H1, q1⟩ := H.freezeBlk
        clear H
        have H := H1
        clear H1
        (first | (refine H.wh ?_; clear H; intros; rename_i w H; constructor) | refine wk ?_)
        ((first | refine Rel.nwD H ?_ | refine Rel.nw H ?_); clear H; intro w b45 H)
        replace H := H.blkEq (c' := ([34] : List UInt8).flatMap byC) rfl
        obtain ⟨U2, hU2, H1, q2⟩ := H.freezeBlk
        clear H
        have H := H1
        clear H1
        (first | (refine H.wh ?_; clear H; intros; rename_i w H; constructor) | refine wk ?_)
        ((first | refine Rel.nwD H ?_ | refine Rel.nw H ?_); clear H; intro w b46 H)
        replace H := H.blkEq (c' := ([34, 34] : List UInt8).flatMap byC) rfl
        obtain ⟨U3, hU3, H1, q3⟩ := H.freezeBlk
        clear H
        have H := H1
        clear H1
        have hU := (hU1.trans hU2).trans hU3
        have k1 : Byt U3 ⟨some ⟨b43, 0, none⟩, 1, 1⟩ [34] := ⟨rfl, Nat.le_refl _, q1.cells.sub' (hU2.trans hU3)⟩
        have k2 : Byt U3 ⟨some ⟨b45, 0, none⟩, 1, 1⟩ [34] := ⟨rfl, Nat.le_refl _, q2.cells.sub' hU3⟩
        have k3 : Byt U3 ⟨some ⟨b46, 0, none⟩, 2, 2⟩ [34, 34] := ⟨rfl, Nat.le_refl _, q3.cells⟩
        (first | (refine H.wg ?_; clear H; intros; rename_i w H; constructor) | refine wk ?_)
        refine (replaceAll_spec H.data (hy.up hU) hyl2 k2 k3).use ?_
        rintro v w ⟨U4, er, hU4, K, rfl, her⟩
        (have hKb := K.base; replace H := Rel.call H K)
        simp only [List.nil_append] at H
        (first | (refine H.wh ?_; clear H; intros; rename_i w H; constructor) | refine wk ?_)
        ((first | refine Rel.nwD H ?_ | refine Rel.nw H ?_); clear H; intro w b48 H)
        replace H := H.blkEq (c' := ([34] : List UInt8).flatMap byC) rfl
        obtain ⟨U5, hU5, H1, q4⟩ := H.freezeBlk
        clear H
        have H := H1
        clear H1
        (first | (refine H.wh ?_; clear H; intros; rename_i w H; constructor) | refine wk ?_)
        ((first | refine Rel.nwD H ?_ | refine Rel.nw H ?_); clear H; intro w b49 H)
        obtain ⟨U6, hU6, H1, q5⟩ := H.freezeBlk
        clear H
        have H := H1
        clear H1
        have hll : SlF slC U6 ⟨some ⟨b49, 0, none⟩, 3, 3⟩ [⟨some ⟨b43, 0, none⟩, 1, 1⟩, er, ⟨some ⟨b48, 0, none⟩, 1, 1⟩] := ⟨rfl, Nat.le_refl _, q5.cells⟩
        have hpw : Pw BytR U6 [⟨some ⟨b43, 0, none⟩, 1, 1⟩, er, ⟨some ⟨b48, 0, none⟩, 1, 1⟩] [[34], esc y, [34]] := ⟨rfl, fun i x y hx hy => by
          match i, hx, hy with
          | 0, hx, hy => cases hx; cases hy; exact k1.up ((hU4.trans hU5).trans hU6)
          | 1, hx, hy => cases hx; cases hy; exact her.up (hU5.trans hU6)
          | 2, hx, hy => cases hx; cases hy; exact ⟨rfl, Nat.le_refl _, q4.cells.sub' hU6⟩
          | i + 3, hx, hy => simp at hx⟩
        have hfl : ([[34], esc y, [34]] : List (List UInt8)).flatten = 34 :: (esc y ++ [34]) := by simp
        have hesl := esc_cnt y
        have hecl : y.count 34 ≤ y.length := List.count_le_length
        (first | (refine H.wg ?_; clear H; intros; rename_i w H; constructor) | refine wk ?_)
        refine (concat_bytes H.data hll hpw (by show 3 ≤ _; decide) (by rw [hfl]; simp only [List.length_append, List.length_cons, List.length_nil]; omega)).use ?_
        rintro v w ⟨r8, rfl, K⟩
        (have hKb := K.base; replace H := Rel.call H K)
        simp only [List.cons_append, List.nil_append] at H
        rw [hfl] at H
        obtain ⟨U7, hU7, H1, hr8⟩ := Rel.freezeF H (fun _ => rfl) (by decide)
        clear H
        have H := H1
        clear H1
        have hVf := (((hV3.trans hU).trans (hU4.trans hU5)).trans hU6).trans hU7
        (first | (refine H.wg ?_; clear H; intros; rename_i w H; constructor) | refine wk ?_)
        refine Rel.appD H (i := 0) rfl hr8 (by first | omega | (simp only [List.length_append, List.length_cons, List.length_nil]; omega)) ?_
        clear H
        intro o4 w H
        simp only [List.set_cons_zero] at H
        (first | (refine H.wg ?_; clear H; intros; rename_i w H; constructor) | refine wk ?_)
        refine ⟨(by repeat (first | exact trivial | refine ⟨rfl, ?_⟩)), (j + 1, o4, (acc2 ++ [sepB n]) ++ (34 :: (esc y ++ [34]))), ⟨rfl, ?_, rfl, trivial⟩, ⟨by dsimp only; omega, ?_, ?_, U7, hVf, H⟩, by dsimp only; omega⟩
        · show some (Value.int .i64 _) = some (.int .i64 _)
          congr 2
        · dsimp only
          rw [hstep, hout]
        · simp only [List.length_append, List.length_cons, List.length_nil]
          omega
      | false =>
        have hout : outC (wrC (sepB n) Z (N + j) y) = y := by unfold wrC outC; rw [hN, hZ]; rfl
        (first | (refine H.wg ?_; clear H; intros; rename_i w H; constructor) | refine wk ?_)
        refine Rel.appD H (i := 0) rfl hy (by first | omega | (simp only [List.length_append, List.length_cons, List.length_nil]; omega)) ?_
        clear H
        intro o4 w H
        simp only [List.set_cons_zero] at H
        (first | (refine H.wg ?_; clear H; intros; rename_i w H; constructor) | refine wk ?_)
        refine ⟨(by repeat (first | exact trivial | refine ⟨rfl, ?_⟩)), (j + 1, o4, (acc2 ++ [sepB n]) ++ y), ⟨rfl, ?_, rfl, trivial⟩, ⟨by dsimp only; omega, ?_, ?_, V3, hV3, H⟩, by dsimp only; omega⟩
        · show some (Value.int .i64 _) = some (.int .i64 _)
          congr 2
        · dsimp only
          rw [hstep, hout]
        · simp only [List.length_append, List.length_cons, List.length_nil]
          omega
end
end Go.Proofs.YtkfcdjomkcmkeaaGreatDoor
