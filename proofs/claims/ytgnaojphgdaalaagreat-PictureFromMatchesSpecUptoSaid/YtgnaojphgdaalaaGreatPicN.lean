/-
  Pictures: reading a file.
-/
import Derived.Test.YtgnaojphgdaalaaGreatPicM
namespace Go.Proofs.YtgnaojphgdaalaaGreat
open Go Go.RowKit

structure PicP (W V : World) (o : Option Pic) (v : Value) (w' : World) : Prop where
  ex : ∃ (V' : World) (a b : Int) (f : Nat) (r ps : Sl), Sub V V' ∧ Rel W V [] V' w' ∧ (match o with
    | none => v = .tuple #[iv a, iv b, r.v, .agg (styC f ps).toArray, .bool false]
    | some x => v = .tuple #[iv x.wd, iv x.ht, r.v, .agg (styC x.f ps).toArray, .bool true] ∧ Byt V' r x.px ∧ Cols V' ps x.pal)
theorem picFile_not {b : List UInt8} (h : b.take 4 ≠ ras1) : picFile b = none := by unfold picFile; rw [if_neg h]
theorem picFile_short {b : List UInt8} (h : (b.drop 4).length < 3) : picFile b = none := by
  unfold picFile
  split
  · split
    · rename_i he
      rw [he] at h
      simp at h
      omega
    · rfl
  · rfl
theorem picFile_head {b : List UInt8} (h : b.take 4 = ras1) {f w t : UInt8} {l : List UInt8} (he : b.drop 4 = f :: w :: t :: l) : picFile b = picHead f.toNat w.toNat t.toNat l := by
  unfold picFile
  rw [if_pos h, he]
section
variable {V W : World}
set_option maxRecDepth 100000 in
set_option maxHeartbeats 1000000 in
theorem read_spec (hV : Sub V W) {s : Sl} {l : List UInt8} (hs : Byt V s l) (hl : l.length ≤ 1000) : Ret Tryz.prog 32 [s.v].toArray W (PicP W V (picFile l)) := by
  have H := Rel.start hV
  refine cal_of_sem tabOk Tryz.func32 rfl (by kernel_rfl) 107 rfl (by simp) [0, 2, 3, 4, 5, 6, 7, 21, 57, 60, 71, 91] ?_
  refine SemC.seqGo tabOk ?_
  (first | (refine H.wh ?_; clear H; intros; rename_i w H; constructor) | refine wk ?_)
  ((first | refine Rel.nwD H ?_ | refine Rel.nw H ?_); clear H; intro w b5 H)
  (first | (refine H.wg ?_; clear H; intros; rename_i w H; constructor) | refine wk ?_)
  refine SemC.seqGo tabOk ?_
  (first | (refine H.wh ?_; clear H; intros; rename_i w H; constructor) | refine wk ?_)
  ((first | refine Rel.nwD H ?_ | refine Rel.nw H ?_); clear H; intro w bm H)
  (first | (refine H.wh ?_; clear H; intros; rename_i w H; constructor) | refine wk ?_)
  refine Rel.convBB (l := [82, 65, 83, 49]) Tryz.underlying22 Tryz.underlying5 H rfl ?_
  clear H
  intro V1 w hV1 hm H
  (first | (refine H.wg ?_; clear H; intros; rename_i w H; constructor) | refine wk ?_)
  refine (cutPrefix_spec H.data (hs.up hV1) hm).use ?_
  rintro v w ⟨⟨r, rfl, hr⟩, K⟩
  (have hKb := K.base; replace H := H.call0 K)
  have hlen4 : ([82, 65, 83, 49] : List UInt8).length = 4 := rfl
  rw [hlen4] at hr ⊢
  (first | (refine H.wg ?_; clear H; intros; rename_i w H; constructor) | refine wk ?_)
  by_cases hp : l.take 4 = ras1
  rotate_left
  · rw [picFile_not hp, decide_eq_false hp]
    refine SemC.seqGo tabOk ?_
    (first | (refine H.wg ?_; clear H; intros; rename_i w H; constructor) | refine wk ?_)
    exact ⟨_, _, _, 0, ⟨none, 0, 0⟩, ⟨none, 0, 0⟩, hV1, H.sx, rfl⟩
  rw [decide_eq_true hp]
  replace hr := hr hp
  have hrl := hr.len
  by_cases h3 : (l.drop 4).length < 3
  · rw [picFile_short h3]
    refine SemC.seqGo tabOk ?_
    (first | (refine H.wg ?_; clear H; intros; rename_i w H; constructor) | refine wk ?_)
    exact ⟨_, _, _, 0, ⟨none, 0, 0⟩, ⟨none, 0, 0⟩, hV1, H.sx, rfl⟩
  obtain ⟨x0, x1, x2, T, hL⟩ : ∃ x0 x1 x2 T, l.drop 4 = x0 :: x1 :: x2 :: T := by
    match hd : l.drop 4, h3 with
    | x0 :: x1 :: x2 :: T, _ => exact ⟨x0, x1, x2, T, rfl⟩
    | [], h => simp at h
    | [_], h => simp at h
    | [_, _], h => simp at h
  have hTl : T.length + 7 ≤ 1000 := by
    have := congrArg List.length hL
    simp at this
    omega
  rw [hL] at hr hrl
  rw [picFile_head hp hL]
  have z0 := x0.toNat_lt
  have z1 := x1.toNat_lt
  have z2 := x2.toNat_lt
  obtain ⟨p0, c0⟩ := hr.at1 (g := bv) (i := 0) (fun _ => rfl) (by simp)
  obtain ⟨p1, c1⟩ := hr.at1 (g := bv) (i := 1) (fun _ => rfl) (by simp)
  obtain ⟨p2, c2⟩ := hr.at1 (g := bv) (i := 2) (fun _ => rfl) (by simp)
  simp only [List.getElem_cons_zero, List.getElem_cons_succ] at c0 c1 c2
  have hrc := hr.cap
  simp only [List.length_cons] at hrl
  have ht := hr.rest (k := 3) (by simp)
  simp only [List.drop_succ_cons, List.drop_zero] at ht
  refine SemC.seqGo tabOk ?_
  (first | (refine H.wg ?_; clear H; intros; rename_i w H; constructor) | refine wk ?_)
  refine SemC.seqGo tabOk ?_
  ((first | refine draw_vcX (id := 4) tabOk mixed (Sav [b5]) (fun _ _ _ => Sav.trans) [13] [6, 7, 10, 11] [0, 1, 2, 3, 4, 5, 6, 7, 8, 9, 10, 11, 12, 13, 14, 15] (by kernel_rfl) ?_); intro w hdw; replace H := Rel.ext H hdw.ext)
  repeat ((refine wk ?_); (refine And.intro (fun w1 hsv => ?_) ?_; focus (obtain ⟨_, H1⟩ := Rel.savAt H (i := 0) rfl rfl hsv; clear H; have H := H1; clear H1; ((repeat ((conv => whnf); first | refine an ?_ | ((first | refine H.nwD ?_ | refine H.nw ?_); clear H; intro w _ H) | refine H.ce ?_ | refine H.db ?_ | refine ea ?_ | refine ol ?_ | (refine H.st ?_; (conv => whnf); clear H; intro w H) | refine cT ?_ | refine cF ?_ | refine cN ?_ | refine cM ?_ | refine H.lw ?_ | refine H.ll ?_)); (conv => whnf)); try exact ⟨rfl, rfl⟩)))
  (refine wk ?_)
  (refine Rel.storeXAt H (i := 0) rfl ?_; (conv => whnf); clear H; intro w H)
  (first | (refine H.wg ?_; clear H; intros; rename_i w H; constructor) | refine wk ?_)
  refine SemC.seqGo tabOk ?_
  (first | (refine H.wg ?_; clear H; intros; rename_i w H; constructor) | refine wk ?_)
  refine SemC.seqGo tabOk ?_
  (first | (refine H.wg ?_; clear H; intros; rename_i w H; constructor) | refine wk ?_)
  refine (validFlags_spec x0.toNat w z0).use ?_
  rintro v w' ⟨rfl, rfl⟩
  unfold picHead
  by_cases hk : flagOk x0.toNat ∧ sideOk x1.toNat ∧ sideOk x2.toNat
  rotate_left
  · rw [if_neg hk]
    unfold flagOk sideOk at hk
    by_cases hfo : x0.toNat < 64 ∧ x0.toNat % 16 < 4
    rotate_left
    · rw [decide_eq_false hfo]
      (first | (refine H.wg ?_; clear H; intros; rename_i w H; constructor) | refine wk ?_)
      exact ⟨_, _, _, 0, ⟨none, 0, 0⟩, ⟨none, 0, 0⟩, hV1, H.sx, rfl⟩
    rw [decide_eq_true hfo]
    by_cases q1 : x1.toNat < 1
    · (first | (refine H.wg ?_; clear H; intros; rename_i w H; constructor) | refine wk ?_)
      exact ⟨_, _, _, 0, ⟨none, 0, 0⟩, ⟨none, 0, 0⟩, hV1, H.sx, rfl⟩
    by_cases q2 : 64 < x1.toNat
    · (first | (refine H.wg ?_; clear H; intros; rename_i w H; constructor) | refine wk ?_)
      exact ⟨_, _, _, 0, ⟨none, 0, 0⟩, ⟨none, 0, 0⟩, hV1, H.sx, rfl⟩
    by_cases q3 : x2.toNat < 1
    · (first | (refine H.wg ?_; clear H; intros; rename_i w H; constructor) | refine wk ?_)
      exact ⟨_, _, _, 0, ⟨none, 0, 0⟩, ⟨none, 0, 0⟩, hV1, H.sx, rfl⟩
    · (first | (refine H.wg ?_; clear H; intros; rename_i w H; constructor) | refine wk ?_)
      exact ⟨_, _, _, 0, ⟨none, 0, 0⟩, ⟨none, 0, 0⟩, hV1, H.sx, rfl⟩
  rw [if_pos hk]
  obtain ⟨hfo, ⟨w1, w2⟩, h1, h2⟩ := hk
  unfold flagOk at hfo
  rw [decide_eq_true hfo]
  (first | (refine H.wg ?_; clear H; intros; rename_i w H; constructor) | refine wk ?_)
  refine SemC.seqCut tabOk (fun q : Sl × Sl => [(2, iv (x1.toNat : Nat)), (3, iv (x2.toNat : Nat)), (4, .slice none 0 0), (5, .pointer (some ⟨b5, 0, none⟩)), (6, .bool true), (7, q.1.v)])
    (fun q w' => ∃ V2 pal T2, Sub V1 V2 ∧ Rel W V [.blk b5 (styC x0.toNat q.2) 53] V2 w' ∧ styR x0.toNat T = some (pal, T2) ∧ Byt V2 q.1 T2 ∧ Cols V2 q.2 pal) ?_ ?_
  · (first | (refine H.wg ?_; clear H; intros; rename_i w H; constructor) | refine wk ?_)
    refine (indexed_spec H.data z0 ⟨none, 0, 0⟩).use ?_
    rintro q w ⟨rfl, K⟩
    (have hKb := K.base; replace H := H.call0 K)
    unfold styR
    by_cases h32 : x0.toNat < 32
    · rw [decide_eq_true h32, if_pos h32]
      (first | (refine H.wg ?_; clear H; intros; rename_i w H; constructor) | refine wk ?_)
      refine (depth_spec H.data z0 ⟨none, 0, 0⟩).use ?_
      rintro q w ⟨rfl, K⟩
      (have hKb := K.base; replace H := H.call0 K)
      (first | (refine H.wg ?_; clear H; intros; rename_i w H; constructor) | refine wk ?_)
      refine (readPalette_spec H.data ht (by omega) h32).use ?_
      rintro q w ⟨V2, rp, t, hV2, K, hk⟩
      (have hKb := K.base; replace H := H.call0 K)
      cases hpl : palR x0.toNat T with
      | none =>
        rw [hpl] at hk
        obtain rfl := hk
        (first | (refine H.wg ?_; clear H; intros; rename_i w H; constructor) | refine wk ?_)
        exact ⟨_, _, _, 0, ⟨none, 0, 0⟩, ⟨none, 0, 0⟩, hV1.trans hV2, H.sx, rfl⟩
      | some y =>
        obtain ⟨pal, T2⟩ := y
        rw [hpl] at hk
        obtain ⟨rfl, hrp, ht2⟩ := hk
        (first | (refine H.wg ?_; clear H; intros; rename_i w H; constructor) | refine wk ?_)
        exact ⟨(t, rp), (by repeat (first | exact trivial | refine ⟨rfl, ?_⟩)), V2, pal, T2, hV2, H.sx, rfl, ht2, hrp⟩
    · rw [decide_eq_false h32, if_neg h32]
      (first | (refine H.wg ?_; clear H; intros; rename_i w H; constructor) | refine wk ?_)
      exact ⟨(_, ⟨none, 0, 0⟩), (by repeat (first | exact trivial | refine ⟨rfl, ?_⟩)), V1, [], T, Sub.refl _, H.sx, rfl, ht, SlF.nil _ _⟩
  clear H
  rintro ⟨q, rp⟩ w ⟨V2, pal, T2, hV2, H, hsty, hq, hrp⟩
  dsimp only at H hq hrp
  have hpo := (styR_some hsty).2
  rw [hsty]
  have hql := hq.len
  have hT2 : T2.length ≤ T.length := by
    have := congrArg List.length (styR_some hsty).1
    simp at this
    omega
  refine SemC.go tabOk ?_
  dsimp only
  have hVV := hV1.trans hV2
  match T2, hq, hql, hT2, hsty with
  | [], hq, hql, hT2, hsty =>
    rw [List.length_nil] at hql
    (first | (refine H.wg ?_; clear H; intros; rename_i w H; constructor) | refine wk ?_)
    ((first | refine draw_vc (id := 4) tabOk mixed [13] [0, 1, 2, 3, 4, 5, 6, 7, 8, 9, 10, 11, 12, 13, 14, 15] (by kernel_rfl) ?_ | refine draw_vc (id := 12) tabOk mixed [] [0, 1, 2, 3, 4, 5, 6, 7, 8, 9, 10, 11, 12, 13, 14, 15, 16, 17, 18] (by kernel_rfl) ?_ | refine draw_vc (id := 14) tabOk mixed [] [0, 1, 2, 3, 4, 5, 6, 7, 8, 9, 10] (by kernel_rfl) ?_ | refine draw_vc (id := 15) tabOk mixed [] [0, 1, 2, 3, 4, 5, 6, 7, 8, 9] (by kernel_rfl) ?_); intro w hdw; replace H := Rel.ext H hdw.ext)
    (first | (refine H.wg ?_; clear H; intros; rename_i w H; constructor) | refine wk ?_)
    exact ⟨_, _, _, 0, ⟨none, 0, 0⟩, ⟨none, 0, 0⟩, hVV, H.sx, rfl⟩
  | [_], hq, hql, hT2, hsty =>
    rw [List.length_singleton] at hql
    (first | (refine H.wg ?_; clear H; intros; rename_i w H; constructor) | refine wk ?_)
    ((first | refine draw_vc (id := 4) tabOk mixed [13] [0, 1, 2, 3, 4, 5, 6, 7, 8, 9, 10, 11, 12, 13, 14, 15] (by kernel_rfl) ?_ | refine draw_vc (id := 12) tabOk mixed [] [0, 1, 2, 3, 4, 5, 6, 7, 8, 9, 10, 11, 12, 13, 14, 15, 16, 17, 18] (by kernel_rfl) ?_ | refine draw_vc (id := 14) tabOk mixed [] [0, 1, 2, 3, 4, 5, 6, 7, 8, 9, 10] (by kernel_rfl) ?_ | refine draw_vc (id := 15) tabOk mixed [] [0, 1, 2, 3, 4, 5, 6, 7, 8, 9] (by kernel_rfl) ?_); intro w hdw; replace H := Rel.ext H hdw.ext)
    (first | (refine H.wg ?_; clear H; intros; rename_i w H; constructor) | refine wk ?_)
    exact ⟨_, _, _, 0, ⟨none, 0, 0⟩, ⟨none, 0, 0⟩, hVV, H.sx, rfl⟩
  | x :: y :: B, hq, hql, hT2, hsty =>
    simp only [List.length_cons] at hql hT2
    obtain ⟨p0, c0⟩ := hq.at1 (g := bv) (i := 0) (fun _ => rfl) (by simp)
    obtain ⟨p1, c1⟩ := hq.at1 (g := bv) (i := 1) (fun _ => rfl) (by simp)
    simp only [List.getElem_cons_zero, List.getElem_cons_succ] at c0 c1
    have hx := x.toNat_lt
    have hy := y.toNat_lt
    have hor := or_hi hx hy
    have hqc := hq.cap
    have hb := hq.rest (k := 2) (by simp)
    simp only [List.drop_succ_cons, List.drop_zero] at hb
    (first | (refine H.wg ?_; clear H; intros; rename_i w H; constructor) | refine wk ?_)
    ((first | refine draw_vc (id := 4) tabOk mixed [13] [0, 1, 2, 3, 4, 5, 6, 7, 8, 9, 10, 11, 12, 13, 14, 15] (by kernel_rfl) ?_ | refine draw_vc (id := 12) tabOk mixed [] [0, 1, 2, 3, 4, 5, 6, 7, 8, 9, 10, 11, 12, 13, 14, 15, 16, 17, 18] (by kernel_rfl) ?_ | refine draw_vc (id := 14) tabOk mixed [] [0, 1, 2, 3, 4, 5, 6, 7, 8, 9, 10] (by kernel_rfl) ?_ | refine draw_vc (id := 15) tabOk mixed [] [0, 1, 2, 3, 4, 5, 6, 7, 8, 9] (by kernel_rfl) ?_); intro w hdw; replace H := Rel.ext H hdw.ext)
    (first | (refine H.wg ?_; clear H; intros; rename_i w H; constructor) | refine wk ?_)
    rw [shl8]
    (first | (refine H.wg ?_; clear H; intros; rename_i w H; constructor) | refine wk ?_)
    rw [hor]
    rw [show picBody x0.toNat pal x1.toNat x2.toNat (x :: y :: B) = if 256 * x.toNat + y.toNat = B.length then (match picRows x0.toNat pal x1.toNat x2.toNat B with | none => none | some px => some ⟨x1.toNat, x2.toNat, x0.toNat, pal, px⟩) else none from rfl]
    by_cases hlen : 256 * x.toNat + y.toNat = B.length
    rotate_left
    · rw [if_neg hlen]
      (first | (refine H.wg ?_; clear H; intros; rename_i w H; constructor) | refine wk ?_)
      exact ⟨_, _, _, 0, ⟨none, 0, 0⟩, ⟨none, 0, 0⟩, hVV, H.sx, rfl⟩
    rw [if_pos hlen]
    (first | (refine H.wg ?_; clear H; intros; rename_i w H; constructor) | refine wk ?_)
    ((first | refine draw_vc (id := 4) tabOk mixed [13] [0, 1, 2, 3, 4, 5, 6, 7, 8, 9, 10, 11, 12, 13, 14, 15] (by kernel_rfl) ?_ | refine draw_vc (id := 12) tabOk mixed [] [0, 1, 2, 3, 4, 5, 6, 7, 8, 9, 10, 11, 12, 13, 14, 15, 16, 17, 18] (by kernel_rfl) ?_ | refine draw_vc (id := 14) tabOk mixed [] [0, 1, 2, 3, 4, 5, 6, 7, 8, 9, 10] (by kernel_rfl) ?_ | refine draw_vc (id := 15) tabOk mixed [] [0, 1, 2, 3, 4, 5, 6, 7, 8, 9] (by kernel_rfl) ?_); intro w hdw; replace H := Rel.ext H hdw.ext)
    (first | (refine H.wg ?_; clear H; intros; rename_i w H; constructor) | refine wk ?_)
    refine (readRows_spec H.data hfo.1 hrp hpo hb (by omega) w1 w2 h2).use ?_
    rintro v w ⟨V3, r3, hV3, K, hres⟩
    (have hKb := K.base; replace H := H.call0 K)
    cases hpr : picRows x0.toNat pal x1.toNat x2.toNat B with
    | none =>
      rw [hpr] at hres
      obtain rfl := hres
      (first | (refine H.wg ?_; clear H; intros; rename_i w H; constructor) | refine wk ?_)
      ((first | refine draw_vc (id := 4) tabOk mixed [13] [0, 1, 2, 3, 4, 5, 6, 7, 8, 9, 10, 11, 12, 13, 14, 15] (by kernel_rfl) ?_ | refine draw_vc (id := 12) tabOk mixed [] [0, 1, 2, 3, 4, 5, 6, 7, 8, 9, 10, 11, 12, 13, 14, 15, 16, 17, 18] (by kernel_rfl) ?_ | refine draw_vc (id := 14) tabOk mixed [] [0, 1, 2, 3, 4, 5, 6, 7, 8, 9, 10] (by kernel_rfl) ?_ | refine draw_vc (id := 15) tabOk mixed [] [0, 1, 2, 3, 4, 5, 6, 7, 8, 9] (by kernel_rfl) ?_); intro w hdw; replace H := Rel.ext H hdw.ext)
      (first | (refine H.wg ?_; clear H; intros; rename_i w H; constructor) | refine wk ?_)
      exact ⟨V3, _, _, _, ⟨none, 0, 0⟩, rp, hVV.trans hV3, H.sx, rfl⟩
    | some px =>
      rw [hpr] at hres
      obtain ⟨rfl, hr3⟩ := hres
      (first | (refine H.wg ?_; clear H; intros; rename_i w H; constructor) | refine wk ?_)
      ((first | refine draw_vc (id := 4) tabOk mixed [13] [0, 1, 2, 3, 4, 5, 6, 7, 8, 9, 10, 11, 12, 13, 14, 15] (by kernel_rfl) ?_ | refine draw_vc (id := 12) tabOk mixed [] [0, 1, 2, 3, 4, 5, 6, 7, 8, 9, 10, 11, 12, 13, 14, 15, 16, 17, 18] (by kernel_rfl) ?_ | refine draw_vc (id := 14) tabOk mixed [] [0, 1, 2, 3, 4, 5, 6, 7, 8, 9, 10] (by kernel_rfl) ?_ | refine draw_vc (id := 15) tabOk mixed [] [0, 1, 2, 3, 4, 5, 6, 7, 8, 9] (by kernel_rfl) ?_); intro w hdw; replace H := Rel.ext H hdw.ext)
      (first | (refine H.wg ?_; clear H; intros; rename_i w H; constructor) | refine wk ?_)
      exact ⟨V3, 0, 0, 0, r3, rp, hVV.trans hV3, H.sx, rfl, hr3, hrp.up hV3⟩
theorem pic_small {l : List UInt8} {x : Pic} (h : picFile l = some x) : (1 ≤ x.wd ∧ x.wd ≤ 64) ∧ (1 ≤ x.ht ∧ x.ht ≤ 64) ∧ x.f < 64 ∧ PalOk x.f x.pal ∧ x.px.length ≤ 12288 := by
  obtain ⟨B, d, R, P⟩ := picFile_some h
  have w := P.wd
  have t := P.ht
  have hm : x.ht * (3 * x.wd) ≤ 64 * 192 := Nat.mul_le_mul t.2 (by have := w.2; omega)
  exact ⟨w, t, P.fl.1, P.pal, by rw [P.px_len.1]; omega⟩
set_option maxRecDepth 100000 in
theorem to_pic (hV : Sub V W) {s : Sl} {l : List UInt8} (hs : Byt V s l) (hl : l.length ≤ 1099511627776) : Ret Tryz.prog 11 [s.v].toArray W (ToR W V (toRes (picTo l) l.length)) := by
  have H := Rel.start hV
  have hlen := hs.len
  refine cal_of_vc tabOk Tryz.func11 rfl (by kernel_rfl) 39 rfl (by simp) [0, 2, 3, 4, 5, 6, 7, 8, 9, 10, 13, 24, 32] ?_
  (first | (refine H.wh ?_; clear H; intros; rename_i w H; constructor) | refine wk ?_)
  ((first | refine Rel.nwD H ?_ | refine Rel.nw H ?_); clear H; intro w b2 H)
  (first | (refine H.wh ?_; clear H; intros; rename_i w H; constructor) | refine wk ?_)
  ((first | refine Rel.nwD H ?_ | refine Rel.nw H ?_); clear H; intro w b4 H)
  by_cases hbig : 1000 < l.length
  · have e : toRes (picTo l) l.length = ⟨zeroV, [], 3, -1⟩ := by unfold toRes; rw [if_pos hbig]
    rw [e]
    (first | (refine H.wg ?_; clear H; intros; rename_i w H; constructor) | refine wk ?_)
    refine (fault_pic H.data 3 (-1)).use ?_
    rintro v w ⟨rfl, K⟩
    (have hKb := K.base; replace H := H.call0 K)
    (first | (refine H.wg ?_; clear H; intros; rename_i w H; constructor) | refine wk ?_)
    exact ⟨V, zeroH, ⟨none, 0, 0⟩, Sub.refl _, H.sx, rfl, valAt_zero _, SlF.nil _ _⟩
  (first | (refine H.wg ?_; clear H; intros; rename_i w H; constructor) | refine wk ?_)
  refine (read_spec H.data hs (by omega)).use ?_
  rintro v w ⟨V2, a, b, f, r, ps, hV2, K, hres⟩
  (have hKb := K.base; replace H := H.call0 K)
  cases hf : picFile l with
  | none =>
    rw [hf] at hres
    obtain rfl := hres
    have e : toRes (picTo l) l.length = ⟨zeroV, [], 21, -1⟩ := by unfold toRes; rw [if_neg hbig, picTo, hf]
    rw [e]
    (first | (refine H.wg ?_; clear H; intros; rename_i w H; constructor) | refine wk ?_)
    refine (fault_pic H.data 21 (-1)).use ?_
    rintro v w ⟨rfl, K⟩
    (have hKb := K.base; replace H := H.call0 K)
    (first | (refine H.wg ?_; clear H; intros; rename_i w H; constructor) | refine wk ?_)
    exact ⟨V2, zeroH, ⟨none, 0, 0⟩, hV2, H.sx, rfl, valAt_zero _, SlF.nil _ _⟩
  | some x =>
    rw [hf] at hres
    obtain ⟨rfl, hpx, hpal⟩ := hres
    obtain ⟨⟨m1, m2⟩, ⟨m3, m4⟩, m5, m6, m7⟩ := pic_small hf
    (first | (refine H.wh ?_; clear H; intros; rename_i w H; constructor) | refine wk ?_)
    ((first | refine Rel.nwD H ?_ | refine Rel.nw H ?_); clear H; intro w b8 H)
    (first | (refine H.wg ?_; clear H; intros; rename_i w H; constructor) | refine wk ?_)
    refine (plain_spec H.data x.wd x.ht hpx (by omega)).use ?_
    rintro q w ⟨V3, h, hV3, K, rfl, hv⟩
    (have hKb := K.base; replace H := H.call0 K)
    have hB : VB 1048576 (picVal x.wd x.ht x.px) := vb_pic (by constructor <;> omega) (by constructor <;> omega) (by omega)
    (first | (refine H.wh ?_; clear H; intros; rename_i w H; constructor) | refine wk ?_)
    ((first | refine Rel.nwD H ?_ | refine Rel.nw H ?_); clear H; intro w b10 H)
    (first | (refine H.wg ?_; clear H; intros; rename_i w H; constructor) | refine wk ?_)
    refine (validate_value H.data hv hB).use ?_
    rintro q w ⟨rfl, K⟩
    (have hKb := K.base; replace H := H.call0 K)
    by_cases hvf : (vfault (picVal x.wd x.ht x.px)).1 = 0
    rotate_left
    · have e : toRes (picTo l) l.length = ⟨zeroV, [], 21, -1⟩ := by unfold toRes; rw [if_neg hbig, picTo, hf]; simp only; rw [if_pos hvf]
      rw [e]
      (first | (refine H.wg ?_; clear H; intros; rename_i w H; constructor) | refine wk ?_)
      refine (fault_pic H.data 21 (-1)).use ?_
      rintro v w ⟨rfl, K⟩
      (have hKb := K.base; replace H := H.call0 K)
      (first | (refine H.wg ?_; clear H; intros; rename_i w H; constructor) | refine wk ?_)
      exact ⟨V3, zeroH, ⟨none, 0, 0⟩, hV2.trans hV3, H.sx, rfl, valAt_zero _, SlF.nil _ _⟩
    have e : toRes (picTo l) l.length = ⟨picVal x.wd x.ht x.px, picRes x.f x.pal, 0, 0⟩ := by unfold toRes; rw [if_neg hbig, picTo, hf]; simp only; rw [if_neg (fun q => q hvf)]
    rw [e, vfault_zz hvf]
    (first | (refine H.wg ?_; clear H; intros; rename_i w H; constructor) | refine wk ?_)
    ((first | refine draw_vc (id := 7) tabOk mixed [2] [0, 1, 3, 2, 4, 5, 6] (by kernel_rfl) ?_); intro w hdw; replace H := Rel.ext H hdw.ext)
    (first | (refine H.wg ?_; clear H; intros; rename_i w H; constructor) | refine wk ?_)
    refine (residue_spec H.data m5 (hpal.up hV3) m6.le).use ?_
    rintro v w ⟨r2, rfl, K⟩
    (have hKb := K.base; replace H := Rel.call H K)
    simp only [List.cons_append, List.nil_append] at H
    (first | (refine H.wg ?_; clear H; intros; rename_i w H; constructor) | refine wk ?_)
    obtain ⟨V6, hV6, H, hr2⟩ := Rel.freezeF H (fun _ => rfl) (by decide)
    exact ⟨V6, _, r2, (hV2.trans hV3).trans hV6, H.sx, rfl, hv.up hV6, hr2⟩
end
end Go.Proofs.YtgnaojphgdaalaaGreat
