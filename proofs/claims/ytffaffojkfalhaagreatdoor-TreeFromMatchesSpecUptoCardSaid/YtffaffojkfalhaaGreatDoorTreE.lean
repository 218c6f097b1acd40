/-
  Files of trees: residues; To, Explain.
-/
import Derived.Test.YtffaffojkfalhaaGreatDoorTreD
namespace Go.Proofs.YtffaffojkfalhaaGreatDoor
open Go Go.RowKit

abbrev BkP := Blk2 × Sl
abbrev bkP (p : BkP) : List Value := [iv ((p.1.1 : Nat) : Int), p.2.v]
theorem bk_zip {V : World} {s : Sl} {hs : List BkH} {o : List Blk2} (h : SlF bkC V s hs) (hp : Pw BkR V hs o) : ∃ ps : List BkP, SlF bkP V s ps ∧ ps.map Prod.fst = o ∧ ∀ p ∈ ps, Byt V p.2 p.1.2 := by
  have hl := hp.len
  refine ⟨o.zip (hs.map Prod.snd), ?_, ?_, ?_⟩
  · have e : (o.zip (hs.map Prod.snd)).flatMap bkP = hs.flatMap bkC := by
      clear h
      induction hs generalizing o with
      | nil =>
        cases o with
        | nil => rfl
        | cons y o => simp at hl
      | cons x hs ih =>
        cases o with
        | nil => simp at hl
        | cons y o =>
          have h0 := (hp.all 0 x y rfl rfl).1
          have ht : Pw BkR V hs o := ⟨by simpa using hl, fun k a b h1 h2 => hp.all (k + 1) a b h1 h2⟩
          rw [List.map_cons, List.zip_cons_cons, List.flatMap_cons, List.flatMap_cons, ih ht (by simpa using hl)]
          simp only [bkP, bkC, h0]
    exact ⟨by rw [h.len]; simp [hl], h.cap, by rw [e]; exact h.cells⟩
  · rw [List.map_fst_zip]
    simp [hl]
  · intro p hpm
    obtain ⟨i, hi⟩ := List.mem_iff_getElem?.1 hpm
    rw [List.getElem?_zip_eq_some] at hi
    obtain ⟨h1, h2⟩ := hi
    rw [List.getElem?_map] at h2
    obtain ⟨x, hx, h3⟩ := Option.map_eq_some_iff.1 h2
    rw [← h3]
    exact (hp.all i x p.1 hx h1).2
section
variable {V W : World}
theorem formOne {p : BkP} (hV : Sub V W) (hb : Byt V p.2 p.1.2) (h1 : p.1.1 ≤ 100000) (h2 : p.1.2.length ≤ 100000) : Ret Tryz.prog 49 [.agg (bkP p).toArray].toArray W fun v w' => ∃ r : Sl, v = r.v ∧ Rel W V [.row r 5 1 ((putB p.1).flatMap byC)] V w' := by
  have H := Rel.start hV
  have a1 := putN_len (n := ((p.1.1 : Nat) : Int)) (by omega) (by omega)
  have a2 := putC_len (b := p.1.2) (by omega)
  refine cal_of_vc tabOk Tryz.func49 rfl (by kernel_rfl) 10 rfl (by simp) [0, 1, 2] ?_
  (first | (refine H.wh ?_; clear H; intros; rename_i w H; constructor) | refine wk ?_)
  ((first | refine Rel.nwD H ?_ | refine Rel.nw H ?_); clear H; intro w b1 H)
  obtain ⟨V1, hV1, H, hb1⟩ := H.freezeBlk
  have c0 : V1.cell? ⟨b1, 0, none⟩ = some (iv ((p.1.1 : Nat) : Int)) := hb1.cel rfl
  have c1 : V1.cell? ⟨b1, 1, none⟩ = some p.2.v := hb1.cel rfl
  (first | (refine H.wg ?_; clear H; intros; rename_i w H; constructor) | refine wk ?_)
  ((first | refine draw_vc (id := 1) tabOk mixed [2] [0, 1, 3, 4, 2, 5, 6, 7] (by kernel_rfl) ?_); intro w hdw; replace H := Rel.ext H hdw.ext)
  (first | (refine H.wg ?_; clear H; intros; rename_i w H; constructor) | refine wk ?_)
  refine (number_spec H.data (by constructor <;> omega)).use ?_
  rintro v w ⟨r1, rfl, K⟩
  (have hKb := K.base; replace H := Rel.call H K)
  simp only [List.cons_append, List.nil_append] at H
  (first | (refine H.wg ?_; clear H; intros; rename_i w H; constructor) | refine wk ?_)
  refine (chunk_spec H.data (hb.up hV1) (by omega)).use ?_
  rintro v w ⟨r2, rfl, K⟩
  (have hKb := K.base; replace H := Rel.call H K)
  simp only [List.cons_append, List.nil_append] at H
  (first | (refine H.wg ?_; clear H; intros; rename_i w H; constructor) | refine wk ?_)
  refine Rel.appB H (i := 0) rfl (by omega) ?_
  clear H
  intro r3 w H
  (first | (refine H.wg ?_; clear H; intros; rename_i w H; constructor) | refine wk ?_)
  exact ⟨r3, rfl, H.sx.back⟩
theorem slice_blk {V W : World} (hV : Sub V W) {s : Sl} {l : List BkP} (hs : SlF bkP V s l) {g : FuncId} {cap : List Value} {enc : BkP → List UInt8} (hone : ∀ x ∈ l, OneOk V g cap ((fun p => .agg (bkP p).toArray) x) (enc x)) (hll : l.length ≤ 1099511627776) (hb : (putL enc l).length ≤ 1099511627776) :
    Ret Tryz.prog 48 [s.v, .func (.func g) #[] cap.toArray].toArray W fun v w' => ∃ r : Sl, v = r.v ∧ Rel W V [.row r 5 1 ((putL enc l).flatMap byC)] V w' := by
  have H := Rel.start hV
  have hlen := hs.len
  rw [putL, List.length_append] at hb
  refine cal_of_vc tabOk Tryz.func48 rfl (by kernel_rfl) 24 rfl (by simp) [0, 1, 4, 5, 7, 11, 12, 13, 14] ?_
  (first | (refine H.wg ?_; clear H; intros; rename_i w H; constructor) | refine wk ?_)
  rw [hlen]
  refine (number_spec (n := l.length) H.data (by constructor <;> omega)).use ?_
  rintro v w ⟨r0, rfl, K⟩
  replace H := H.call K
  (first | (refine H.wg ?_; clear H; intros; rename_i w H; constructor) | refine wk ?_)
  refine loop_inv (S := Nat × Sl) tabOk [0, 1, 4, 11, 12] (fun k => [(5, k.2.v), (13, iv k.1)]) (fun k w' => k.1 ≤ l.length ∧ ∃ V1, Sub V V1 ∧ Rel W V [.row k.2 5 1 ((putN l.length ++ (l.take k.1).flatMap enc).flatMap byC)] V1 w') (fun k _ => l.length - k.1) (0, r0) ?_
  (conv => whnf)
  refine ⟨(by repeat (first | exact trivial | refine ⟨rfl, ?_⟩)), ⟨by omega, V, Sub.refl _, by simpa using H⟩, ?_⟩
  clear H
  rintro ⟨k, r⟩ w ⟨hk, V1, hV1, H⟩
  dsimp only at hk H
  by_cases hlt : k < l.length
  rotate_left
  · (first | (refine H.wg ?_; clear H; intros; rename_i w H; constructor) | refine wk ?_)
    rw [List.take_of_length_le (by omega)] at H
    exact ⟨r, rfl, H.back⟩
  have hbl := flat_part (enc := enc) hlt
  obtain ⟨hp, hq1, hq2⟩ := (hs.up hV1).at2 (g := fun r : BkP => iv ((r.1.1 : Nat) : Int)) (g' := fun r : BkP => r.2.v) (fun _ => rfl) hlt
  (first | (refine H.wg ?_; clear H; intros; rename_i w H; constructor) | refine wk ?_)
  refine (hone l[k] (List.getElem_mem hlt) V1 w hV1 H.data).use ?_
  rintro v w ⟨V2, x, hV2, rfl, hx, K⟩
  replace H := H.call K
  simp only [List.nil_append] at H
  (first | (refine H.wg ?_; clear H; intros; rename_i w H; constructor) | refine wk ?_)
  refine Rel.appD H (i := 1) rfl hx (by simp only [List.length_append]; omega) ?_
  clear H
  intro rn w H
  rw [flat_next hlt] at H
  (first | (refine H.wg ?_; clear H; intros; rename_i w H; constructor) | refine wk ?_)
  exact ⟨(by repeat (first | exact trivial | refine ⟨rfl, ?_⟩)), (k + 1, rn), (by repeat (first | exact trivial | refine ⟨rfl, ?_⟩)), ⟨by omega, V2, hV1.trans hV2, H.sx⟩, by omega⟩
theorem form_tree (hV : Sub V W) {s : Sl} {hs : List BkH} {o : List Blk2} (h : SlF bkC V s hs) (hp : Pw BkR V hs o) (hl : o.length ≤ 1000) (hb : ∀ x ∈ o, x.1 ≤ 2000 ∧ x.2.length ≤ 1000) : Ret Tryz.prog 27 [s.v].toArray W fun v w' => ∃ (V' : World) (r : Sl), Sub V V' ∧ v = r.v ∧ Byt V' r (treRes o) ∧ Rel W V [] V' w' := by
  have H := Rel.start hV
  obtain ⟨ps, h1, h2, h3⟩ := bk_zip h hp
  have hsl := h1.len
  have hpl : ps.length = o.length := by rw [← h2]; simp
  have hput : putL (fun p : BkP => putB p.1) ps = putL putB o := by
    rw [← h2]
    simp only [putL, List.length_map, List.flatMap_map]
  have hpb : (putL putB o).length ≤ 70000000 := by
    have := putL_len (f := putB) (m := 2000) (l := o) (by omega) fun x hx => by
      obtain ⟨a, b⟩ := hb x hx
      have h1 := putN_len (n := (x.1 : Int)) (by omega) (by omega)
      have h2 := putC_len (b := x.2) (by omega)
      simp only [putB, List.length_append]
      omega
    have h3 := Nat.mul_le_mul_right 2000 hl
    omega
  have hmem : ∀ p ∈ ps, p.1 ∈ o := fun p hp => by rw [← h2]; exact List.mem_map.2 ⟨p, hp, rfl⟩
  refine cal_of_vc tabOk Tryz.func27 rfl (by kernel_rfl) 8 rfl (by simp) [0, 2, 5] ?_
  by_cases h0 : o = []
  · have : s.len = 0 := by rw [hsl, hpl, h0]; rfl
    (first | (refine H.wg ?_; clear H; intros; rename_i w H; constructor) | refine wk ?_)
    refine ⟨V, ⟨none, 0, 0⟩, Sub.refl _, rfl, ?_, H.sx⟩
    rw [treRes, if_pos h0]
    exact SlF.nil _ _
  · have : s.len ≠ 0 := by rw [hsl, hpl]; exact fun h => h0 (List.eq_nil_of_length_eq_zero h)
    (first | (refine H.wg ?_; clear H; intros; rename_i w H; constructor) | refine wk ?_)
    refine (slice_blk H.data h1 (enc := fun p : BkP => putB p.1) (g := 49) (cap := []) (fun p hp => oneOk_of fun V1 W1 q1 q2 => formOne q1 ((h3 p hp).up q2) (by have := hb _ (hmem p hp); omega) (by have := hb _ (hmem p hp); omega)) (by omega) (by rw [hput]; omega)).use ?_
    rintro v w ⟨r, rfl, K⟩
    (have hKb := K.base; replace H := Rel.call H K)
    simp only [List.cons_append, List.nil_append] at H
    (first | (refine H.wg ?_; clear H; intros; rename_i w H; constructor) | refine wk ?_)
    obtain ⟨V2, hV2, H, hr⟩ := H.freezeF (fun _ => rfl) (by decide)
    rw [hput] at hr
    exact ⟨V2, r, hV2, rfl, by rw [treRes, if_neg h0]; exact hr, H.sx⟩
end
set_option maxRecDepth 100000 in
set_option maxHeartbeats 1000000 in
theorem readSlice_blk {V W : World} (hV : Sub V W) {s : Sl} {l : List UInt8} (hs : Byt V s l) (hl : l.length ≤ 1099511627776) {p : Nat} (hp : p ≤ l.length) {m : Int} (hm : 0 ≤ m ∧ m ≤ 4294967296) {g : FuncId} {cap : List Value} {one : Nat → Got (Int × List UInt8)}
    (hone : ∀ q, q ≤ l.length → Reads V g cap s (fun p : BkH => .agg (bkC p).toArray) (fun V x y => x.1 = y.1 ∧ Byt V x.2 y.2) q (one q)) (hin : ∀ q x q', q ≤ l.length → one q = .ok x q' → q' ≤ l.length) :
    Ret Tryz.prog 59 [s.v, iv p, iv m, .func (.func g) #[] cap.toArray].toArray W (ReadR Sl.v (RL bkC (fun V x y => x.1 = y.1 ∧ Byt V x.2 y.2)) W V (listAt l one m p)) := by
  have H := Rel.start hV
  have hlen := hs.len
  have hR : ∀ (V V' : World) (x : BkH) (y : (Int × List UInt8)), Sub V V' → ((fun V x y => x.1 = y.1 ∧ Byt V x.2 y.2) : World → BkH → (Int × List UInt8) → Prop) V x y → ((fun V x y => x.1 = y.1 ∧ Byt V x.2 y.2) : World → BkH → (Int × List UInt8) → Prop) V' x y := fun _ _ _ _ hs h => ⟨h.1, h.2.up hs⟩
  refine cal_of_vc tabOk Tryz.func59 rfl (by kernel_rfl) 64 rfl (by simp) [0, 1, 2, 3, 8, 9, 10, 11, 12, 13, 14, 15, 16, 17, 25, 30, 40, 41, 42, 53] ?_
  (first | (refine H.wh ?_; clear H; intros; rename_i w H; constructor) | refine wk ?_)
  ((first | refine Rel.nwD H ?_ | refine Rel.nw H ?_); clear H; intro w b10 H)
  (first | (refine H.wg ?_; clear H; intros; rename_i w H; constructor) | refine wk ?_)
  refine (readNumber_spec H.data hs hl hp).use ?_
  rintro v w ⟨rfl, K⟩
  replace H := H.call K
  simp only [List.nil_append] at H
  cases hn : numAt l p with
  | bad c i =>
    have hc0 := numAt_ne hn
    have hr : listAt l one m p = .bad c i := by rw [listAt, hn]
    rw [hr]
    (first | (refine H.wh ?_; clear H; intros; rename_i w H; constructor) | refine wk ?_)
    ((first | refine Rel.nwD H ?_ | refine Rel.nw H ?_); clear H; intro w b13 H)
    (first | (refine H.wg ?_; clear H; intros; rename_i w H; constructor) | refine wk ?_)
    ((first | refine draw_vc (id := 3) tabOk mixed [] [0, 1, 2, 3] (by kernel_rfl) ?_ | refine draw_vc (id := 11) tabOk mixed [] [0, 1, 2, 3] (by kernel_rfl) ?_); intro w hdw; replace H := Rel.ext H hdw.ext)
    (first | (refine H.wg ?_; clear H; intros; rename_i w H; constructor) | refine wk ?_)
    exact ⟨V, ⟨none, 0, 0⟩, 0, c, i, Sub.refl _, H.sx, rfl, rfl, rfl, hc0⟩
  | ok n q0 =>
    obtain ⟨h1, h2, h3, h4, h5⟩ := numAt_ok hp hn
    (first | (refine H.wh ?_; clear H; intros; rename_i w H; constructor) | refine wk ?_)
    ((first | refine Rel.nwD H ?_ | refine Rel.nw H ?_); clear H; intro w b13 H)
    by_cases hb : n < 0 ∨ m < n
    · have hr : listAt l one m p = .bad 4 p := by rw [listAt, hn]; simp only; rw [if_pos hb]
      rw [hr]
      by_cases hn0 : n < 0
      all_goals
        (first | (refine H.wg ?_; clear H; intros; rename_i w H; constructor) | refine wk ?_)
        refine (fault_wire H.data 4 p).use ?_
        rintro v w ⟨rfl, K⟩
        replace H := H.call K
        simp only [List.nil_append] at H
        (first | (refine H.wg ?_; clear H; intros; rename_i w H; constructor) | refine wk ?_)
        exact ⟨V, ⟨none, 0, 0⟩, 0, 4, p, Sub.refl _, H.sx, rfl, rfl, rfl, by decide⟩
    have hr : listAt l one m p = manyAt one n.toNat q0 := by rw [listAt, hn]; simp only; rw [if_neg hb]
    rw [hr]
    obtain ⟨N, rfl⟩ : ∃ N : Nat, n = N := ⟨n.toNat, by omega⟩
    rw [Int.toNat_natCast]
    (first | (refine H.wg ?_; clear H; intros; rename_i w H; constructor) | refine wk ?_)
    replace H := H.rowNil 72 2
    refine loop_inv (S := Nat × Nat × Sl × List BkH × List (Int × List UInt8)) tabOk [0, 1, 2, 3, 10, 11, 13, 25, 30, 40] (fun k => [(12, iv k.2.1), (14, k.2.2.1.v), (41, iv k.1)]) (fun k w' => k.1 ≤ N ∧ k.2.1 ≤ l.length ∧ k.2.2.2.1.length = k.1 ∧ manyAt one k.1 q0 = .ok k.2.2.2.2 k.2.1 ∧ ∃ V1, Sub V V1 ∧ Pw (fun V x y => x.1 = y.1 ∧ Byt V x.2 y.2) V1 k.2.2.2.1 k.2.2.2.2 ∧ Rel W V [.row k.2.2.1 72 2 (k.2.2.2.1.flatMap bkC), .blk b13 [iv 0, iv 0] 29, .blk b10 [iv 0, iv 0] 29] V1 w') (fun k _ => N - k.1) (0, q0, ⟨none, 0, 0⟩, [], []) ?_
    (conv => whnf)
    refine ⟨(by repeat (first | exact trivial | refine ⟨rfl, ?_⟩)), ⟨by omega, h2, rfl, rfl, V, Sub.refl _, Pw.nil, H.sx⟩, ?_⟩
    clear H
    rintro ⟨k, q, r, xs, ys⟩ w ⟨hk, hq, hxl, hma, V1, hV1, hpw, H⟩
    dsimp only at hk hq hxl hma hpw H
    by_cases hlt : k < N
    rotate_left
    · obtain rfl : k = N := by omega
      (first | (refine H.wg ?_; clear H; intros; rename_i w H; constructor) | refine wk ?_)
      obtain ⟨V2, hV2, H, hrr⟩ := Rel.freezeF H (fun _ => rfl) (by decide)
      rw [hma]
      exact ⟨V2, r, q, 0, 0, hV1.trans hV2, H.sx, rfl, rfl, rfl, rfl, xs, hrr, hpw.up hR hV2⟩
    (first | (refine H.wg ?_; clear H; intros; rename_i w H; constructor) | refine wk ?_)
    refine (hone q hq V1 w hV1 H.data).use ?_
    rintro v w ⟨V2, x, n2, c, i, hV2, K, rfl, hres⟩
    replace H := H.call K
    simp only [List.nil_append] at H
    cases ho : one q with
    | bad c' i' =>
      rw [ho] at hres
      obtain ⟨rfl, rfl, hc0⟩ := hres
      have hmb : manyAt one N q0 = .bad c i := by
        have := manyAt_badAt hma ho (N - (k + 1))
        rwa [show k + 1 + (N - (k + 1)) = N by omega] at this
      rw [hmb]
      (first | (refine H.wg ?_; clear H; intros; rename_i w H; constructor) | refine wk ?_)
      ((first | refine draw_vc (id := 3) tabOk mixed [] [0, 1, 2, 3] (by kernel_rfl) ?_ | refine draw_vc (id := 11) tabOk mixed [] [0, 1, 2, 3] (by kernel_rfl) ?_); intro w hdw; replace H := Rel.ext H hdw.ext)
      (first | (refine H.wg ?_; clear H; intros; rename_i w H; constructor) | refine wk ?_)
      exact ⟨V2, ⟨none, 0, 0⟩, 0, c, i, hV1.trans hV2, H.sx, rfl, rfl, rfl, hc0⟩
    | ok y q' =>
      rw [ho] at hres
      obtain ⟨rfl, rfl, rfl, hxy⟩ := hres
      have hq' := hin q y q' hq ho
      (first | (refine H.wg ?_; clear H; intros; rename_i w H; constructor) | refine wk ?_)
      refine Rel.app1_2 (f := bkC) (l := xs) (x := x) tabOk rfl rfl rfl rfl rfl (by decide) (fun _ => rfl) (List.all_eq_true.1 rfl) H (by simp; omega) (by omega) ?_
      clear H
      intro rn w H
      (first | (refine H.wg ?_; clear H; intros; rename_i w H; constructor) | refine wk ?_)
      exact ⟨(by repeat (first | exact trivial | refine ⟨rfl, ?_⟩)), (k + 1, q', rn, xs ++ [x], ys ++ [y]), (by repeat (first | exact trivial | refine ⟨rfl, ?_⟩)), ⟨by omega, hq', by simp [hxl], manyAt_step hma ho, V2, hV1.trans hV2, (hpw.up hR hV2).snoc hxy, H.sx⟩, by omega⟩
abbrev BkI (V : World) (x : BkH) (y : Int × List UInt8) : Prop := x.1 = y.1 ∧ Byt V x.2 y.2
theorem fault_tree {V W : World} (hV : Sub V W) (c i : Int) : Ret Tryz.prog 24 [iv c, iv i].toArray W fun v w' => v = faultV c i ∧ Rel W V [] V w' := by
  have H := Rel.start hV
  refine cal_of_vc tabOk Tryz.func24 rfl (by kernel_rfl) 8 rfl (by simp) [0, 1, 4] ?_
  (first | (refine H.wg ?_; clear H; intros; rename_i w H; constructor) | refine wk ?_)
  exact H.sx
theorem readBlanks_tree {V : World} {s : Sl} {l : List UInt8} (hs : Byt V s l) (hl : l.length ≤ 1099511627776) {p : Nat} (hp : p ≤ l.length) : Reads V 60 [] s (fun p : BkH => .agg (bkC p).toArray) BkI p (pairAt l p) := by
  intro V1 W1 h1 h2
  have H := Rel.start h2
  have hs1 := hs.up h1
  have hlen := hs1.len
  refine cal_of_vc tabOk Tryz.func60 rfl (by kernel_rfl) 34 rfl (by simp) [0, 1, 4, 5, 6, 7, 8, 9, 19] ?_
  (first | (refine H.wh ?_; clear H; intros; rename_i w H; constructor) | refine wk ?_)
  ((first | refine Rel.nwD H ?_ | refine Rel.nw H ?_); clear H; intro w b4 H)
  (first | (refine H.wh ?_; clear H; intros; rename_i w H; constructor) | refine wk ?_)
  ((first | refine Rel.nwD H ?_ | refine Rel.nw H ?_); clear H; intro w b6 H)
  (first | (refine H.wg ?_; clear H; intros; rename_i w H; constructor) | refine wk ?_)
  refine (readNumber_spec H.data hs1 hl hp).use ?_
  rintro v w ⟨rfl, K⟩
  (have hKb := K.base; replace H := H.call0 K)
  cases hn : numAt l p with
  | bad c i =>
    have hc0 := numAt_ne hn
    have hr : pairAt l p = .bad c i := by rw [pairAt, hn]
    rw [hr]
    (first | (refine H.wh ?_; clear H; intros; rename_i w H; constructor) | refine wk ?_)
    ((first | refine Rel.nwD H ?_ | refine Rel.nw H ?_); clear H; intro w b8 H)
    (first | (refine H.wg ?_; clear H; intros; rename_i w H; constructor) | refine wk ?_)
    ((first | refine draw_vcX (id := 3) tabOk mixed (Sav [b4]) (fun _ _ _ => Sav.trans) [2] [1] [0, 1, 2, 3, 4] (by kernel_rfl) ?_ | refine draw_vcX (id := 5) tabOk mixed (Sav [b4]) (fun _ _ _ => Sav.trans) [5] [4] [0, 1, 2, 3, 4, 5, 6, 7] (by kernel_rfl) ?_); intro w hdw; replace H := Rel.ext H hdw.ext)
    (refine wk ?_)
    (refine And.intro (fun w1 hsv => ?_) ?_; focus (obtain ⟨_, H1⟩ := Rel.savAt H (i := 2) rfl rfl hsv; clear H; have H := H1; clear H1; ((repeat ((conv => whnf); first | refine an ?_ | ((first | refine H.nwD ?_ | refine H.nw ?_); clear H; intro w _ H) | refine H.ce ?_ | refine H.db ?_ | refine ea ?_ | refine ol ?_ | (refine H.st ?_; (conv => whnf); clear H; intro w H) | refine cT ?_ | refine cF ?_ | refine cN ?_ | refine cM ?_ | refine H.lw ?_ | refine H.ll ?_)); (conv => whnf)); try exact ⟨rfl, rfl⟩))
    (refine wk ?_)
    (refine Rel.storeXAt H (i := 2) rfl ?_; (conv => whnf); clear H; intro w H)
    (first | (refine H.wg ?_; clear H; intros; rename_i w H; constructor) | refine wk ?_)
    exact ⟨V1, (0, ⟨none, 0, 0⟩), 0, c, i, Sub.refl _, H.sx, rfl, rfl, rfl, hc0⟩
  | ok n q =>
    obtain ⟨g1, g2, g3, g4, g5⟩ := numAt_ok hp hn
    (first | (refine H.wh ?_; clear H; intros; rename_i w H; constructor) | refine wk ?_)
    ((first | refine Rel.nwD H ?_ | refine Rel.nw H ?_); clear H; intro w b8 H)
    (first | (refine H.wg ?_; clear H; intros; rename_i w H; constructor) | refine wk ?_)
    refine (readChunk_spec (p := q) H.data hs1 hl (by omega)).use ?_
    rintro v w ⟨V2, x, ys, n2, c, i, hV2, K, rfl, hx, hres⟩
    (have hKb := K.base; replace H := H.call0 K)
    (first | (refine H.wg ?_; clear H; intros; rename_i w H; constructor) | refine wk ?_)
    ((first | refine draw_vcX (id := 3) tabOk mixed (Sav [b4]) (fun _ _ _ => Sav.trans) [2] [1] [0, 1, 2, 3, 4] (by kernel_rfl) ?_ | refine draw_vcX (id := 5) tabOk mixed (Sav [b4]) (fun _ _ _ => Sav.trans) [5] [4] [0, 1, 2, 3, 4, 5, 6, 7] (by kernel_rfl) ?_); intro w hdw; replace H := Rel.ext H hdw.ext)
    (refine wk ?_)
    (refine And.intro (fun w1 hsv => ?_) ?_; focus (obtain ⟨_, H1⟩ := Rel.savAt H (i := 2) rfl rfl hsv; clear H; have H := H1; clear H1; ((repeat ((conv => whnf); first | refine an ?_ | ((first | refine H.nwD ?_ | refine H.nw ?_); clear H; intro w _ H) | refine H.ce ?_ | refine H.db ?_ | refine ea ?_ | refine ol ?_ | (refine H.st ?_; (conv => whnf); clear H; intro w H) | refine cT ?_ | refine cF ?_ | refine cN ?_ | refine cM ?_ | refine H.lw ?_ | refine H.ll ?_)); (conv => whnf)); try exact ⟨rfl, rfl⟩))
    (refine wk ?_)
    (refine Rel.storeXAt H (i := 2) rfl ?_; (conv => whnf); clear H; intro w H)
    (first | (refine H.wg ?_; clear H; intros; rename_i w H; constructor) | refine wk ?_)
    refine ⟨V2, (n, x), n2, c, i, hV2, H.sx, rfl, ?_⟩
    rw [pairAt, hn]
    simp only
    cases hch : chunkAt l q with
    | bad c' i' =>
      rw [hch] at hres
      exact hres
    | ok d r =>
      rw [hch] at hres
      obtain ⟨e1, e2, e3, e4⟩ := hres
      subst e4
      exact ⟨e1, e2, e3, rfl, hx⟩
theorem pairAt_in {l : List UInt8} : ∀ q x q', q ≤ l.length → pairAt l q = .ok x q' → q' ≤ l.length := fun q x q' hq h => (pairAt_ok hq h).2.1
section
variable {V W : World}
/-- what readResidue answers -/
structure RdZ (W V : World) (o : Option (List Blk2)) (q : Value) (w' : World) : Prop where
  ex : ∃ (V' : World) (r : Sl) (hs : List BkH), Sub V V' ∧ Rel W V [] V' w' ∧ (match o with
    | none => q = .tuple #[.slice none 0 0, .bool false]
    | some Z => q = .tuple #[r.v, .bool true] ∧ SlF bkC V' r hs ∧ Pw BkR V' hs Z)
theorem okB_bad1 {z : List (Int × List UInt8)} {k : Nat} (hk : k < z.length) (h : ¬ ((0 ≤ z[k].1 ∧ z[k].1 ≤ 2000) ∧ ∀ c ∈ z[k].2, bkB c = true)) : ¬ okB z := fun q => h (q.1 _ (List.getElem_mem hk))
theorem okB_bad2 {z : List (Int × List UInt8)} {k : Nat} (hk : k < z.length) (h0 : 0 < k) (h : z[k].1 ≤ (z[k - 1]'(by omega)).1) : ¬ okB z := fun q => by
  have := List.pairwise_iff_getElem.1 q.2 (k - 1) k (by omega) hk (by omega)
  omega
theorem okB_next {z : List (Int × List UInt8)} {k : Nat} (hk : k < z.length) (h : okB (z.take k)) (h1 : (0 ≤ z[k].1 ∧ z[k].1 ≤ 2000) ∧ ∀ c ∈ z[k].2, bkB c = true) (h2 : ∀ h0 : 0 < k, (z[k - 1]'(by omega)).1 < z[k].1) : okB (z.take (k + 1)) := by
  rw [List.take_succ_eq_append_getElem hk]
  refine ⟨fun x hx => ?_, List.pairwise_append.2 ⟨h.2, by simp, fun a ha b hb => ?_⟩⟩
  · rcases List.mem_append.1 hx with hx | hx
    · exact h.1 x hx
    · simp only [List.mem_singleton] at hx
      rw [hx]
      exact h1
  · simp only [List.mem_singleton] at hb
    rw [hb]
    obtain ⟨i, hi, rfl⟩ := List.mem_iff_getElem.1 ha
    rw [List.length_take] at hi
    have h3 := h2 (by omega)
    by_cases hik : i = k - 1
    · subst hik
      rw [List.getElem_take]
      exact h3
    · have := List.pairwise_iff_getElem.1 h.2 i (k - 1) (by rw [List.length_take]; omega) (by rw [List.length_take]; omega) (by omega)
      rw [List.getElem_take, List.getElem_take] at this
      rw [List.getElem_take]
      omega
theorem raw_len {b : List UInt8} {z : List (Int × List UInt8)} (h : treRaw b = some z) : ∀ x ∈ z, x.2.length ≤ b.length := by
  intro x hx
  have h1 := congrArg List.length (treRaw_some h).1
  obtain ⟨A, B, rfl⟩ := List.append_of_mem hx
  have h2 := putC_ge x.2
  simp only [putL, List.flatMap_append, List.flatMap_cons, List.length_append] at h1
  omega
set_option maxRecDepth 100000 in
set_option maxHeartbeats 1000000 in
theorem readResidue_tree (hV : Sub V W) {s : Sl} {b : List UInt8} (hs : Byt V s b) (hl : b.length ≤ 1099511627776) : Ret Tryz.prog 34 [s.v].toArray W (RdZ W V (treRd b)) := by
  have H := Rel.start hV
  have hlen := hs.len
  refine cal_of_vc tabOk Tryz.func34 rfl (by kernel_rfl) 71 rfl (by simp) [0, 2, 3, 4, 5, 6, 7, 8, 11, 31, 32, 33, 34, 35, 68] ?_
  by_cases h0 : b = []
  · have : s.len = 0 := by rw [hlen, h0]; rfl
    (first | (refine H.wg ?_; clear H; intros; rename_i w H; constructor) | refine wk ?_)
    refine ⟨V, ⟨none, 0, 0⟩, [], Sub.refl _, H.sx, ?_⟩
    rw [treRd, if_pos h0]
    exact ⟨rfl, SlF.nil _ _, Pw.nil⟩
  have : s.len ≠ 0 := by rw [hlen]; exact fun h => h0 (List.eq_nil_of_length_eq_zero h)
  have e : treRd b = match treRaw b with
    | none => none
    | some z => if z ≠ [] ∧ okB z then some (z.map fun x => (x.1.toNat, x.2)) else none := by unfold treRd; rw [if_neg h0]; rfl
  (first | (refine H.wg ?_; clear H; intros; rename_i w H; constructor) | refine wk ?_)
  refine (readSlice_blk (m := 1000) (p := 0) (g := 60) (cap := []) (one := pairAt b) H.data hs hl (Nat.zero_le _) (by omega) (fun q hq => readBlanks_tree hs hl hq) pairAt_in).use ?_
  rintro v w ⟨V2, x, n, c, i, hV2, K, rfl, hres⟩
  (have hKb := K.base; replace H := H.call0 K)
  have bad : treRaw b = none → treRd b = none := fun h => by rw [e, h]
  cases hli : listAt b (pairAt b) 1000 0 with
  | bad c' i' =>
    rw [hli] at hres
    obtain ⟨rfl, rfl, hc0⟩ := hres
    have hn : treRd b = none := bad (by unfold treRaw; rw [hli])
    (first | (refine H.wh ?_; clear H; intros; rename_i w H; constructor) | refine wk ?_)
    ((first | refine Rel.nwD H ?_ | refine Rel.nw H ?_); clear H; intro w b6 H)
    (first | (refine H.wg ?_; clear H; intros; rename_i w H; constructor) | refine wk ?_)
    exact ⟨V2, x, [], hV2, H.sx, by rw [hn]⟩
  | ok z q =>
    rw [hli] at hres
    obtain ⟨rfl, rfl, rfl, hh, hxs, hpw⟩ := hres
    have hxl := hxs.len
    have hzl := hpw.len
    by_cases hq : q = b.length
    rotate_left
    · have hn : treRd b = none := bad (by unfold treRaw; rw [hli]; simp only; rw [if_neg hq])
      (first | (refine H.wh ?_; clear H; intros; rename_i w H; constructor) | refine wk ?_)
      ((first | refine Rel.nwD H ?_ | refine Rel.nw H ?_); clear H; intro w b6 H)
      (first | (refine H.wg ?_; clear H; intros; rename_i w H; constructor) | refine wk ?_)
      exact ⟨V2, x, [], hV2, H.sx, by rw [hn]⟩
    have hraw : treRaw b = some z := by unfold treRaw; rw [hli]; simp only; rw [if_pos hq]
    obtain ⟨_, hz1000⟩ := treRaw_some hraw
    rw [hraw] at e
    dsimp only at e
    by_cases hz : z = []
    · have hn : treRd b = none := by rw [e, if_neg (fun h => h.1 hz)]
      have : x.len = 0 := by rw [hxl, hzl, hz]; rfl
      (first | (refine H.wh ?_; clear H; intros; rename_i w H; constructor) | refine wk ?_)
      ((first | refine Rel.nwD H ?_ | refine Rel.nw H ?_); clear H; intro w b6 H)
      (first | (refine H.wg ?_; clear H; intros; rename_i w H; constructor) | refine wk ?_)
      exact ⟨V2, x, [], hV2, H.sx, by rw [hn]⟩
    have : x.len ≠ 0 := by rw [hxl, hzl]; exact fun h => hz (List.eq_nil_of_length_eq_zero h)
    (first | (refine H.wh ?_; clear H; intros; rename_i w H; constructor) | refine wk ?_)
    ((first | refine Rel.nwD H ?_ | refine Rel.nw H ?_); clear H; intro w b6 H)
    (first | (refine H.wg ?_; clear H; intros; rename_i w H; constructor) | refine wk ?_)
    refine SemC.cut 0 (fun _ : Unit => [(4, x.v)]) (fun _ w' => okB z ∧ Rel W V [] V2 w') ?_ ?_
    · refine loop_inv (S := Nat) tabOk [0, 4, 5, 6, 11, 31, 32, 33] (fun k => [(34, iv (k : Int))]) (fun k w' => (k ≤ z.length ∧ okB (z.take k)) ∧ Rel W V [] V2 w') (fun k _ => z.length - k) 0 ?_
      (conv => whnf)
      refine ⟨(by repeat (first | exact trivial | refine ⟨rfl, ?_⟩)), ⟨⟨Nat.zero_le _, by simp [okB]⟩, H.sx⟩, ?_⟩
      clear H
      rintro k w ⟨⟨hk, hok⟩, H⟩
      by_cases hlt : k < z.length
      rotate_left
      · rw [List.take_of_length_le (by omega)] at hok
        (first | (refine H.wg ?_; clear H; intros; rename_i w H; constructor) | refine wk ?_)
        exact ⟨(), (by repeat (first | exact trivial | refine ⟨rfl, ?_⟩)), hok, H⟩
      have hlt' : k < hh.length := by omega
      obtain ⟨p1, c1, c2⟩ := hxs.at2 (g := fun r : BkH => iv r.1) (g' := fun r : BkH => r.2.v) (fun _ => rfl) hlt'
      obtain ⟨y, hy⟩ : ∃ y, y = hh[k] := ⟨_, rfl⟩
      have hyz := hpw.all k y z[k] (by rw [List.getElem?_eq_getElem hlt', hy]) (List.getElem?_eq_getElem hlt)
      obtain ⟨hy1, hy2⟩ := hyz
      rw [← hy] at c1 c2
      have hyl := hy2.len
      have hyb := raw_len hraw _ (List.getElem_mem hlt)
      (first | (refine H.wh ?_; clear H; intros; rename_i w H; constructor) | refine wk ?_)
      ((first | refine Rel.nwD H ?_ | refine Rel.nw H ?_); clear H; intro w b8 H)
      (first | (refine H.wg ?_; clear H; intros; rename_i w H; constructor) | refine wk ?_)
      by_cases ha : 0 ≤ y.1
      rotate_left
      · ((first | refine draw_vc (id := 9) tabOk mixed [] [0, 1, 2, 3, 4, 5, 6, 7, 8, 9, 10, 11, 12, 13, 14, 15, 16, 17, 18, 19, 20, 21, 22, 23, 24, 25, 26, 27, 28, 29] (by kernel_rfl) ?_); intro w hdw; replace H := Rel.ext H hdw.ext)
        (first | (refine H.wg ?_; clear H; intros; rename_i w H; constructor) | refine wk ?_)
        exact ⟨V2, x, [], hV2, H.sx, by rw [e, if_neg (fun h => (okB_bad1 hlt (fun h => ha (by rw [hy1]; exact h.1.1))) h.2)]⟩
      by_cases hb : y.1 ≤ 2000
      rotate_left
      · ((first | refine draw_vc (id := 9) tabOk mixed [] [0, 1, 2, 3, 4, 5, 6, 7, 8, 9, 10, 11, 12, 13, 14, 15, 16, 17, 18, 19, 20, 21, 22, 23, 24, 25, 26, 27, 28, 29] (by kernel_rfl) ?_); intro w hdw; replace H := Rel.ext H hdw.ext)
        (first | (refine H.wg ?_; clear H; intros; rename_i w H; constructor) | refine wk ?_)
        exact ⟨V2, x, [], hV2, H.sx, by rw [e, if_neg (fun h => (okB_bad1 hlt (fun h => hb (by rw [hy1]; exact h.1.2))) h.2)]⟩
      have hyl5 : y.2.len = z[k].2.length := hyl
      have hy2' : Byt V2 y.2 z[k].2 := hy2
      have tail : (∀ h0 : 0 < k, (z[k - 1]'(by omega)).1 < z[k].1) → True := fun _ => trivial
      by_cases h0 : 0 < k
      · have hlp : k - 1 < hh.length := by omega
        obtain ⟨p2, d1, d2⟩ := hxs.at2 (g := fun r : BkH => iv r.1) (g' := fun r : BkH => r.2.v) (fun _ => rfl) hlp
        obtain ⟨u, hu⟩ : ∃ u, u = hh[k - 1] := ⟨_, rfl⟩
        have huz := (hpw.all (k - 1) u (z[k - 1]'(by omega)) (by rw [List.getElem?_eq_getElem hlp, hu]) (List.getElem?_eq_getElem (by omega))).1
        rw [← hu] at d1
        replace d1 : V2.cell? ⟨ablk x.a, placeOf (aoff x.a) ((k : Int) - 1).toNat 2 + 0, none⟩ = some (iv u.1) := by
          rw [show ((k : Int) - 1).toNat = k - 1 by omega, placeOf_eq]
          exact d1
        by_cases hle : y.1 ≤ u.1
        · ((first | refine draw_vc (id := 9) tabOk mixed [] [0, 1, 2, 3, 4, 5, 6, 7, 8, 9, 10, 11, 12, 13, 14, 15, 16, 17, 18, 19, 20, 21, 22, 23, 24, 25, 26, 27, 28, 29] (by kernel_rfl) ?_); intro w hdw; replace H := Rel.ext H hdw.ext)
          (first | (refine H.wg ?_; clear H; intros; rename_i w H; constructor) | refine wk ?_)
          exact ⟨V2, x, [], hV2, H.sx, by rw [e, if_neg (fun h => (okB_bad2 hlt h0 (by rw [← huz, ← hy1]; exact hle)) h.2)]⟩
        ((first | refine draw_vc (id := 9) tabOk mixed [] [0, 1, 2, 3, 4, 5, 6, 7, 8, 9, 10, 11, 12, 13, 14, 15, 16, 17, 18, 19, 20, 21, 22, 23, 24, 25, 26, 27, 28, 29] (by kernel_rfl) ?_); intro w hdw; replace H := Rel.ext H hdw.ext)
        (first | (refine H.wg ?_; clear H; intros; rename_i w H; constructor) | refine wk ?_)
        refine (trim_spec H.data hy2' (by omega) (cs := [32, 9, 13, 10]) (by decide) (by decide) (by decide)).use ?_
        rintro v w ⟨⟨t, rfl, ht⟩, K⟩
        (have hKb := K.base; replace H := H.call0 K)
        rw [bk_con] at ht
        have htl := ht.len
        by_cases hbk : z[k].2.dropWhile bkB = []
        · have : t.len = 0 := by rw [htl, hbk]; rfl
          (first | (refine H.wg ?_; clear H; intros; rename_i w H; constructor) | refine wk ?_)
          exact ⟨(by repeat (first | exact trivial | refine ⟨rfl, ?_⟩)), k + 1, (by repeat (first | exact trivial | refine ⟨rfl, ?_⟩)), ⟨⟨by omega, okB_next hlt hok ⟨⟨by rw [← hy1]; exact ha, by rw [← hy1]; exact hb⟩, (dropWhile_nil hbk).1⟩ (fun _ => by rw [← hy1, ← huz]; omega)⟩, H.sx⟩, by omega⟩
        · have : t.len ≠ 0 := by rw [htl]; exact fun h => hbk (List.eq_nil_of_length_eq_zero h)
          (first | (refine H.wg ?_; clear H; intros; rename_i w H; constructor) | refine wk ?_)
          exact ⟨V2, x, [], hV2, H.sx, by rw [e, if_neg (fun h => (okB_bad1 hlt (fun h => hbk (by simpa using (takeWhile_stop (p := bkB) h.2 (t := []) (fun c r e => by cases e)).2))) h.2)]⟩
      · ((first | refine draw_vc (id := 9) tabOk mixed [] [0, 1, 2, 3, 4, 5, 6, 7, 8, 9, 10, 11, 12, 13, 14, 15, 16, 17, 18, 19, 20, 21, 22, 23, 24, 25, 26, 27, 28, 29] (by kernel_rfl) ?_); intro w hdw; replace H := Rel.ext H hdw.ext)
        (first | (refine H.wg ?_; clear H; intros; rename_i w H; constructor) | refine wk ?_)
        refine (trim_spec H.data hy2' (by omega) (cs := [32, 9, 13, 10]) (by decide) (by decide) (by decide)).use ?_
        rintro v w ⟨⟨t, rfl, ht⟩, K⟩
        (have hKb := K.base; replace H := H.call0 K)
        rw [bk_con] at ht
        have htl := ht.len
        by_cases hbk : z[k].2.dropWhile bkB = []
        · have : t.len = 0 := by rw [htl, hbk]; rfl
          (first | (refine H.wg ?_; clear H; intros; rename_i w H; constructor) | refine wk ?_)
          exact ⟨(by repeat (first | exact trivial | refine ⟨rfl, ?_⟩)), k + 1, (by repeat (first | exact trivial | refine ⟨rfl, ?_⟩)), ⟨⟨by omega, okB_next hlt hok ⟨⟨by rw [← hy1]; exact ha, by rw [← hy1]; exact hb⟩, (dropWhile_nil hbk).1⟩ (fun h => absurd h h0)⟩, H.sx⟩, by omega⟩
        · have : t.len ≠ 0 := by rw [htl]; exact fun h => hbk (List.eq_nil_of_length_eq_zero h)
          (first | (refine H.wg ?_; clear H; intros; rename_i w H; constructor) | refine wk ?_)
          exact ⟨V2, x, [], hV2, H.sx, by rw [e, if_neg (fun h => (okB_bad1 hlt (fun h => hbk (by simpa using (takeWhile_stop (p := bkB) h.2 (t := []) (fun c r e => by cases e)).2))) h.2)]⟩
    · clear H
      rintro _ w ⟨hok, H⟩
      (first | (refine H.wg ?_; clear H; intros; rename_i w H; constructor) | refine wk ?_)
      refine ⟨V2, x, hh, hV2, H.sx, ?_⟩
      rw [e, if_pos ⟨hz, hok⟩]
      refine ⟨rfl, hxs, by simpa using hzl, fun i a y h1 h2 => ?_⟩
      rw [List.getElem?_map] at h2
      obtain ⟨q, hq, rfl⟩ := Option.map_eq_some_iff.1 h2
      obtain ⟨g1, g2⟩ := hpw.all i a q h1 hq
      have := (hok.1 q (List.mem_of_getElem? hq)).1
      exact ⟨by rw [g1]; dsimp only; omega, g2⟩
set_option maxRecDepth 100000 in
set_option maxHeartbeats 1000000 in
theorem to_tree (hV : Sub V W) (hE : NumT V) {s : Sl} {l : List UInt8} (hs : Byt V s l) (hl : l.length ≤ 1099511627776) : Ret Tryz.prog 10 [s.v].toArray W (ToR W V (toRes (treTo l) l.length)) := by
  have H := Rel.start hV
  have hlen := hs.len
  refine cal_of_vc tabOk Tryz.func10 rfl (by kernel_rfl) 33 rfl (by simp) [0, 2, 3, 4, 5, 6, 7, 10, 26] ?_
  (first | (refine H.wh ?_; clear H; intros; rename_i w H; constructor) | refine wk ?_)
  ((first | refine Rel.nwD H ?_ | refine Rel.nw H ?_); clear H; intro w b2 H)
  (first | (refine H.wh ?_; clear H; intros; rename_i w H; constructor) | refine wk ?_)
  ((first | refine Rel.nwD H ?_ | refine Rel.nw H ?_); clear H; intro w b4 H)
  by_cases hbig : 1000 < l.length
  · have e : toRes (treTo l) l.length = ⟨zeroV, [], 3, -1⟩ := by unfold toRes; rw [if_pos hbig]
    rw [e]
    (first | (refine H.wg ?_; clear H; intros; rename_i w H; constructor) | refine wk ?_)
    refine (fault_tree H.data 3 (-1)).use ?_
    rintro v w ⟨rfl, K⟩
    (have hKb := K.base; replace H := Rel.call H K)
    simp only [List.nil_append] at H
    (first | (refine H.wg ?_; clear H; intros; rename_i w H; constructor) | refine wk ?_)
    exact ⟨V, zeroH, ⟨none, 0, 0⟩, Sub.refl _, H.sx, rfl, valAt_zero _, SlF.nil _ _⟩
  (first | (refine H.wg ?_; clear H; intros; rename_i w H; constructor) | refine wk ?_)
  refine (read_tree hE H.data hs (by omega)).use ?_
  rintro v w ⟨V2, h, r, hh, hV2, K, hres⟩
  (have hKb := K.base; replace H := Rel.call H K)
  simp only [List.nil_append] at H
  cases hf : trF l with
  | none =>
    rw [hf] at hres
    obtain rfl := hres
    have e : toRes (treTo l) l.length = ⟨zeroV, [], 21, -1⟩ := by unfold toRes; rw [if_neg hbig, treTo, hf]
    rw [e]
    (first | (refine H.wh ?_; clear H; intros; rename_i w H; constructor) | refine wk ?_)
    ((first | refine Rel.nwD H ?_ | refine Rel.nw H ?_); clear H; intro w b5 H)
    (first | (refine H.wg ?_; clear H; intros; rename_i w H; constructor) | refine wk ?_)
    refine (fault_tree H.data 21 (-1)).use ?_
    rintro v w ⟨rfl, K⟩
    (have hKb := K.base; replace H := Rel.call H K)
    simp only [List.nil_append] at H
    (first | (refine H.wg ?_; clear H; intros; rename_i w H; constructor) | refine wk ?_)
    exact ⟨V2, zeroH, ⟨none, 0, 0⟩, hV2, H.sx, rfl, valAt_zero _, SlF.nil _ _⟩
  | some y =>
    obtain ⟨vv, o⟩ := y
    rw [hf] at hres
    obtain ⟨rfl, hv, hr, hp⟩ := hres
    obtain ⟨L, lb, F, rfl⟩ := trF_some hf
    obtain ⟨q1, q2, q3, q4⟩ := F.bounds (by omega)
    have hVB := F.vb (by omega)
    have hto : treTo l = if (vfault vv).1 = 0 then some (vv, treRes (othB L lb)) else none := by unfold treTo; rw [hf]
    (first | (refine H.wh ?_; clear H; intros; rename_i w H; constructor) | refine wk ?_)
    ((first | refine Rel.nwD H ?_ | refine Rel.nw H ?_); clear H; intro w b5 H)
    (first | (refine H.wg ?_; clear H; intros; rename_i w H; constructor) | refine wk ?_)
    refine (validate_value H.data hv hVB).use ?_
    rintro q w ⟨rfl, K⟩
    (have hKb := K.base; replace H := Rel.call H K)
    simp only [List.nil_append] at H
    by_cases hvf : (vfault vv).1 = 0
    rotate_left
    · have e : toRes (treTo l) l.length = ⟨zeroV, [], 21, -1⟩ := by unfold toRes; rw [if_neg hbig, hto, if_neg hvf]
      rw [e]
      (first | (refine H.wg ?_; clear H; intros; rename_i w H; constructor) | refine wk ?_)
      refine (fault_tree H.data 21 (-1)).use ?_
      rintro v w ⟨rfl, K⟩
      (have hKb := K.base; replace H := Rel.call H K)
      simp only [List.nil_append] at H
      (first | (refine H.wg ?_; clear H; intros; rename_i w H; constructor) | refine wk ?_)
      exact ⟨V2, zeroH, ⟨none, 0, 0⟩, hV2, H.sx, rfl, valAt_zero _, SlF.nil _ _⟩
    have e : toRes (treTo l) l.length = ⟨vv, treRes (othB L lb), 0, 0⟩ := by unfold toRes; rw [if_neg hbig, hto, if_pos hvf]
    rw [e, vfault_zz hvf]
    (first | (refine H.wg ?_; clear H; intros; rename_i w H; constructor) | refine wk ?_)
    ((first | refine draw_vc (id := 6) tabOk mixed [2] [0, 1, 3, 2, 4, 5, 6] (by kernel_rfl) ?_); intro w hdw; replace H := Rel.ext H hdw.ext)
    (first | (refine H.wg ?_; clear H; intros; rename_i w H; constructor) | refine wk ?_)
    refine (form_tree H.data hr hp q1 (fun x hx => by have := q3 x hx; exact this.1)).use ?_
    rintro v w ⟨V4, r2, hV4, rfl, hr2, K⟩
    (have hKb := K.base; replace H := Rel.call H K)
    simp only [List.nil_append] at H
    (first | (refine H.wg ?_; clear H; intros; rename_i w H; constructor) | refine wk ?_)
    exact ⟨V4, _, r2, hV2.trans hV4, H.sx, rfl, hv.up hV4, hr2⟩
theorem explain_tree (hV : Sub V W) {s : Sl} {b : List UInt8} (hs : Byt V s b) (hl : b.length ≤ 100000000) : Ret Tryz.prog 20 [s.v].toArray W (ExR W V (treLoss b)) := by
  have H := Rel.start hV
  refine cal_of_vc tabOk Tryz.func20 rfl (by kernel_rfl) 23 rfl (by simp) [0, 2, 3, 4, 5, 12, 16] ?_
  (first | (refine H.wh ?_; clear H; intros; rename_i w H; constructor) | refine wk ?_)
  ((first | refine Rel.nwD H ?_ | refine Rel.nw H ?_); clear H; intro w b3 H)
  (first | (refine H.wg ?_; clear H; intros; rename_i w H; constructor) | refine wk ?_)
  refine (readResidue_tree H.data hs (by omega)).use ?_
  rintro q w ⟨V2, r, hh, hV2, K, hres⟩
  (have hKb := K.base; replace H := Rel.call H K)
  simp only [List.nil_append] at H
  unfold treLoss
  cases hr : treRd b with
  | none =>
    rw [hr] at hres
    obtain rfl := hres
    (first | (refine H.wg ?_; clear H; intros; rename_i w H; constructor) | refine wk ?_)
    refine (fault_tree H.data 6 (-1)).use ?_
    rintro q w ⟨rfl, K⟩
    (have hKb := K.base; replace H := Rel.call H K)
    simp only [List.nil_append] at H
    (first | (refine H.wg ?_; clear H; intros; rename_i w H; constructor) | refine wk ?_)
    exact ⟨V2, ⟨none, 0, 0⟩, hV2, H.sx, rfl⟩
  | some Z =>
    rw [hr] at hres
    obtain ⟨rfl, hrs, hp⟩ := hres
    have hl1 := hrs.len
    have hl2 := hp.len
    dsimp only
    by_cases h0 : Z.length = 0
    · rw [if_pos h0]
      (first | (refine H.wg ?_; clear H; intros; rename_i w H; constructor) | refine wk ?_)
      exact ⟨V2, ⟨none, 0, 0⟩, hV2, H.sx, rfl, SlF.nil _ _⟩
    · rw [if_neg h0]
      (first | (refine H.wh ?_; clear H; intros; rename_i w H; constructor) | refine wk ?_)
      ((first | refine Rel.nwD H ?_ | refine Rel.nw H ?_); clear H; intro w b21 H)
      (first | (refine H.wg ?_; clear H; intros; rename_i w H; constructor) | refine wk ?_)
      have H2 : Rel W V [.row ⟨some ⟨b21, 0, none⟩, 1, 1⟩ 85 2 ([(lsBlanks, (r.len : Int))].flatMap lossC)] V2 w := Rel.toRow (l := [(lsBlanks, (r.len : Int))].flatMap lossC) H.sx rfl (by decide)
      obtain ⟨V3, hV3, H3, hx⟩ := H2.freezeF (fun _ => rfl) (by decide)
      have er : (r.len : Int) = (Z.length : Int) := by omega
      rw [er] at hx
      exact ⟨V3, _, hV2.trans hV3, H3, rfl, hx⟩
end
end Go.Proofs.YtffaffojkfalhaaGreatDoor
