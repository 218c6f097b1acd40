/-
  Files of hexadecimal records, the reference: To.
-/
import Derived.Test.YtjfcpnlacodjjaaHexJ
import Derived.Test.YtjfcpnlacodjjaaValI
namespace Go.Proofs.Ytjfcpnlacodjjaa
open Go Go.RowKit

section
variable {V W : World}
theorem intsEq_ref (hV : Sub V W) {x y : Sl} {a b : List Int} (hx : SlF itC V x a) (hy : SlF itC V y b) (ha : a.length ≤ 1099511627776) : Ret Try.prog 59 [x.v, y.v].toArray W fun v w' => v = .bool (decide (a = b)) ∧ Rel W V [] V w' := by
  have H := Rel.start hV
  have h1 := hx.len
  have h2 := hy.len
  refine cal_of_vc tabOk Try.func59 rfl (by kernel_rfl) 26 rfl (by simp) [0, 1, 4, 5, 10, 14, 25] ?_
  by_cases hl : a.length = b.length
  rotate_left
  · (first | (refine H.wg ?_; clear H; intros; rename_i w H; constructor) | refine wk ?_)
    rw [decide_eq_false (fun h => hl (by rw [h]))]
    exact ⟨rfl, H⟩
  (first | (refine H.wg ?_; clear H; intros; rename_i w H; constructor) | refine wk ?_)
  refine loop_inv (S := Nat) tabOk [0, 1, 10] (fun k => [(5, iv k)]) (fun k w' => k ≤ a.length ∧ a.take k = b.take k ∧ Rel W V [] V w') (fun k _ => a.length - k) 0 ?_
  (conv => whnf)
  refine ⟨(by repeat (first | exact trivial | refine ⟨rfl, ?_⟩)), ⟨by omega, rfl, H⟩, ?_⟩
  clear H
  rintro k w ⟨hk, hz, H⟩
  by_cases hka : k < a.length
  rotate_left
  · rw [List.take_of_length_le (by omega), List.take_of_length_le (by omega)] at hz
    (first | (refine H.wg ?_; clear H; intros; rename_i w H; constructor) | refine wk ?_)
    rw [decide_eq_true hz]
    exact ⟨rfl, H⟩
  have hkb : k < b.length := by omega
  obtain ⟨hp, hc⟩ := hx.at1 (g := iv) (fun _ => rfl) hka
  obtain ⟨hp', hc'⟩ := hy.at1 (g := iv) (fun _ => rfl) hkb
  have ta := List.take_succ_eq_append_getElem hka
  have tb := List.take_succ_eq_append_getElem hkb
  by_cases he : a[k] = b[k]
  · rw [he] at hc ta
    (first | (refine H.wg ?_; clear H; intros; rename_i w H; constructor) | refine wk ?_)
    ((first | refine draw_vc (id := 6) tabOk mixed [] [0, 1, 2, 3, 4, 5, 6, 7, 8] (by kernel_rfl) ?_); intro w hdw; replace H := Rel.ext H hdw.ext)
    (first | (refine H.wg ?_; clear H; intros; rename_i w H; constructor) | refine wk ?_)
    exact ⟨(by repeat (first | exact trivial | refine ⟨rfl, ?_⟩)), k + 1, (by repeat (first | exact trivial | refine ⟨rfl, ?_⟩)), ⟨by omega, by rw [ta, tb, hz], H.sx⟩, by omega⟩
  · have hne : a ≠ b := fun h => he (by subst h; rfl)
    generalize a[k] = u at hc he
    generalize b[k] = v at hc' he
    (first | (refine H.wg ?_; clear H; intros; rename_i w H; constructor) | refine wk ?_)
    ((first | refine draw_vc (id := 6) tabOk mixed [] [0, 1, 2, 3, 4, 5, 6, 7, 8] (by kernel_rfl) ?_); intro w hdw; replace H := Rel.ext H hdw.ext)
    (first | (refine H.wg ?_; clear H; intros; rename_i w H; constructor) | refine wk ?_)
    rw [decide_eq_false hne]
    exact ⟨rfl, H.sx⟩
/- a new segment, and its size -/
theorem pw_snoc_inv {α β : Type} {R : World → β → α → Prop} {V : World} {hs : List β} {P : List α} {y : α} (h : Pw R V hs (P ++ [y])) : ∃ hP x, hs = hP ++ [x] ∧ Pw R V hP P ∧ R V x y := by
  have hl := h.len
  rw [List.length_append, List.length_singleton] at hl
  rcases List.eq_nil_or_concat hs with rfl | ⟨hP, x, rfl⟩
  · simp at hl
  · rw [List.concat_eq_append] at h hl ⊢
    rw [List.length_append, List.length_singleton] at hl
    refine ⟨hP, x, rfl, ⟨by omega, fun k a b ha hb => ?_⟩, ?_⟩
    · have h1 := (List.getElem?_eq_some_iff.1 ha).1
      exact h.all k a b (by rw [List.getElem?_append_left h1]; exact ha) (by rw [List.getElem?_append_left (by omega)]; exact hb)
    · exact h.all P.length x y (by rw [show P.length = hP.length by omega]; simp) (by simp)
set_option maxRecDepth 100000 in
set_option maxHeartbeats 4000000 in
theorem hxrTo_ref (hV : Sub V W) {s : Sl} {l : List UInt8} (hs : Byt V s l) (hl : l.length ≤ 1000) : Ret Try.prog 26 [s.v].toArray W (ToG W V (hexTo l)) := by
  have H := Rel.start hV
  have hlen := hs.len
  refine cal_of_vc tabOk Try.func26 rfl (by kernel_rfl) 165 rfl (by simp) [0, 2, 3, 4, 5, 6, 7, 8, 9, 10, 11, 12, 13, 14, 15, 17, 36, 40, 65, 94, 116, 154, 159] ?_
  (first | (refine H.wh ?_; clear H; intros; rename_i w H; constructor) | refine wk ?_)
  ((first | refine Rel.nwD H ?_ | refine Rel.nw H ?_); clear H; intro w b2 H)
  (first | (refine H.wg ?_; clear H; intros; rename_i w H; constructor) | refine wk ?_)
  refine loop_inv (S := Nat) tabOk [0, 2] (fun f => [(5, iv f)]) (fun f w' => f ≤ 4 ∧ (∀ g, g < f → hexOne g l = none) ∧ ∃ V2, Sub V V2 ∧ Rel W V [.blk b2 (valC zeroH) 27] V2 w') (fun f _ => 4 - f) 0 ?_
  (conv => whnf)
  refine ⟨(by repeat (first | exact trivial | refine ⟨rfl, ?_⟩)), ⟨by omega, fun g hg => by omega, V, Sub.refl _, H⟩, ?_⟩
  clear H
  rintro f w ⟨hf4, hno, V2, hV2, H⟩
  by_cases hf : f < 4
  rotate_left
  · obtain rfl : f = 4 := by omega
    rw [hexTo_no hno]
    (first | (refine H.wg ?_; clear H; intros; rename_i w H; constructor) | refine wk ?_)
    exact ⟨V2, zeroH, ⟨none, 0, 0⟩, zeroV, [], hV2, H.sx, valAt_zero _, SlF.nil _ _, rfl⟩
  (first | (refine H.wg ?_; clear H; intros; rename_i w H; constructor) | refine wk ?_)
  rw [show decide ((f : Int) % 2 = 1) = lowF f from decide_eq_decide.2 (by omega), show decide ((2 : Int) ≤ (f : Int)) = decide (2 ≤ f) from decide_eq_decide.2 (by omega)]
  refine (hexRecords_ref H.data (hs.up hV2) hl hf).use ?_
  rintro v w ⟨V3, rr, gs, k, hV3, K, rfl, hres⟩
  (have hKb := K.base; replace H := H.call0 K)
  have hV23 := hV2.trans hV3
  cases hr : recs f l with
  | none =>
    rw [hr] at hres
    dsimp only at hres
    subst hres
    have hone := hexOne_none hr
    (first | (refine H.wg ?_; clear H; intros; rename_i w H; constructor) | refine wk ?_)
    exact ⟨(by repeat (first | exact trivial | refine ⟨rfl, ?_⟩)), f + 1, (by repeat (first | exact trivial | refine ⟨rfl, ?_⟩)), ⟨by omega, fun g hg => by
      by_cases e : g = f
      · rw [e]; exact hone
      · exact hno g (by omega), V3, hV23, H.sx⟩, by omega⟩
  | some rs =>
  rw [hr] at hres
  dsimp only at hres
  obtain ⟨rfl, hrr, hgp⟩ := hres
  have hrl := hrr.len
  have hgl := hgp.len
  obtain ⟨hflat, hrok⟩ := recs_iff.1 hr
  have hrsl := lines_len f rs
  rw [← hflat] at hrsl
  have hone := hexOne_recs hr
  have hfirst := hexTo_first hf hno hr
  by_cases h0 : rs = []
  · have hone0 : hexOne f l = none := by rw [hone, h0, foldR_nil]
    have h00 : rs.length = 0 := by rw [h0]; rfl
    (first | (refine H.wg ?_; clear H; intros; rename_i w H; constructor) | refine wk ?_)
    exact ⟨(by repeat (first | exact trivial | refine ⟨rfl, ?_⟩)), f + 1, (by repeat (first | exact trivial | refine ⟨rfl, ?_⟩)), ⟨by omega, fun g hg => by
      by_cases e : g = f
      · rw [e]; exact hone0
      · exact hno g (by omega), V3, hV23, H.sx⟩, by omega⟩
  have h0l : 0 < rs.length := List.length_pos_iff.2 h0
  (first | (refine H.wg ?_; clear H; intros; rename_i w H; constructor) | refine wk ?_)
  replace H := H.rowNil 57 2
  replace H := H.rowNil 3 1
  refine SemC.cut 2 (fun q : Bool × Sl × Sl => [(0, s.v), (2, .pointer (some ⟨b2, 0, none⟩)), (5, iv f), (7, .bool q.1), (8, q.2.1.v), (9, q.2.2.v)])
    (fun q w' => ∃ V4 S Z hs, Sub V3 V4 ∧ Pw SegR V4 hs S ∧ segOk S ∧ S.length ≤ rs.length ∧ Z.length ≤ rs.length ∧ (∀ n ∈ Z, n ≤ 255) ∧ foldR [] [] rs = (if q.1 = true then some (S, Z) else none) ∧ Rel W V [.row q.2.2 3 1 ((ints Z).flatMap itC), .row q.2.1 57 2 (hs.flatMap sgC), .blk b2 (valC zeroH) 27] V4 w') ?_ ?_
  · refine loop_inv (S := Nat × Sl × Sl × List Seg × List Nat × List (Nat × Sl)) tabOk [0, 2, 5, 6, 15, 17, 36, 154, 159] (fun q => [(7, .bool true), (8, q.2.1.v), (9, q.2.2.1.v), (10, iv q.1)]) (fun q w' => q.1 < rs.length ∧ foldR [] [] rs = foldR q.2.2.2.1 q.2.2.2.2.1 (rs.drop q.1) ∧ segOk q.2.2.2.1 ∧ q.2.2.2.1.length ≤ q.1 ∧ q.2.2.2.2.1.length = q.1 ∧ (∀ n ∈ q.2.2.2.2.1, n ≤ 255) ∧ ∃ V4, Sub V3 V4 ∧ Pw SegR V4 q.2.2.2.2.2 q.2.2.2.1 ∧ Rel W V [.row q.2.2.1 3 1 ((ints q.2.2.2.2.1).flatMap itC), .row q.2.1 57 2 (q.2.2.2.2.2.flatMap sgC), .blk b2 (valC zeroH) 27] V4 w') (fun q _ => rs.length - q.1) (0, ⟨none, 0, 0⟩, ⟨none, 0, 0⟩, [], [], []) ?_
    (conv => whnf)
    refine ⟨(by repeat (first | exact trivial | refine ⟨rfl, ?_⟩)), ⟨h0l, by rw [List.drop_zero], by intro s hs; simp at hs, by simp, rfl, by simp, V3, Sub.refl _, Pw.nil, H⟩, ?_⟩
    clear H
    rintro ⟨i, lr, zr, S, Z, hs⟩ w ⟨hi, hfold, hok, hSl, hZl, hZ, V4, hV4, hP, H⟩
    dsimp only at hi hfold hok hSl hZl hZ hP H ⊢
    have hV24 := hV23.trans hV4
    have hpl := hP.len
    obtain ⟨pr, cr⟩ := (hrr.up hV4).at1 (g := Sl.v) (fun _ => rfl) (i := i) (by omega)
    have hbr := (hgp.all i _ _ (List.getElem?_eq_getElem (by omega)) (List.getElem?_eq_getElem hi)).up hV4
    have hraw := hrok _ (List.getElem_mem hi)
    have hdi := List.drop_eq_getElem_cons hi
    obtain ⟨raw, hrw⟩ : ∃ raw, raw = rs[i] := ⟨_, rfl⟩
    obtain ⟨rb, hrbe⟩ : ∃ rb, rb = gs[i]'(by omega) := ⟨_, rfl⟩
    rw [← hrw, ← hrbe] at hbr
    rw [← hrw] at hraw hdi
    rw [← hrbe] at cr
    have hrn := hbr.len
    have hrc := hbr.cap
    have ⟨r5, r6, _⟩ := hraw
    obtain ⟨p0, c0⟩ := hbr.at1 (g := bv) (fun _ => rfl) (i := 0) (by omega)
    obtain ⟨_, c1⟩ := hbr.at1 (g := bv) (fun _ => rfl) (i := 1) (by omega)
    obtain ⟨_, c2⟩ := hbr.at1 (g := bv) (fun _ => rfl) (i := 2) (by omega)
    obtain ⟨_, c3⟩ := hbr.at1 (g := bv) (fun _ => rfl) (i := 3) (by omega)
    have hb0 : b8 raw 0 = (raw[0]'(by omega)).toNat := by simp [b8, show 0 < raw.length by omega]
    have hb1 : b8 raw 1 = (raw[1]'(by omega)).toNat := by simp [b8, show 1 < raw.length by omega]
    have hb2 : b8 raw 2 = (raw[2]'(by omega)).toNat := by simp [b8, show 2 < raw.length by omega]
    have hb3 : b8 raw 3 = (raw[3]'(by omega)).toNat := by simp [b8, show 3 < raw.length by omega]
    have hat : rAt raw = 256 * (raw[1]'(by omega)).toNat + (raw[2]'(by omega)).toNat := by unfold rAt; rw [hb1, hb2]
    have htc := hbr.sub (n := 1) (fun _ => rfl) (a := 4) (b := 4 + b8 raw 0) (by omega) (by omega)
    rw [show (raw.take (4 + b8 raw 0)).drop 4 = rCont raw by unfold rCont; rw [List.drop_take, show 4 + b8 raw 0 - 4 = b8 raw 0 by omega]] at htc
    have hcl := rCont_len hraw
    obtain ⟨n0, hn0⟩ : ∃ n0, n0 = b8 raw 0 := ⟨_, rfl⟩
    rw [← hn0] at htc hcl r6
    have hn0' := hn0
    rw [hb0] at hn0'
    obtain ⟨x0, hx0⟩ : ∃ x, x = raw[0]'(by omega) := ⟨_, rfl⟩
    obtain ⟨x1, hx1⟩ : ∃ x, x = raw[1]'(by omega) := ⟨_, rfl⟩
    obtain ⟨x2, hx2⟩ : ∃ x, x = raw[2]'(by omega) := ⟨_, rfl⟩
    obtain ⟨x3, hx3⟩ : ∃ x, x = raw[3]'(by omega) := ⟨_, rfl⟩
    rw [← hx0] at c0 hn0' hb0
    rw [← hx1, ← hx2] at hat
    rw [← hx1] at c1
    rw [← hx2] at c2
    rw [← hx3] at c3 hb3
    have l0 := x0.toNat_lt
    have l1 := x1.toNat_lt
    have l2 := x2.toNat_lt
    have l3 := x3.toNat_lt
    have hrAl : rAt raw < 65536 := by omega
    (first | (refine H.wg ?_; clear H; intros; rename_i w H; constructor) | refine wk ?_)
    ((first | refine draw_vc (id := 12) tabOk mixed [] [0, 1, 2, 3, 4, 5, 6, 7, 8, 9, 10] (by kernel_rfl) ?_ | refine draw_vc (id := 19) tabOk mixed [] [0, 1, 2, 3, 4, 5, 6, 7, 8, 9, 10, 11, 12, 13, 14, 15, 16, 17] (by kernel_rfl) ?_ | refine draw_vc (id := 20) tabOk mixed [] [0, 1, 2, 3, 4, 5, 6, 7, 8, 9, 10, 11, 12, 13, 14] (by kernel_rfl) ?_ | refine draw_vc (id := 28) tabOk mixed [3] [0, 1, 2, 3, 4, 5, 6] (by kernel_rfl) ?_); intro w hdw; replace H := Rel.ext H hdw.ext)
    (first | (refine H.wg ?_; clear H; intros; rename_i w H; constructor) | refine wk ?_)
    rw [show 256 * (x1.toNat : Int) + (x2.toNat : Int) = ((rAt raw : Nat) : Int) by omega]
    by_cases hlast : i + 1 = rs.length
    · rw [hdi, List.drop_of_length_le (by omega), foldR_one] at hfold
      by_cases e1 : b8 raw 0 = 0
      rotate_left
      · rw [if_neg fun q => e1 q.1] at hfold
        (first | (refine H.wg ?_; clear H; intros; rename_i w H; constructor) | refine wk ?_)
        exact ⟨(false, lr, zr), (by repeat (first | exact trivial | refine ⟨rfl, ?_⟩)), V4, S, Z, hs, hV4, hP, hok, by omega, by omega, hZ, (by rw [if_neg Bool.false_ne_true]; exact hfold), H⟩
      by_cases e2 : rAt raw = 0
      rotate_left
      · rw [if_neg fun q => e2 q.2.1] at hfold
        (first | (refine H.wg ?_; clear H; intros; rename_i w H; constructor) | refine wk ?_)
        exact ⟨(false, lr, zr), (by repeat (first | exact trivial | refine ⟨rfl, ?_⟩)), V4, S, Z, hs, hV4, hP, hok, by omega, by omega, hZ, (by rw [if_neg Bool.false_ne_true]; exact hfold), H⟩
      by_cases e3 : b8 raw 3 = 1
      rotate_left
      · rw [if_neg fun q => e3 q.2.2] at hfold
        rw [hb3] at e3
        (first | (refine H.wg ?_; clear H; intros; rename_i w H; constructor) | refine wk ?_)
        rw [decide_eq_false (show ¬ (x3.toNat : Int) = 1 by omega)]
        exact ⟨(false, lr, zr), (by repeat (first | exact trivial | refine ⟨rfl, ?_⟩)), V4, S, Z, hs, hV4, hP, hok, by omega, by omega, hZ, (by rw [if_neg Bool.false_ne_true]; exact hfold), H⟩
      rw [if_pos ⟨e1, e2, e3⟩] at hfold
      rw [hb3] at e3
      (first | (refine H.wg ?_; clear H; intros; rename_i w H; constructor) | refine wk ?_)
      rw [decide_eq_true (show (x3.toNat : Int) = 1 by omega)]
      exact ⟨(true, lr, zr), (by repeat (first | exact trivial | refine ⟨rfl, ?_⟩)), V4, S, Z, hs, hV4, hP, hok, by omega, by omega, hZ, (by rw [if_pos rfl]; exact hfold), H⟩
    have hdne : rs.drop (i + 1) ≠ [] := by
      intro q
      have := congrArg List.length q
      rw [List.length_drop] at this
      simp at this
      omega
    rw [hdi, foldR_cons _ _ _ hdne] at hfold
    have hbadT : foldR [] [] rs = none → hexTo l = none := fun h => by rw [hfirst, hone, h]
    by_cases d1 : b8 raw 0 = 0
    · rw [if_neg fun q => q.2.1 d1] at hfold
      rw [hbadT hfold]
      (first | (refine H.wg ?_; clear H; intros; rename_i w H; constructor) | refine wk ?_)
      exact ⟨V4, zeroH, ⟨none, 0, 0⟩, zeroV, [], hV24, H.sx, valAt_zero _, SlF.nil _ _, rfl⟩
    by_cases d2 : b8 raw 3 = 0
    rotate_left
    · rw [if_neg fun q => d2 q.1] at hfold
      rw [hbadT hfold]
      rw [hb3] at d2
      (first | (refine H.wg ?_; clear H; intros; rename_i w H; constructor) | refine wk ?_)
      exact ⟨V4, zeroH, ⟨none, 0, 0⟩, zeroV, [], hV24, H.sx, valAt_zero _, SlF.nil _ _, rfl⟩
    by_cases d3 : rAt raw + b8 raw 0 ≤ 65536
    rotate_left
    · rw [if_neg fun q => d3 q.2.2] at hfold
      rw [hbadT hfold]
      rw [hb3] at d2
      (first | (refine H.wg ?_; clear H; intros; rename_i w H; constructor) | refine wk ?_)
      exact ⟨V4, zeroH, ⟨none, 0, 0⟩, zeroV, [], hV24, H.sx, valAt_zero _, SlF.nil _ _, rfl⟩
    rw [if_pos ⟨d2, d1, d3⟩, ← hn0] at hfold
    rw [hb3] at d2
    have hcn : rCont raw ≠ [] := by
      intro q
      rw [q] at hcl
      simp at hcl
      omega
    have hok' := segOk_add (a := rAt raw) hok hcn (by omega)
    obtain ⟨_, hadl⟩ := addSeg_ne (rAt raw) (rCont raw) S
    have hsl := H.rowLen (i := 1) rfl (fun _ => rfl) (by decide)
    have hz9 : ((4 : Int) + (x0.toNat : Int)).toNat = 4 + n0 := by omega
    rcases List.eq_nil_or_concat S with hSe | ⟨P, y, hSe⟩
    · subst hSe
      have h00 : hs = [] := List.eq_nil_of_length_eq_zero (by rw [hpl]; rfl)
      subst h00
      rw [List.length_nil] at hsl
      (first | (refine H.wg ?_; clear H; intros; rename_i w H; constructor) | refine wk ?_)
      ((first | refine draw_vc (id := 12) tabOk mixed [] [0, 1, 2, 3, 4, 5, 6, 7, 8, 9, 10] (by kernel_rfl) ?_ | refine draw_vc (id := 19) tabOk mixed [] [0, 1, 2, 3, 4, 5, 6, 7, 8, 9, 10, 11, 12, 13, 14, 15, 16, 17] (by kernel_rfl) ?_ | refine draw_vc (id := 20) tabOk mixed [] [0, 1, 2, 3, 4, 5, 6, 7, 8, 9, 10, 11, 12, 13, 14] (by kernel_rfl) ?_ | refine draw_vc (id := 28) tabOk mixed [3] [0, 1, 2, 3, 4, 5, 6] (by kernel_rfl) ?_); intro w hdw; replace H := Rel.ext H hdw.ext)
      (first | (refine H.wg ?_; clear H; intros; rename_i w H; constructor) | refine wk ?_)
      rw [hz9]
      refine (copy_ref H.data htc (by omega)).use ?_
      rintro v w ⟨r5, rfl, K⟩
      (have hKb := K.base; replace H := Rel.call H K)
      simp only [List.cons_append, List.nil_append] at H
      obtain ⟨V5, hV5, H, hr5⟩ := Rel.freezeF H (fun _ => rfl) (by decide)
      (first | (refine H.wg ?_; clear H; intros; rename_i w H; constructor) | refine wk ?_)
      refine Rel.app1_1 (f := sgC) (l := []) (x := (rAt raw, r5)) tabOk rfl rfl rfl rfl rfl (by decide) (fun _ => rfl) (by simp [Value.oneCell']) H (by show (([] : List (Nat × Sl)).length + 1) * 32 ≤ _; simp only [List.length_nil, List.length_append, List.length_singleton]; omega) (by simp only [List.length_nil, List.length_append, List.length_singleton]; omega) ?_
      clear H
      intro lr1 w H
      (first | (refine H.wg ?_; clear H; intros; rename_i w H; constructor) | refine wk ?_)
      refine Rel.app1_0 (f := itC) (l := ints Z) (x := (x0.toNat : Int)) tabOk rfl rfl rfl rfl rfl (by decide) (fun _ => rfl) (by simp [Value.oneCell']) H (by show ((ints Z).length + 1) * 8 ≤ _; rw [List.length_map]; omega) (by rw [List.length_map]; omega) ?_
      clear H
      intro zr1 w H
      rw [show ints Z ++ [(x0.toNat : Int)] = ints (Z ++ [n0]) by simp [hn0']] at H
      (first | (refine H.wg ?_; clear H; intros; rename_i w H; constructor) | refine wk ?_)
      refine ⟨(by repeat (first | exact trivial | refine ⟨rfl, ?_⟩)), (i + 1, lr1, zr1, addSeg (rAt raw) (rCont raw) [], Z ++ [n0], [] ++ [(rAt raw, r5)]), (by repeat (first | exact trivial | refine ⟨rfl, ?_⟩)), ⟨by dsimp only; omega, hfold, hok', by dsimp only; omega, by simp; omega, fun n hn => ?_, V5, hV4.trans hV5, ?_, H⟩, by dsimp only; omega⟩
      · rcases List.mem_append.1 hn with hn | hn
        · exact hZ n hn
        · obtain rfl := List.mem_singleton.1 hn
          omega
      · exact Pw.nil.snoc ⟨rfl, hr5⟩
    · rw [List.concat_eq_append] at hSe
      subst hSe
      obtain ⟨hP', h, rfl, hPw, hRh⟩ := pw_snoc_inv hP
      obtain ⟨hx, hsl2⟩ := h
      obtain ⟨x, d⟩ := y
      obtain ⟨hxe, hby⟩ := hRh
      dsimp only at hxe hby
      subst hxe
      have hyo := hok (hx, d) (by simp)
      dsimp only at hyo
      have hbn := hby.len
      have hpn := hPw.len
      rw [List.length_append, List.length_singleton] at hsl hSl hpl
      have eI : (((lr.len : Nat) : Int) - 1).toNat = hP'.length := by omega
      have gl : (hP' ++ [(hx, hsl2)])[hP'.length]'(by simp) = (hx, hsl2) := by simp
      have hpla : Plain lr.a := ((H.slfAt (i := 1) rfl (fun _ => rfl) (by decide)).at2 (g := fun h : Nat × Sl => iv (h.1 : Int)) (g' := fun h : Nat × Sl => h.2.v) (fun _ => rfl) (i := hP'.length) (by simp)).1
      (first | (refine H.wg ?_; clear H; intros; rename_i w H; constructor) | refine wk ?_)
      ((first | refine draw_vc (id := 12) tabOk mixed [] [0, 1, 2, 3, 4, 5, 6, 7, 8, 9, 10] (by kernel_rfl) ?_ | refine draw_vc (id := 19) tabOk mixed [] [0, 1, 2, 3, 4, 5, 6, 7, 8, 9, 10, 11, 12, 13, 14, 15, 16, 17] (by kernel_rfl) ?_ | refine draw_vc (id := 20) tabOk mixed [] [0, 1, 2, 3, 4, 5, 6, 7, 8, 9, 10, 11, 12, 13, 14] (by kernel_rfl) ?_ | refine draw_vc (id := 28) tabOk mixed [3] [0, 1, 2, 3, 4, 5, 6] (by kernel_rfl) ?_); intro w hdw; replace H := Rel.ext H hdw.ext)
      (first | (refine H.wg ?_; clear H; intros; rename_i w H; constructor) | refine wk ?_)
      rw [eI]
      obtain ⟨_, u1, u2⟩ := (H.slfAt (i := 1) rfl (fun _ => rfl) (by decide)).at2 (g := fun h : Nat × Sl => iv (h.1 : Int)) (g' := fun h : Nat × Sl => h.2.v) (fun _ => rfl) (i := hP'.length) (by simp)
      rw [gl] at u1 u2
      dsimp only at u1 u2
      refine ⟨_, u1, ?_⟩
      (first | (refine H.wg ?_; clear H; intros; rename_i w H; constructor) | refine wk ?_)
      rw [eI]
      obtain ⟨_, u1, u2⟩ := (H.slfAt (i := 1) rfl (fun _ => rfl) (by decide)).at2 (g := fun h : Nat × Sl => iv (h.1 : Int)) (g' := fun h : Nat × Sl => h.2.v) (fun _ => rfl) (i := hP'.length) (by simp)
      rw [gl] at u1 u2
      dsimp only at u1 u2
      refine ⟨_, u2, ?_⟩
      by_cases he : hx + d.length = rAt raw
      · (first | (refine H.wg ?_; clear H; intros; rename_i w H; constructor) | refine wk ?_)
        ((first | refine draw_vc (id := 12) tabOk mixed [] [0, 1, 2, 3, 4, 5, 6, 7, 8, 9, 10] (by kernel_rfl) ?_ | refine draw_vc (id := 19) tabOk mixed [] [0, 1, 2, 3, 4, 5, 6, 7, 8, 9, 10, 11, 12, 13, 14, 15, 16, 17] (by kernel_rfl) ?_ | refine draw_vc (id := 20) tabOk mixed [] [0, 1, 2, 3, 4, 5, 6, 7, 8, 9, 10, 11, 12, 13, 14] (by kernel_rfl) ?_ | refine draw_vc (id := 28) tabOk mixed [3] [0, 1, 2, 3, 4, 5, 6] (by kernel_rfl) ?_); intro w hdw; replace H := Rel.ext H hdw.ext)
        (first | (refine H.wg ?_; clear H; intros; rename_i w H; constructor) | refine wk ?_)
        rw [eI]
        obtain ⟨_, u1, u2⟩ := (H.slfAt (i := 1) rfl (fun _ => rfl) (by decide)).at2 (g := fun h : Nat × Sl => iv (h.1 : Int)) (g' := fun h : Nat × Sl => h.2.v) (fun _ => rfl) (i := hP'.length) (by simp)
        rw [gl] at u1 u2
        dsimp only at u1 u2
        refine ⟨_, u2, ?_⟩
        (first | (refine H.wg ?_; clear H; intros; rename_i w H; constructor) | refine wk ?_)
        rw [hz9]
        refine (join_ref H.data hby htc (by omega)).use ?_
        rintro v w ⟨r5, rfl, K⟩
        (have hKb := K.base; replace H := Rel.call H K)
        simp only [List.cons_append, List.nil_append] at H
        obtain ⟨V5, hV5, H, hr5⟩ := Rel.freezeF H (fun _ => rfl) (by decide)
        (first | (refine H.wg ?_; clear H; intros; rename_i w H; constructor) | refine wk ?_)
        rw [eI]
        refine Rel.stRowN (i := 1) H rfl (hP'.length * 2 + 1) (by omega) rfl rfl ?_
        clear H
        intro w H
        simp only [List.set_cons_zero, List.set_cons_succ] at H
        rw [show ((hP' ++ [(hx, hsl2)]).flatMap sgC).set (hP'.length * 2 + 1) r5.v = (hP' ++ [(hx, r5)]).flatMap sgC from sgC_set hP' hx hsl2 r5] at H
        (first | (refine H.wg ?_; clear H; intros; rename_i w H; constructor) | refine wk ?_)
        refine Rel.app1_0 (f := itC) (l := ints Z) (x := (x0.toNat : Int)) tabOk rfl rfl rfl rfl rfl (by decide) (fun _ => rfl) (by simp [Value.oneCell']) H (by show ((ints Z).length + 1) * 8 ≤ _; rw [List.length_map]; omega) (by rw [List.length_map]; omega) ?_
        clear H
        intro zr1 w H
        rw [show ints Z ++ [(x0.toNat : Int)] = ints (Z ++ [n0]) by simp [hn0']] at H
        (first | (refine H.wg ?_; clear H; intros; rename_i w H; constructor) | refine wk ?_)
        refine ⟨(by repeat (first | exact trivial | refine ⟨rfl, ?_⟩)), (i + 1, lr, zr1, addSeg (rAt raw) (rCont raw) (P ++ [(hx, d)]), Z ++ [n0], hP' ++ [(hx, r5)]), (by repeat (first | exact trivial | refine ⟨rfl, ?_⟩)), ⟨by dsimp only; omega, hfold, hok', by dsimp only; omega, by simp; omega, fun n hn => ?_, V5, hV4.trans hV5, ?_, H⟩, by dsimp only; omega⟩
        · rcases List.mem_append.1 hn with hn | hn
          · exact hZ n hn
          · obtain rfl := List.mem_singleton.1 hn
            omega
        · dsimp only
          rw [addSeg_snoc, if_pos he]
          exact (hPw.up SegR.up hV5).snoc ⟨rfl, hr5⟩
      · (first | (refine H.wg ?_; clear H; intros; rename_i w H; constructor) | refine wk ?_)
        rw [hz9]
        refine (copy_ref H.data htc (by omega)).use ?_
        rintro v w ⟨r5, rfl, K⟩
        (have hKb := K.base; replace H := Rel.call H K)
        simp only [List.cons_append, List.nil_append] at H
        obtain ⟨V5, hV5, H, hr5⟩ := Rel.freezeF H (fun _ => rfl) (by decide)
        (first | (refine H.wg ?_; clear H; intros; rename_i w H; constructor) | refine wk ?_)
        refine Rel.app1_1 (f := sgC) (l := (hP' ++ [(hx, hsl2)])) (x := (rAt raw, r5)) tabOk rfl rfl rfl rfl rfl (by decide) (fun _ => rfl) (by simp [Value.oneCell']) H (by show (((hP' ++ [(hx, hsl2)]) : List (Nat × Sl)).length + 1) * 32 ≤ _; simp only [List.length_nil, List.length_append, List.length_singleton]; omega) (by simp only [List.length_nil, List.length_append, List.length_singleton]; omega) ?_
        clear H
        intro lr1 w H
        (first | (refine H.wg ?_; clear H; intros; rename_i w H; constructor) | refine wk ?_)
        refine Rel.app1_0 (f := itC) (l := ints Z) (x := (x0.toNat : Int)) tabOk rfl rfl rfl rfl rfl (by decide) (fun _ => rfl) (by simp [Value.oneCell']) H (by show ((ints Z).length + 1) * 8 ≤ _; rw [List.length_map]; omega) (by rw [List.length_map]; omega) ?_
        clear H
        intro zr1 w H
        rw [show ints Z ++ [(x0.toNat : Int)] = ints (Z ++ [n0]) by simp [hn0']] at H
        (first | (refine H.wg ?_; clear H; intros; rename_i w H; constructor) | refine wk ?_)
        refine ⟨(by repeat (first | exact trivial | refine ⟨rfl, ?_⟩)), (i + 1, lr1, zr1, addSeg (rAt raw) (rCont raw) (P ++ [(hx, d)]), Z ++ [n0], (hP' ++ [(hx, hsl2)]) ++ [(rAt raw, r5)]), (by repeat (first | exact trivial | refine ⟨rfl, ?_⟩)), ⟨by dsimp only; omega, hfold, hok', by dsimp only; omega, by simp; omega, fun n hn => ?_, V5, hV4.trans hV5, ?_, H⟩, by dsimp only; omega⟩
        · rcases List.mem_append.1 hn with hn | hn
          · exact hZ n hn
          · obtain rfl := List.mem_singleton.1 hn
            omega
        dsimp only
        rw [addSeg_snoc, if_neg he]
        exact (hP.up SegR.up hV5).snoc ⟨rfl, hr5⟩
  clear H
  rintro ⟨k, lr, zr⟩ w ⟨V4, S, Z, hs, hV4, hP, hok, hSl, hZl, hZ, hfold, H⟩
  dsimp only at hfold H ⊢
  have hd : ∀ x ∈ S, x.2.length ≤ 65536 := fun x hx => by have := hok x hx; omega
  obtain ⟨V5, hV5, H, hz⟩ := Rel.freezeF H (fun _ => rfl) (by decide)
  obtain ⟨V6, hV6, H, hg⟩ := Rel.freezeF H (fun _ => rfl) (by decide)
  have hV26 := (hV23.trans hV4).trans (hV5.trans hV6)
  have hseg : SegsAt V6 lr S := ⟨hs, hg, (hP.up SegR.up hV5).up SegR.up hV6⟩
  have hB := vb_hex hok (by omega)
  (first | (refine H.wg ?_; clear H; intros; rename_i w H; constructor) | refine wk ?_)
  refine (plainHex_ref H.data hseg (by omega)).use ?_
  rintro v w ⟨V7, h, hV7, K, rfl, hv⟩
  (have hKb := K.base; replace H := H.call0 K)
  (first | (refine H.wh ?_; clear H; intros; rename_i w H; constructor) | refine wk ?_)
  ((first | refine Rel.nwD H ?_ | refine Rel.nw H ?_); clear H; intro w b15 H)
  have hV27 := hV26.trans hV7
  cases k with
  | false =>
    rw [if_neg (by decide)] at hfold
    have e : hexTo l = none := by rw [hfirst, hone, hfold]
    rw [e]
    (first | (refine H.wg ?_; clear H; intros; rename_i w H; constructor) | refine wk ?_)
    exact ⟨V7, zeroH, ⟨none, 0, 0⟩, zeroV, [], hV27, H.sx, valAt_zero _, SlF.nil _ _, rfl⟩
  | true =>
    rw [if_pos rfl] at hfold
    (first | (refine H.wg ?_; clear H; intros; rename_i w H; constructor) | refine wk ?_)
    refine (valueFault_ref H.data hv hB).use ?_
    rintro v w ⟨rfl, K⟩
    (have hKb := K.base; replace H := H.call0 K)
    by_cases hvf : (vfault (hexVal S)).1 = 0
    rotate_left
    · have e : hexTo l = none := by rw [hfirst, hone, hfold]; simp only; rw [if_neg hvf]
      rw [e]
      (first | (refine H.wg ?_; clear H; intros; rename_i w H; constructor) | refine wk ?_)
      exact ⟨V7, zeroH, ⟨none, 0, 0⟩, zeroV, [], hV27, H.sx, valAt_zero _, SlF.nil _ _, rfl⟩
    have e : hexTo l = some (hexVal S, resB f (szOf S Z)) := by rw [hfirst, hone, hfold]; simp only; rw [if_pos hvf]
    rw [e]
    (first | (refine H.wg ?_; clear H; intros; rename_i w H; constructor) | refine wk ?_)
    refine (usualLengths_ref H.data (hseg.up hV7) (by omega) hok).use ?_
    rintro v w ⟨ur, rfl, K⟩
    (have hKb := K.base; replace H := Rel.call H K)
    simp only [List.cons_append, List.nil_append] at H
    obtain ⟨V8, hV8, H, hur⟩ := Rel.freezeF H (fun _ => rfl) (by decide)
    have hz8 := ((hz.up hV6).up hV7).up hV8
    have hV28 := hV27.trans hV8
    (first | (refine H.wg ?_; clear H; intros; rename_i w H; constructor) | refine wk ?_)
    refine (intsEq_ref H.data hz8 hur (by rw [List.length_map]; omega)).use ?_
    rintro v w ⟨rfl, K⟩
    (have hKb := K.base; replace H := H.call0 K)
    by_cases he : Z = usual S
    · rw [decide_eq_true (ints_inj.2 he)]
      have e2 : szOf S Z = [] := by unfold szOf; rw [if_pos he]
      rw [e2]
      (first | (refine H.wg ?_; clear H; intros; rename_i w H; constructor) | refine wk ?_)
      ((first | refine draw_vc (id := 12) tabOk mixed [] [0, 1, 2, 3, 4, 5, 6, 7, 8, 9, 10] (by kernel_rfl) ?_ | refine draw_vc (id := 19) tabOk mixed [] [0, 1, 2, 3, 4, 5, 6, 7, 8, 9, 10, 11, 12, 13, 14, 15, 16, 17] (by kernel_rfl) ?_ | refine draw_vc (id := 20) tabOk mixed [] [0, 1, 2, 3, 4, 5, 6, 7, 8, 9, 10, 11, 12, 13, 14] (by kernel_rfl) ?_ | refine draw_vc (id := 28) tabOk mixed [3] [0, 1, 2, 3, 4, 5, 6] (by kernel_rfl) ?_); intro w hdw; replace H := Rel.ext H hdw.ext)
      (first | (refine H.wg ?_; clear H; intros; rename_i w H; constructor) | refine wk ?_)
      refine (tableResidue_ref (fl := f) (Z := []) (s := ⟨none, 0, 0⟩) H.data (by omega) (SlF.nil _ _) (by simp) (by simp)).use ?_
      rintro v w ⟨V9, r9, hV9, K, rfl, hr9⟩
      (have hKb := K.base; replace H := H.call0 K)
      (first | (refine H.wg ?_; clear H; intros; rename_i w H; constructor) | refine wk ?_)
      exact ⟨V9, h, r9, hexVal S, _, hV28.trans hV9, H.sx, (hv.up hV8).up hV9, hr9, rfl, rfl⟩
    · rw [decide_eq_false (fun q => he (ints_inj.1 q))]
      have e2 : szOf S Z = Z := by unfold szOf; rw [if_neg he]
      rw [e2]
      (first | (refine H.wg ?_; clear H; intros; rename_i w H; constructor) | refine wk ?_)
      ((first | refine draw_vc (id := 12) tabOk mixed [] [0, 1, 2, 3, 4, 5, 6, 7, 8, 9, 10] (by kernel_rfl) ?_ | refine draw_vc (id := 19) tabOk mixed [] [0, 1, 2, 3, 4, 5, 6, 7, 8, 9, 10, 11, 12, 13, 14, 15, 16, 17] (by kernel_rfl) ?_ | refine draw_vc (id := 20) tabOk mixed [] [0, 1, 2, 3, 4, 5, 6, 7, 8, 9, 10, 11, 12, 13, 14] (by kernel_rfl) ?_ | refine draw_vc (id := 28) tabOk mixed [3] [0, 1, 2, 3, 4, 5, 6] (by kernel_rfl) ?_); intro w hdw; replace H := Rel.ext H hdw.ext)
      (first | (refine H.wg ?_; clear H; intros; rename_i w H; constructor) | refine wk ?_)
      refine (tableResidue_ref (fl := f) H.data (by omega) hz8 (by omega) hZ).use ?_
      rintro v w ⟨V9, r9, hV9, K, rfl, hr9⟩
      (have hKb := K.base; replace H := H.call0 K)
      (first | (refine H.wg ?_; clear H; intros; rename_i w H; constructor) | refine wk ?_)
      exact ⟨V9, h, r9, hexVal S, _, hV28.trans hV9, H.sx, (hv.up hV8).up hV9, hr9, rfl, rfl⟩
end
end Go.Proofs.Ytjfcpnlacodjjaa
