/-
  Pictures: From.
-/
import Derived.Test.YtgnaojphgdaalaaGreatPicU
namespace Go.Proofs.YtgnaojphgdaalaaGreat
open Go Go.RowKit

theorem picWrite_len {f w h : Nat} {pal : List Col} {px o : List UInt8} (hw : w ≤ 64) (hh : h ≤ 64) (hp : PalOk f pal) (hl : px.length = h * (3 * w)) (ho : picWrite f pal w h px = some o) : o.length ≤ 100000 := by
  unfold picWrite at ho
  split at ho
  · cases ho
  · rename_i B hB
    cases ho
    unfold picStore at hB
    split at hB
    · cases hB
    · rename_i R hR
      cases hB
      have hdr := flat_rows (s := 3 * w) (R := turn f (rowsN (3 * w) h px)) fun r hr => rowsN_mem hl (mem_turn.1 hr)
      rw [turn_len, rowsN_len] at hdr
      rw [← hdr.2, ← List.take_of_length_le (l := rowsN (3 * w) h _) (i := h) (by rw [rowsN_len]; omega)] at hR
      have := wr_all hw hh hdr.1 hR
      have := packB_le _ R.flatten (Nat.lt_succ_self _)
      have := styB_len hp
      unfold picOut
      simp only [List.length_append, List.length_cons, List.length_nil]
      split <;> omega
section
variable {V W : World}
set_option maxRecDepth 100000 in
set_option maxHeartbeats 1000000 in
theorem from_pic (hV : Sub V W) {h : VH} {v : Val} (hv : ValAt V h v) (hB : VB 1048576 v) {s : Sl} {b : List UInt8} (hs : Byt V s b) (hl : b.length ≤ 100000000) : Ret Tryz.prog 5 [valV h, s.v].toArray W (FrR W V (frRes v (picShape v).isSome (picMake v b))) := by
  have H := Rel.start hV
  have hv0 := hv
  have hpl := hv.plen
  obtain ⟨k, n, bs, ss, pl⟩ := h
  dsimp only at hpl
  change Ret Tryz.prog 5 [.agg [iv k, iv n, bs.v, ss.v, pl.v].toArray, s.v].toArray W _
  refine cal_of_vc tabOk Tryz.func5 rfl (by kernel_rfl) 99 rfl (by simp) [0, 1, 2, 4, 5, 6, 7, 8, 9, 10, 11, 12, 13, 14, 15, 16, 21, 31, 40, 51, 95] ?_
  (first | (refine H.wh ?_; clear H; intros; rename_i w H; constructor) | refine wk ?_)
  ((first | refine Rel.nwD H ?_ | refine Rel.nw H ?_); clear H; intro w b2 H)
  (first | (refine H.wh ?_; clear H; intros; rename_i w H; constructor) | refine wk ?_)
  ((first | refine Rel.nwD H ?_ | refine Rel.nw H ?_); clear H; intro w b5 H)
  (first | (refine H.wg ?_; clear H; intros; rename_i w H; constructor) | refine wk ?_)
  refine (validate_value H.data hv0 hB).use ?_
  rintro q w ⟨rfl, K⟩
  (have hKb := K.base; replace H := H.call0 K)
  (first | (refine H.wh ?_; clear H; intros; rename_i w H; constructor) | refine wk ?_)
  ((first | refine Rel.nwD H ?_ | refine Rel.nw H ?_); clear H; intro w b6 H)
  by_cases hvf : (vfault v).1 = 0
  rotate_left
  · have e : frRes v (picShape v).isSome (picMake v b) = ([], vfault v) := by unfold frRes; rw [if_pos hvf]
    rw [e]
    (first | (refine H.wg ?_; clear H; intros; rename_i w H; constructor) | refine wk ?_)
    ((first | refine draw_vc (id := 3) tabOk mixed [] [0, 1, 2] (by kernel_rfl) ?_ | refine draw_vc (id := 10) tabOk mixed [] [0, 1, 2] (by kernel_rfl) ?_ | refine draw_vc (id := 13) tabOk mixed [] [0, 1, 2] (by kernel_rfl) ?_ | refine draw_vc (id := 16) tabOk mixed [] [0, 1, 2] (by kernel_rfl) ?_); intro w hdw; replace H := Rel.ext H hdw.ext)
    (first | (refine H.wg ?_; clear H; intros; rename_i w H; constructor) | refine wk ?_)
    exact ⟨V, ⟨none, 0, 0⟩, Sub.refl _, H.sx, rfl, SlF.nil _ _⟩
  have hzz := vfault_zz hvf
  rw [hzz]
  (first | (refine H.wg ?_; clear H; intros; rename_i w H; constructor) | refine wk ?_)
  refine (sides_spec H.data hv0 hB hvf).use ?_
  rintro q w ⟨V2, rp, hV2, K, hres⟩
  (have hKb := K.base; replace H := H.call0 K)
  cases hsh : picShape v with
  | none =>
    rw [hsh] at hres
    obtain rfl := hres
    have e : frRes v (none : Option (Nat × Nat × List UInt8)).isSome (picMake v b) = ([], 13, 0) := by unfold frRes; rw [if_neg (fun h => h hvf)]; rfl
    rw [e]
    (first | (refine H.wg ?_; clear H; intros; rename_i w H; constructor) | refine wk ?_)
    refine (fault_pic H.data 13 0).use ?_
    rintro q w ⟨rfl, K⟩
    (have hKb := K.base; replace H := H.call0 K)
    (first | (refine H.wg ?_; clear H; intros; rename_i w H; constructor) | refine wk ?_)
    exact ⟨V2, ⟨none, 0, 0⟩, hV2, H.sx, rfl, SlF.nil _ _⟩
  | some x =>
    obtain ⟨wd, ht, px⟩ := x
    rw [hsh] at hres
    obtain ⟨rfl, hpx⟩ := hres
    obtain ⟨hve, ⟨w1, w2⟩, ⟨h1, h2⟩, hpl3⟩ := picShape_some hvf hsh
    have hpl4 : px.length = ht * (3 * wd) := by rw [hpl3, Nat.mul_comm]
    have badE : picMake v b = none → frRes v (some (wd, ht, px)).isSome (picMake v b) = ([], 6, -2) := fun h => by
      rw [h]
      unfold frRes
      rw [if_neg (fun h => h hvf)]
      rfl
    (first | (refine H.wg ?_; clear H; intros; rename_i w H; constructor) | refine wk ?_)
    refine (fault_pic H.data 6 (-2)).use ?_
    rintro q w ⟨rfl, K⟩
    (have hKb := K.base; replace H := H.call0 K)
    (first | (refine H.wh ?_; clear H; intros; rename_i w H; constructor) | refine wk ?_)
    ((first | refine Rel.nwD H ?_ | refine Rel.nw H ?_); clear H; intro w b11 H)
    (first | (refine H.wg ?_; clear H; intros; rename_i w H; constructor) | refine wk ?_)
    refine (readResidue_spec H.data (hs.up hV2) (by omega)).use ?_
    rintro q w ⟨V3, g, rn, hV3, K, hres⟩
    (have hKb := K.base; replace H := H.call0 K)
    cases hr : picRd b with
    | none =>
      rw [hr] at hres
      obtain rfl := hres
      have e := badE (by unfold picMake; rw [hsh, hr])
      rw [e]
      (first | (refine H.wg ?_; clear H; intros; rename_i w H; constructor) | refine wk ?_)
      ((first | refine draw_vc (id := 3) tabOk mixed [] [0, 1, 2] (by kernel_rfl) ?_ | refine draw_vc (id := 10) tabOk mixed [] [0, 1, 2] (by kernel_rfl) ?_ | refine draw_vc (id := 13) tabOk mixed [] [0, 1, 2] (by kernel_rfl) ?_ | refine draw_vc (id := 16) tabOk mixed [] [0, 1, 2] (by kernel_rfl) ?_); intro w hdw; replace H := Rel.ext H hdw.ext)
      (first | (refine H.wg ?_; clear H; intros; rename_i w H; constructor) | refine wk ?_)
      exact ⟨V3, ⟨none, 0, 0⟩, hV2.trans hV3, H.sx, rfl, SlF.nil _ _⟩
    | some x =>
      obtain ⟨f, pal⟩ := x
      rw [hr] at hres
      obtain ⟨rfl, rfl, hp⟩ := hres
      obtain ⟨_, hfo, hpo⟩ := picRd_some hr
      (first | (refine H.wh ?_; clear H; intros; rename_i w H; constructor) | refine wk ?_)
      ((first | refine Rel.nwD H ?_ | refine Rel.nw H ?_); clear H; intro w b12 H)
      (first | (refine H.wg ?_; clear H; intros; rename_i w H; constructor) | refine wk ?_)
      refine (write_spec H.data hfo.1 hp hpo (hpx.up hV3) w1 w2 h2 hpl4).use ?_
      rintro q w ⟨V4, ro, hV4, K, hw⟩
      (have hKb := K.base; replace H := H.call0 K)
      cases ho : picWrite g pal wd ht px with
      | none =>
        rw [ho] at hw
        obtain rfl := hw
        have e := badE (by unfold picMake; rw [hsh, hr]; simp only; rw [ho])
        rw [e]
        (first | (refine H.wg ?_; clear H; intros; rename_i w H; constructor) | refine wk ?_)
        ((first | refine draw_vc (id := 3) tabOk mixed [] [0, 1, 2] (by kernel_rfl) ?_ | refine draw_vc (id := 10) tabOk mixed [] [0, 1, 2] (by kernel_rfl) ?_ | refine draw_vc (id := 13) tabOk mixed [] [0, 1, 2] (by kernel_rfl) ?_ | refine draw_vc (id := 16) tabOk mixed [] [0, 1, 2] (by kernel_rfl) ?_); intro w hdw; replace H := Rel.ext H hdw.ext)
        (first | (refine H.wg ?_; clear H; intros; rename_i w H; constructor) | refine wk ?_)
        exact ⟨V4, ⟨none, 0, 0⟩, (hV2.trans hV3).trans hV4, H.sx, rfl, SlF.nil _ _⟩
      | some O =>
        rw [ho] at hw
        obtain ⟨rfl, hO⟩ := hw
        have hOl := picWrite_len w2 h2 hpo hpl4 ho
        have hmk : picMake v b = if O.length ≤ 1000 ∧ picTo O = some (v, b) then some O else none := by
          unfold picMake
          rw [hsh, hr]
          simp only
          rw [ho]
        (first | (refine H.wg ?_; clear H; intros; rename_i w H; constructor) | refine wk ?_)
        refine (to_pic H.data hO (by omega)).use ?_
        rintro q w ⟨V5, hh, rr, hV5, K, rfl, hvv, hrr⟩
        (have hKb := K.base; replace H := H.call0 K)
        have hV25 := ((hV2.trans hV3).trans hV4).trans hV5
        by_cases hO1 : 1000 < O.length
        · have et : toRes (picTo O) O.length = ⟨zeroV, [], 3, -1⟩ := by unfold toRes; rw [if_pos hO1]
          rw [et]
          have e := badE (by rw [hmk, if_neg]; intro h; omega)
          (first | (refine H.wh ?_; clear H; intros; rename_i w H; constructor) | refine wk ?_)
          ((first | refine Rel.nwD H ?_ | refine Rel.nw H ?_); clear H; intro w b14 H)
          (first | (refine H.wh ?_; clear H; intros; rename_i w H; constructor) | refine wk ?_)
          ((first | refine Rel.nwD H ?_ | refine Rel.nw H ?_); clear H; intro w b16 H)
          rw [e]
          (first | (refine H.wg ?_; clear H; intros; rename_i w H; constructor) | refine wk ?_)
          ((first | refine draw_vc (id := 3) tabOk mixed [] [0, 1, 2] (by kernel_rfl) ?_ | refine draw_vc (id := 10) tabOk mixed [] [0, 1, 2] (by kernel_rfl) ?_ | refine draw_vc (id := 13) tabOk mixed [] [0, 1, 2] (by kernel_rfl) ?_ | refine draw_vc (id := 16) tabOk mixed [] [0, 1, 2] (by kernel_rfl) ?_); intro w hdw; replace H := Rel.ext H hdw.ext)
          (first | (refine H.wg ?_; clear H; intros; rename_i w H; constructor) | refine wk ?_)
          exact ⟨V5, ⟨none, 0, 0⟩, hV25, H.sx, rfl, SlF.nil _ _⟩
        cases hto : picTo O with
        | none =>
          rw [hto] at hvv hrr
          have et : toRes none O.length = ⟨zeroV, [], 21, -1⟩ := by unfold toRes; rw [if_neg hO1]
          rw [et]
          have e := badE (by rw [hmk, if_neg]; intro h; rw [hto] at h; cases h.2)
          (first | (refine H.wh ?_; clear H; intros; rename_i w H; constructor) | refine wk ?_)
          ((first | refine Rel.nwD H ?_ | refine Rel.nw H ?_); clear H; intro w b14 H)
          (first | (refine H.wh ?_; clear H; intros; rename_i w H; constructor) | refine wk ?_)
          ((first | refine Rel.nwD H ?_ | refine Rel.nw H ?_); clear H; intro w b16 H)
          rw [e]
          (first | (refine H.wg ?_; clear H; intros; rename_i w H; constructor) | refine wk ?_)
          ((first | refine draw_vc (id := 3) tabOk mixed [] [0, 1, 2] (by kernel_rfl) ?_ | refine draw_vc (id := 10) tabOk mixed [] [0, 1, 2] (by kernel_rfl) ?_ | refine draw_vc (id := 13) tabOk mixed [] [0, 1, 2] (by kernel_rfl) ?_ | refine draw_vc (id := 16) tabOk mixed [] [0, 1, 2] (by kernel_rfl) ?_); intro w hdw; replace H := Rel.ext H hdw.ext)
          (first | (refine H.wg ?_; clear H; intros; rename_i w H; constructor) | refine wk ?_)
          exact ⟨V5, ⟨none, 0, 0⟩, hV25, H.sx, rfl, SlF.nil _ _⟩
        | some y =>
          obtain ⟨wv, wr⟩ := y
          have et : toRes (some (wv, wr)) O.length = ⟨wv, wr, 0, 0⟩ := by unfold toRes; rw [if_neg hO1]
          rw [hto, et] at hvv hrr
          rw [et]
          dsimp only at hvv hrr ⊢
          obtain ⟨y, hy, _, hyv, _⟩ := picTo_some hto
          obtain ⟨⟨y1, y2⟩, ⟨y3, y4⟩, _, _, y5⟩ := pic_small hy
          have hcond : (O.length ≤ 1000 ∧ picTo O = some (v, b)) ↔ (wr = b ∧ y.wd = wd ∧ y.ht = ht ∧ y.px = px) := by
            rw [hto, hyv, hve]
            constructor
            · rintro ⟨_, h⟩
              simp only [Option.some.injEq, Prod.mk.injEq, Val.mk.injEq, List.cons.injEq, and_true, true_and] at h
              exact ⟨h.2, by have := h.1.1; omega, by have := h.1.2.1; omega, h.1.2.2⟩
            · rintro ⟨rfl, e1, e2, e3⟩
              rw [e1, e2, e3]
              exact ⟨by omega, rfl⟩
          have hwl : wv.parts.length = 3 := by rw [hyv]; rfl
          obtain ⟨hp0, x0, hx0, a0, a1, a2, a3, a4⟩ := hvv.part5 (i := 0) (by omega)
          obtain ⟨_, x1, hx1, c0, c1, c2, c3, c4⟩ := hvv.part5 (i := 1) (by omega)
          obtain ⟨_, x2, hx2, d0, d1, d2, d3, d4⟩ := hvv.part5 (i := 2) (by omega)
          have g0 : (wv.parts[0]'(by omega)).num = y.wd := by simp [hyv]
          have g1 : (wv.parts[1]'(by omega)).num = y.ht := by simp [hyv]
          have g2 : (wv.parts[2]'(by omega)).bytes = y.px := by simp [hyv]
          have n0 := hx0.num
          have n1 := hx1.num
          have hxb := hx2.bytes
          rw [g0] at n0
          rw [g1] at n1
          rw [g2] at hxb
          rw [n0] at a1
          rw [n1] at c1
          have hhl := hvv.plen
          obtain ⟨hk, hn, hbs, hss, hpl2⟩ := hh
          dsimp only at hp0 a0 a1 a2 a3 a4 c0 c1 c2 c3 c4 d0 d1 d2 d3 d4 hhl
          (first | (refine H.wh ?_; clear H; intros; rename_i w H; constructor) | refine wk ?_)
          ((first | refine Rel.nwD H ?_ | refine Rel.nw H ?_); clear H; intro w b14 H)
          (first | (refine H.wh ?_; clear H; intros; rename_i w H; constructor) | refine wk ?_)
          ((first | refine Rel.nwD H ?_ | refine Rel.nw H ?_); clear H; intro w b16 H)
          (first | (refine H.wg ?_; clear H; intros; rename_i w H; constructor) | refine wk ?_)
          refine (equal_bytes H.data hrr (hs.up hV25)).use ?_
          rintro q w ⟨rfl, K⟩
          (have hKb := K.base; replace H := Rel.call H K)
          simp only [List.nil_append] at H
          by_cases hc1 : wr = b
          rotate_left
          · rw [decide_eq_false hc1]
            have e := badE (by rw [hmk, if_neg]; intro h; exact hc1 (hcond.1 h).1)
            rw [e]
            (first | (refine H.wg ?_; clear H; intros; rename_i w H; constructor) | refine wk ?_)
            ((first | refine draw_vc (id := 3) tabOk mixed [] [0, 1, 2] (by kernel_rfl) ?_ | refine draw_vc (id := 10) tabOk mixed [] [0, 1, 2] (by kernel_rfl) ?_ | refine draw_vc (id := 13) tabOk mixed [] [0, 1, 2] (by kernel_rfl) ?_ | refine draw_vc (id := 16) tabOk mixed [] [0, 1, 2] (by kernel_rfl) ?_); intro w hdw; replace H := Rel.ext H hdw.ext)
            (first | (refine H.wg ?_; clear H; intros; rename_i w H; constructor) | refine wk ?_)
            exact ⟨V5, ⟨none, 0, 0⟩, hV25, H.sx, rfl, SlF.nil _ _⟩
          rw [decide_eq_true hc1]
          by_cases hc2 : y.wd = wd
          rotate_left
          · have e := badE (by rw [hmk, if_neg]; intro h; exact hc2 (hcond.1 h).2.1)
            rw [e]
            (first | (refine H.wg ?_; clear H; intros; rename_i w H; constructor) | refine wk ?_)
            ((first | refine draw_vc (id := 3) tabOk mixed [] [0, 1, 2] (by kernel_rfl) ?_ | refine draw_vc (id := 10) tabOk mixed [] [0, 1, 2] (by kernel_rfl) ?_ | refine draw_vc (id := 13) tabOk mixed [] [0, 1, 2] (by kernel_rfl) ?_ | refine draw_vc (id := 16) tabOk mixed [] [0, 1, 2] (by kernel_rfl) ?_); intro w hdw; replace H := Rel.ext H hdw.ext)
            (first | (refine H.wg ?_; clear H; intros; rename_i w H; constructor) | refine wk ?_)
            exact ⟨V5, ⟨none, 0, 0⟩, hV25, H.sx, rfl, SlF.nil _ _⟩
          by_cases hc3 : y.ht = ht
          rotate_left
          · have e := badE (by rw [hmk, if_neg]; intro h; exact hc3 (hcond.1 h).2.2.1)
            rw [e]
            (first | (refine H.wg ?_; clear H; intros; rename_i w H; constructor) | refine wk ?_)
            ((first | refine draw_vc (id := 3) tabOk mixed [] [0, 1, 2] (by kernel_rfl) ?_ | refine draw_vc (id := 10) tabOk mixed [] [0, 1, 2] (by kernel_rfl) ?_ | refine draw_vc (id := 13) tabOk mixed [] [0, 1, 2] (by kernel_rfl) ?_ | refine draw_vc (id := 16) tabOk mixed [] [0, 1, 2] (by kernel_rfl) ?_); intro w hdw; replace H := Rel.ext H hdw.ext)
            (first | (refine H.wg ?_; clear H; intros; rename_i w H; constructor) | refine wk ?_)
            exact ⟨V5, ⟨none, 0, 0⟩, hV25, H.sx, rfl, SlF.nil _ _⟩
          (first | (refine H.wg ?_; clear H; intros; rename_i w H; constructor) | refine wk ?_)
          refine (equal_bytes H.data hxb (((hpx.up hV3).up hV4).up hV5)).use ?_
          rintro q w ⟨rfl, K⟩
          (have hKb := K.base; replace H := Rel.call H K)
          simp only [List.nil_append] at H
          by_cases hc4 : y.px = px
          rotate_left
          · rw [decide_eq_false hc4]
            have e := badE (by rw [hmk, if_neg]; intro h; exact hc4 (hcond.1 h).2.2.2)
            rw [e]
            (first | (refine H.wg ?_; clear H; intros; rename_i w H; constructor) | refine wk ?_)
            ((first | refine draw_vc (id := 3) tabOk mixed [] [0, 1, 2] (by kernel_rfl) ?_ | refine draw_vc (id := 10) tabOk mixed [] [0, 1, 2] (by kernel_rfl) ?_ | refine draw_vc (id := 13) tabOk mixed [] [0, 1, 2] (by kernel_rfl) ?_ | refine draw_vc (id := 16) tabOk mixed [] [0, 1, 2] (by kernel_rfl) ?_); intro w hdw; replace H := Rel.ext H hdw.ext)
            (first | (refine H.wg ?_; clear H; intros; rename_i w H; constructor) | refine wk ?_)
            exact ⟨V5, ⟨none, 0, 0⟩, hV25, H.sx, rfl, SlF.nil _ _⟩
          rw [decide_eq_true hc4]
          have e : frRes v (some (wd, ht, px)).isSome (picMake v b) = (O, 0, 0) := by
            rw [hmk, if_pos (hcond.2 ⟨hc1, hc2, hc3, hc4⟩)]
            unfold frRes
            rw [if_neg (fun h => h hvf)]
            rfl
          rw [e]
          (first | (refine H.wg ?_; clear H; intros; rename_i w H; constructor) | refine wk ?_)
          exact ⟨V5, ro, hV25, H.sx, rfl, hO.up hV5⟩
end
end Go.Proofs.YtgnaojphgdaalaaGreat
