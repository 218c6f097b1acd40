/-
  Files of hexadecimal records: From.
-/
import Derived.Test.YtjfcpnlacodjjaaHexQ
import Derived.Test.YtjfcpnlacodjjaaHexW
import Derived.Test.YtjfcpnlacodjjaaHexL
namespace Go.Proofs.Ytjfcpnlacodjjaa
open Go Go.RowKit

section
variable {V W : World}
set_option maxRecDepth 100000 in
set_option maxHeartbeats 2000000 in
theorem from_hex (hV : Sub V W) (hM : MaxT V) {h : VH} {v : Val} (hv : ValAt V h v) (hB : VB 1048576 v) {s : Sl} {b : List UInt8} (hs : Byt V s b) (hl : b.length ≤ 1099511627776) : Ret Try.prog 37 [valV h, s.v].toArray W (FrR W V (frRes v (hexShape v).isSome (hexMake v b))) := by
  have H := Rel.start hV
  have hv0 := hv
  have hpl := hv.plen
  obtain ⟨k, n, bs, ss, pl⟩ := h
  dsimp only at hpl
  change Ret Try.prog 37 [.agg [iv k, iv n, bs.v, ss.v, pl.v].toArray, s.v].toArray W _
  refine cal_of_vc tabOk Try.func37 rfl (by kernel_rfl) 82 rfl (by simp) [0, 1, 2, 4, 5, 6, 7, 8, 9, 10, 11, 12, 13, 14, 15, 16, 17, 22, 30, 40, 50, 65, 78] ?_
  (first | (refine H.wh ?_; clear H; intros; rename_i w H; constructor) | refine wk ?_)
  ((first | refine Rel.nwD H ?_ | refine Rel.nw H ?_); clear H; intro w b2 H)
  (first | (refine H.wh ?_; clear H; intros; rename_i w H; constructor) | refine wk ?_)
  ((first | refine Rel.nwD H ?_ | refine Rel.nw H ?_); clear H; intro w b5 H)
  (first | (refine H.wg ?_; clear H; intros; rename_i w H; constructor) | refine wk ?_)
  refine (validate_value H.data hv0 hB).use ?_
  rintro q w ⟨rfl, K⟩
  (have hKb := K.base; replace H := H.call0 K)
  (first | (refine H.wh ?_; clear H; intros; rename_i w H; constructor) | refine wk ?_)
  ((first | refine Rel.nwD H ?_ | refine Rel.nw H ?_); clear H; intro w b6 H)
  by_cases hvf : (vfault v).1 = 0
  rotate_left
  · have e : frRes v (hexShape v).isSome (hexMake v b) = ([], vfault v) := by unfold frRes; rw [if_pos hvf]
    rw [e]
    (first | (refine H.wg ?_; clear H; intros; rename_i w H; constructor) | refine wk ?_)
    ((first | refine draw_vc (id := 3) tabOk mixed [] [0, 1, 2] (by kernel_rfl) ?_ | refine draw_vc (id := 10) tabOk mixed [] [0, 1, 2] (by kernel_rfl) ?_ | refine draw_vc (id := 13) tabOk mixed [] [0, 1, 2] (by kernel_rfl) ?_ | refine draw_vc (id := 19) tabOk mixed [] [0, 1, 2] (by kernel_rfl) ?_); intro w hdw; replace H := Rel.ext H hdw.ext)
    (first | (refine H.wg ?_; clear H; intros; rename_i w H; constructor) | refine wk ?_)
    exact ⟨V, ⟨none, 0, 0⟩, Sub.refl _, H.sx, rfl, SlF.nil _ _⟩
  have hzz := vfault_zz hvf
  rw [hzz]
  (first | (refine H.wg ?_; clear H; intros; rename_i w H; constructor) | refine wk ?_)
  refine (segmentsOf_spec H.data hv0 hB hvf).use ?_
  rintro q w ⟨V2, sg, hV2, K, hres⟩
  (have hKb := K.base; replace H := H.call0 K)
  cases hsh : hexShape v with
  | none =>
    rw [hsh] at hres
    dsimp only at hres
    subst hres
    have e : frRes v (none : Option (List Seg)).isSome (hexMake v b) = ([], 13, 0) := by unfold frRes; rw [if_neg (fun h => h hvf)]; rfl
    rw [e]
    (first | (refine H.wg ?_; clear H; intros; rename_i w H; constructor) | refine wk ?_)
    refine (fault_hex H.data 13 0).use ?_
    rintro q w ⟨rfl, K⟩
    (have hKb := K.base; replace H := H.call0 K)
    (first | (refine H.wg ?_; clear H; intros; rename_i w H; constructor) | refine wk ?_)
    exact ⟨V2, ⟨none, 0, 0⟩, hV2, H.sx, rfl, SlF.nil _ _⟩
  | some S =>
    rw [hsh] at hres
    obtain ⟨rfl, hsg⟩ := hres
    obtain ⟨hok, hSl⟩ := hexShape_seg hsh
    have hcnt := valid_count hvf
    have badE : hexMake v b = none → frRes v (some S).isSome (hexMake v b) = ([], 6, -2) := fun h => by
      rw [h]
      unfold frRes
      rw [if_neg (fun h => h hvf)]
      rfl
    (first | (refine H.wg ?_; clear H; intros; rename_i w H; constructor) | refine wk ?_)
    refine (fault_hex H.data 6 (-2)).use ?_
    rintro q w ⟨rfl, K⟩
    (have hKb := K.base; replace H := H.call0 K)
    (first | (refine H.wh ?_; clear H; intros; rename_i w H; constructor) | refine wk ?_)
    ((first | refine Rel.nwD H ?_ | refine Rel.nw H ?_); clear H; intro w b9 H)
    (first | (refine H.wg ?_; clear H; intros; rename_i w H; constructor) | refine wk ?_)
    refine (readResidue_hex H.data (hs.up hV2) hl).use ?_
    rintro q w ⟨V3, rz, c, k3, hV3, K, rfl, hres⟩
    (have hKb := K.base; replace H := H.call0 K)
    have hV23 := hV2.trans hV3
    cases hr : hexRd b with
    | none =>
      rw [hr] at hres
      obtain rfl := hres
      have e := badE (hexMake_bad hsh hr)
      rw [e]
      (first | (refine H.wg ?_; clear H; intros; rename_i w H; constructor) | refine wk ?_)
      ((first | refine draw_vc (id := 3) tabOk mixed [] [0, 1, 2] (by kernel_rfl) ?_ | refine draw_vc (id := 10) tabOk mixed [] [0, 1, 2] (by kernel_rfl) ?_ | refine draw_vc (id := 13) tabOk mixed [] [0, 1, 2] (by kernel_rfl) ?_ | refine draw_vc (id := 19) tabOk mixed [] [0, 1, 2] (by kernel_rfl) ?_); intro w hdw; replace H := Rel.ext H hdw.ext)
      (first | (refine H.wg ?_; clear H; intros; rename_i w H; constructor) | refine wk ?_)
      exact ⟨V3, ⟨none, 0, 0⟩, hV23, H.sx, rfl, SlF.nil _ _⟩
    | some x =>
      obtain ⟨fl, Z⟩ := x
      rw [hr] at hres
      obtain ⟨rfl, rfl, hz⟩ := hres
      obtain ⟨hf, hZl, hZ, _⟩ := hexRd_some hr
      (first | (refine H.wg ?_; clear H; intros; rename_i w H; constructor) | refine wk ?_)
      refine (write_spec H.data hf (hsg.up hV3) hok (by omega) hz hZl hZ).use ?_
      rintro q w ⟨V4, ro, hV4, K, rfl, hw⟩
      (have hKb := K.base; replace H := H.call0 K)
      have hV24 := hV23.trans hV4
      cases ho : hexOut fl S Z with
      | none =>
        have e := badE (hexMake_out hsh hr ho)
        rw [e]
        (first | (refine H.wg ?_; clear H; intros; rename_i w H; constructor) | refine wk ?_)
        ((first | refine draw_vc (id := 3) tabOk mixed [] [0, 1, 2] (by kernel_rfl) ?_ | refine draw_vc (id := 10) tabOk mixed [] [0, 1, 2] (by kernel_rfl) ?_ | refine draw_vc (id := 13) tabOk mixed [] [0, 1, 2] (by kernel_rfl) ?_ | refine draw_vc (id := 19) tabOk mixed [] [0, 1, 2] (by kernel_rfl) ?_); intro w hdw; replace H := Rel.ext H hdw.ext)
        (first | (refine H.wg ?_; clear H; intros; rename_i w H; constructor) | refine wk ?_)
        exact ⟨V4, ⟨none, 0, 0⟩, hV24, H.sx, rfl, SlF.nil _ _⟩
      | some O =>
        obtain ⟨hOb, hOl⟩ := hw O ho
        have hmk : ∀ q : O.length ≤ 1000 → hexTo O ≠ some (v, b), frRes v (some S).isSome (hexMake v b) = ([], 6, -2) := fun q => badE (hexMake_no hsh hr ho q)
        (first | (refine H.wg ?_; clear H; intros; rename_i w H; constructor) | refine wk ?_)
        refine (to_hex H.data (((hM.up hV2).up hV3).up hV4) hOb hOl).use ?_
        rintro q w ⟨V5, hh, rr, hV5, K, rfl, hvv, hrr⟩
        (have hKb := K.base; replace H := H.call0 K)
        have hV25 := hV24.trans hV5
        by_cases hO1 : 1000 < O.length
        · have et : toRes (hexTo O) O.length = ⟨zeroV, [], 3, -1⟩ := by unfold toRes; rw [if_pos hO1]
          rw [et]
          have e := hmk fun h => by omega
          obtain ⟨hk, hn, hbs, hss, hpl2⟩ := hh
          (first | (refine H.wh ?_; clear H; intros; rename_i w H; constructor) | refine wk ?_)
          ((first | refine Rel.nwD H ?_ | refine Rel.nw H ?_); clear H; intro w b13 H)
          (first | (refine H.wh ?_; clear H; intros; rename_i w H; constructor) | refine wk ?_)
          ((first | refine Rel.nwD H ?_ | refine Rel.nw H ?_); clear H; intro w b15 H)
          (first | (refine H.wg ?_; clear H; intros; rename_i w H; constructor) | refine wk ?_)
          rw [e]
          (first | (refine H.wg ?_; clear H; intros; rename_i w H; constructor) | refine wk ?_)
          ((first | refine draw_vc (id := 3) tabOk mixed [] [0, 1, 2] (by kernel_rfl) ?_ | refine draw_vc (id := 10) tabOk mixed [] [0, 1, 2] (by kernel_rfl) ?_ | refine draw_vc (id := 13) tabOk mixed [] [0, 1, 2] (by kernel_rfl) ?_ | refine draw_vc (id := 19) tabOk mixed [] [0, 1, 2] (by kernel_rfl) ?_); intro w hdw; replace H := Rel.ext H hdw.ext)
          (first | (refine H.wg ?_; clear H; intros; rename_i w H; constructor) | refine wk ?_)
          exact ⟨V5, ⟨none, 0, 0⟩, hV25, H.sx, rfl, SlF.nil _ _⟩
        cases hto : hexTo O with
        | none =>
          have et : toRes none O.length = ⟨zeroV, [], 21, -1⟩ := by unfold toRes; rw [if_neg hO1]
          rw [et]
          have e := hmk fun _ h => by rw [hto] at h; cases h
          obtain ⟨hk, hn, hbs, hss, hpl2⟩ := hh
          (first | (refine H.wh ?_; clear H; intros; rename_i w H; constructor) | refine wk ?_)
          ((first | refine Rel.nwD H ?_ | refine Rel.nw H ?_); clear H; intro w b13 H)
          (first | (refine H.wh ?_; clear H; intros; rename_i w H; constructor) | refine wk ?_)
          ((first | refine Rel.nwD H ?_ | refine Rel.nw H ?_); clear H; intro w b15 H)
          (first | (refine H.wg ?_; clear H; intros; rename_i w H; constructor) | refine wk ?_)
          rw [e]
          (first | (refine H.wg ?_; clear H; intros; rename_i w H; constructor) | refine wk ?_)
          ((first | refine draw_vc (id := 3) tabOk mixed [] [0, 1, 2] (by kernel_rfl) ?_ | refine draw_vc (id := 10) tabOk mixed [] [0, 1, 2] (by kernel_rfl) ?_ | refine draw_vc (id := 13) tabOk mixed [] [0, 1, 2] (by kernel_rfl) ?_ | refine draw_vc (id := 19) tabOk mixed [] [0, 1, 2] (by kernel_rfl) ?_); intro w hdw; replace H := Rel.ext H hdw.ext)
          (first | (refine H.wg ?_; clear H; intros; rename_i w H; constructor) | refine wk ?_)
          exact ⟨V5, ⟨none, 0, 0⟩, hV25, H.sx, rfl, SlF.nil _ _⟩
        | some y =>
          obtain ⟨u, ur⟩ := y
          have et : toRes (some (u, ur)) O.length = ⟨u, ur, 0, 0⟩ := by unfold toRes; rw [if_neg hO1]
          rw [hto, et] at hvv hrr
          rw [et]
          dsimp only at hvv hrr ⊢
          obtain ⟨uB, uF, _⟩ := hex_valid (show O.length ≤ 1000 by omega) hto
          have hvv0 := hvv
          obtain ⟨hk, hn, hbs, hss, hpl2⟩ := hh
          (first | (refine H.wh ?_; clear H; intros; rename_i w H; constructor) | refine wk ?_)
          ((first | refine Rel.nwD H ?_ | refine Rel.nw H ?_); clear H; intro w b13 H)
          (first | (refine H.wh ?_; clear H; intros; rename_i w H; constructor) | refine wk ?_)
          ((first | refine Rel.nwD H ?_ | refine Rel.nw H ?_); clear H; intro w b15 H)
          (first | (refine H.wg ?_; clear H; intros; rename_i w H; constructor) | refine wk ?_)
          refine (equal_bytes H.data hrr (hs.up hV25)).use ?_
          rintro q w ⟨rfl, K⟩
          (have hKb := K.base; replace H := Rel.call H K)
          simp only [List.nil_append] at H
          by_cases hc1 : ur = b
          rotate_left
          · rw [decide_eq_false hc1]
            have e := hmk fun _ h => hc1 (by rw [hto] at h; cases h; rfl)
            rw [e]
            (first | (refine H.wg ?_; clear H; intros; rename_i w H; constructor) | refine wk ?_)
            ((first | refine draw_vc (id := 3) tabOk mixed [] [0, 1, 2] (by kernel_rfl) ?_ | refine draw_vc (id := 10) tabOk mixed [] [0, 1, 2] (by kernel_rfl) ?_ | refine draw_vc (id := 13) tabOk mixed [] [0, 1, 2] (by kernel_rfl) ?_ | refine draw_vc (id := 19) tabOk mixed [] [0, 1, 2] (by kernel_rfl) ?_); intro w hdw; replace H := Rel.ext H hdw.ext)
            (first | (refine H.wg ?_; clear H; intros; rename_i w H; constructor) | refine wk ?_)
            exact ⟨V5, ⟨none, 0, 0⟩, hV25, H.sx, rfl, SlF.nil _ _⟩
          rw [decide_eq_true hc1]
          (first | (refine H.wg ?_; clear H; intros; rename_i w H; constructor) | refine wk ?_)
          refine (compare_value H.data (hv0.up hV25) hvv0 hB uB hvf uF).use ?_
          rintro q w ⟨V6, cc, hV6, K, rfl, hcc⟩
          (have hKb := K.base; replace H := Rel.call H K)
          simp only [List.nil_append] at H
          have hV26 := hV25.trans hV6
          (first | (refine H.wh ?_; clear H; intros; rename_i w H; constructor) | refine wk ?_)
          ((first | refine Rel.nwD H ?_ | refine Rel.nw H ?_); clear H; intro w b17 H)
          by_cases hc2 : cc = 0
          rotate_left
          · have e := hmk fun _ h => hc2 (hcc.2 (by rw [hto] at h; cases h; rfl))
            rw [e]
            (first | (refine H.wg ?_; clear H; intros; rename_i w H; constructor) | refine wk ?_)
            ((first | refine draw_vc (id := 3) tabOk mixed [] [0, 1, 2] (by kernel_rfl) ?_ | refine draw_vc (id := 10) tabOk mixed [] [0, 1, 2] (by kernel_rfl) ?_ | refine draw_vc (id := 13) tabOk mixed [] [0, 1, 2] (by kernel_rfl) ?_ | refine draw_vc (id := 19) tabOk mixed [] [0, 1, 2] (by kernel_rfl) ?_); intro w hdw; replace H := Rel.ext H hdw.ext)
            (first | (refine H.wg ?_; clear H; intros; rename_i w H; constructor) | refine wk ?_)
            exact ⟨V6, ⟨none, 0, 0⟩, hV26, H.sx, rfl, SlF.nil _ _⟩
          have e : frRes v (some S).isSome (hexMake v b) = (O, 0, 0) := by
            rw [hexMake_yes hsh hr ho (by omega) (by rw [hto, hc1, hcc.1 hc2])]
            unfold frRes
            rw [if_neg (fun h => h hvf)]
            rfl
          rw [e]
          (first | (refine H.wg ?_; clear H; intros; rename_i w H; constructor) | refine wk ?_)
          exact ⟨V6, ro, hV26, H.sx, rfl, hOb.up (hV5.trans hV6)⟩
end
end Go.Proofs.Ytjfcpnlacodjjaa
