/-
  Files of trees: From.
-/
import Derived.Test.YtffaffojkfalhaaGreatDoorTreG
import Derived.Test.YtffaffojkfalhaaGreatDoorValQ
import Derived.Test.YtffaffojkfalhaaGreatDoorLibB
import Derived.Test.YtffaffojkfalhaaGreatDoorTreS
namespace Go.Proofs.YtffaffojkfalhaaGreatDoor
open Go Go.RowKit

theorem rd_len {b : List UInt8} {Z : List Blk2} (h : treRd b = some Z) : ∀ x ∈ Z, x.2.length ≤ b.length := by
  intro x hx
  obtain ⟨h1, _⟩ := treRd_some h
  have hne : Z ≠ [] := by rintro rfl; simp at hx
  rw [treRes, if_neg hne] at h1
  have h1 := congrArg List.length h1
  obtain ⟨A, B, rfl⟩ := List.append_of_mem hx
  have h2 := putC_ge x.2
  simp only [putL, List.flatMap_append, List.flatMap_cons, List.length_append] at h1
  omega
theorem treMake_bad {v : Val} {b : List UInt8} (h : treRd b = none) : treMake v b = none := by unfold treMake; rw [h]
theorem treMake_no {v : Val} {b : List UInt8} {Z : List Blk2} (h : treRd b = some Z) (h2 : (treOut v Z).length ≤ 1000 → treTo (treOut v Z) ≠ some (v, b)) : treMake v b = none := by
  unfold treMake
  rw [h]
  simp only
  rw [if_neg fun q => h2 q.1 q.2]
theorem treMake_yes {v : Val} {b : List UInt8} {Z : List Blk2} (h : treRd b = some Z) (h1 : (treOut v Z).length ≤ 1000) (h2 : treTo (treOut v Z) = some (v, b)) : treMake v b = some (treOut v Z) := by
  unfold treMake
  rw [h]
  simp only
  rw [if_pos ⟨h1, h2⟩]
theorem fold_ne {v : Val} (hw : WfV v) {Z : List Blk2} {s : TWS} : ((tokV v).foldl (tkW Z) s).out ≠ [] := by
  rcases List.eq_nil_or_concat (tokV v) with h | ⟨A, t, h⟩
  · exact absurd h (tokV_ne v)
  · have ht : t ∈ tokV v := by rw [h]; simp
    obtain ⟨c, x, hc, _⟩ := tok_ne hw ht
    rw [h, List.concat_eq_append, List.foldl_append]
    exact out_ne t (by rw [hc]; simp) _
section
variable {V W : World}
set_option maxRecDepth 100000 in
set_option maxHeartbeats 2000000 in
theorem from_tree (hV : Sub V W) (hE : NumT V) {h : VH} {v : Val} (hv : ValAt V h v) (hB : VB 1048576 v) {s : Sl} {b : List UInt8} (hs : Byt V s b) (hl : b.length ≤ 100000000) : Ret Tryz.prog 15 [valV h, s.v].toArray W (FrR W V (frRes v (treShape v).isSome (treMake v b))) := by
  have H := Rel.start hV
  have hv0 := hv
  have hpl := hv.plen
  obtain ⟨k, n, bs, ss, pl⟩ := h
  dsimp only at hpl
  change Ret Tryz.prog 15 [.agg [iv k, iv n, bs.v, ss.v, pl.v].toArray, s.v].toArray W _
  refine cal_of_vc tabOk Tryz.func15 rfl (by kernel_rfl) 90 rfl (by simp) [0, 1, 2, 4, 5, 6, 7, 8, 9, 11, 12, 13, 14, 15, 16, 21, 29, 34, 35, 36, 37, 70, 83] ?_
  (first | (refine H.wh ?_; clear H; intros; rename_i w H; constructor) | refine wk ?_)
  ((first | refine Rel.nwD H ?_ | refine Rel.nw H ?_); clear H; intro w b2 H)
  (first | (refine H.wh ?_; clear H; intros; rename_i w H; constructor) | refine wk ?_)
  ((first | refine Rel.nwD H ?_ | refine Rel.nw H ?_); clear H; intro w b5 H)
  (first | (refine H.wg ?_; clear H; intros; rename_i w H; constructor) | refine wk ?_)
  refine (validate_value H.data hv0 hB).use ?_
  rintro q w ⟨rfl, K⟩
  (have hKb := K.base; replace H := H.call0 K)
  (first | (refine H.wh ?_; clear H; intros; rename_i w H; constructor) | refine wk ?_)
  ((first | refine Rel.nwD H ?_ | refine Rel.nw H ?_); clear H; intro w b6 H)
  by_cases hvf : (vfault v).1 = 0
  rotate_left
  · have e : frRes v (treShape v).isSome (treMake v b) = ([], vfault v) := by unfold frRes; rw [if_pos hvf]
    rw [e]
    (first | (refine H.wg ?_; clear H; intros; rename_i w H; constructor) | refine wk ?_)
    ((first | refine draw_vc (id := 3) tabOk mixed [] [0, 1, 2] (by kernel_rfl) ?_ | refine draw_vc (id := 11) tabOk mixed [] [0, 1, 2, 3, 4, 5, 6, 7, 8] (by kernel_rfl) ?_); intro w hdw; replace H := Rel.ext H hdw.ext)
    (first | (refine H.wg ?_; clear H; intros; rename_i w H; constructor) | refine wk ?_)
    exact ⟨V, ⟨none, 0, 0⟩, Sub.refl _, H.sx, rfl, SlF.nil _ _⟩
  have hzz := vfault_zz hvf
  rw [hzz]
  have badE : treMake v b = none → frRes v (treShape v).isSome (treMake v b) = ([], 6, -2) := fun h => by
    rw [h]
    unfold frRes
    rw [if_neg (fun h => h hvf)]
    rfl
  (first | (refine H.wg ?_; clear H; intros; rename_i w H; constructor) | refine wk ?_)
  refine (readResidue_tree H.data hs (by omega)).use ?_
  rintro q w ⟨V2, l, hh, hV2, K, hres⟩
  (have hKb := K.base; replace H := H.call0 K)
  cases hr : treRd b with
  | none =>
    rw [hr] at hres
    obtain rfl := hres
    have e := badE (treMake_bad hr)
    rw [e]
    (first | (refine H.wg ?_; clear H; intros; rename_i w H; constructor) | refine wk ?_)
    first | (refine (fault_tree H.data 6 (-2)).use ?_; rintro q w ⟨rfl, K⟩; (have hKb := K.base; replace H := H.call0 K)) | skip
    (first | (refine H.wg ?_; clear H; intros; rename_i w H; constructor) | refine wk ?_)
    exact ⟨V2, ⟨none, 0, 0⟩, hV2, H.sx, rfl, SlF.nil _ _⟩
  | some Z =>
    rw [hr] at hres
    obtain ⟨rfl, hls, hp⟩ := hres
    obtain ⟨hb1, hZl, hZb, hZa⟩ := treRd_some hr
    have hZ8 : ∀ x ∈ Z, x.2.length ≤ 100000000 := fun x hx => by have := rd_len hr x hx; omega
    have hll := hls.len
    have hpl2 := hp.len
    (first | (refine H.wg ?_; clear H; intros; rename_i w H; constructor) | refine wk ?_)
    refine Rel.makeB H ?_
    clear H
    intro w mb H
    (first | (refine H.wh ?_; clear H; intros; rename_i w H; constructor) | refine wk ?_)
    ((first | refine Rel.nwD H ?_ | refine Rel.nw H ?_); clear H; intro w wb H)
    (first | (refine H.wg ?_; clear H; intros; rename_i w H; constructor) | refine wk ?_)
    refine SemC.cut 0 (fun _ : Unit => [(1, s.v), (2, .pointer (some ⟨b2, 0, none⟩)), (5, .pointer (some ⟨b5, 0, none⟩)), (9, .pointer (some ⟨wb, 0, none⟩))]) (fun _ w' => ∃ (es : Array MapEntry) (clk : Nat), MapB es hh ∧ Rel W V [.blk wb [.slice none 0 0, iv 0, str [], .map (some mb)] 70, .obj mb (.map es clk), .blk b5 [iv 0, iv 0] 29, .blk b2 [iv k, iv n, bs.v, ss.v, pl.v] 27] V2 w') ?_ ?_
    · refine loop_inv (S := Nat) tabOk [0, 1, 2, 4, 5, 6, 7, 8, 9, 12, 13, 14, 15, 16, 21, 29, 34, 35, 70, 83] (fun j => [(36, iv (j : Int))]) (fun j w' => j ≤ hh.length ∧ ∃ (es : Array MapEntry) (clk : Nat), MapB es (hh.take j) ∧ Rel W V [.blk wb [.slice none 0 0, iv 0, str [], .map (some mb)] 70, .obj mb (.map es clk), .blk b5 [iv 0, iv 0] 29, .blk b2 [iv k, iv n, bs.v, ss.v, pl.v] 27] V2 w') (fun j _ => hh.length - j) 0 ?_
      (conv => whnf)
      refine ⟨(by repeat (first | exact trivial | refine ⟨rfl, ?_⟩)), ⟨Nat.zero_le _, #[], 0, MapB.nil, H.sx⟩, ?_⟩
      clear H
      rintro j w ⟨hj, es, clk, hm, H⟩
      by_cases hlt : j < hh.length
      rotate_left
      · rw [List.take_of_length_le (by omega)] at hm
        (first | (refine H.wg ?_; clear H; intros; rename_i w H; constructor) | refine wk ?_)
        exact ⟨(), (by repeat (first | exact trivial | refine ⟨rfl, ?_⟩)), es, clk, hm, H⟩
      obtain ⟨p1, c1, c2⟩ := hls.at2 (g := fun r : BkH => iv r.1) (g' := fun r : BkH => r.2.v) (fun _ => rfl) hlt
      have hn := lk_new hp hZa hlt
      have htk := List.take_succ_eq_append_getElem hlt
      obtain ⟨y, hy⟩ : ∃ y, y = hh[j] := ⟨_, rfl⟩
      rw [← hy] at c1 c2 hn htk
      (first | (refine H.wh ?_; clear H; intros; rename_i w H; constructor) | refine wk ?_)
      ((first | refine Rel.nwD H ?_ | refine Rel.nw H ?_); clear H; intro w b11 H)
      (first | (refine H.wg ?_; clear H; intros; rename_i w H; constructor) | refine wk ?_)
      ((first | refine draw_vc (id := 3) tabOk mixed [] [0, 1, 2] (by kernel_rfl) ?_ | refine draw_vc (id := 11) tabOk mixed [] [0, 1, 2, 3, 4, 5, 6, 7, 8] (by kernel_rfl) ?_); intro w hdw; replace H := Rel.ext H hdw.ext)
      (first | (refine H.wg ?_; clear H; intros; rename_i w H; constructor) | refine wk ?_)
      have H' : Rel W V (.obj mb (.map es clk) :: [.blk wb [.slice none 0 0, iv 0, str [], .map (some mb)] 70, .blk b5 [iv 0, iv 0] 29, .blk b2 [iv k, iv n, bs.v, ss.v, pl.v] 27]) V2 w := H.pick
      refine Rel.putB (x := y) H' hm hn ?_
      clear H H'
      intro w es' clk' hm' H
      rw [← htk] at hm'
      (first | (refine H.wg ?_; clear H; intros; rename_i w H; constructor) | refine wk ?_)
      exact ⟨(by repeat (first | exact trivial | refine ⟨rfl, ?_⟩)), j + 1, (by repeat (first | exact trivial | refine ⟨rfl, ?_⟩)), ⟨by omega, es', clk', hm', H.pick⟩, by omega⟩
    clear H
    rintro _ w ⟨es, clk, hm, H⟩
    replace H := H.rowNil 5 1
    replace H : Rel W V (WrO wb mb ⟨none, 0, 0⟩ es clk ⟨[], 0, []⟩ ++ [.blk b5 [iv 0, iv 0] 29, .blk b2 [iv k, iv n, bs.v, ss.v, pl.v] 27]) V2 w := H.pick
    obtain ⟨vb, hvb⟩ := vfault_chk hvf
    have hw := wf_good hB hvf
    have hR := room_of hw hB hvb
    simp only [WrO, List.cons_append, List.nil_append] at H
    (first | (refine H.wg ?_; clear H; intros; rename_i w H; constructor) | refine wk ?_)
    refine (value_w (SizeOf.sizeOf v + 1) (Nat.lt_succ_self _) (hE.up hV2) H hm hp hZ8 (hv0.up hV2) hB hvb hw hR.left).use ?_
    clear H
    rintro q w ⟨rfl, V3, r1, hV3, H⟩
    have hRr := Room.right hZ8 hR
    (first | (refine H.wg ?_; clear H; intros; rename_i w H; constructor) | refine wk ?_)
    refine (token_tree H hm (hp.up BkR.up hV3) hZ8 hRr.head.1 hRr.head.2 (.inr (fold_ne hw))).use ?_
    clear H
    rintro q w ⟨rfl, r2, H⟩
    obtain ⟨s2, hs2⟩ : ∃ s2, s2 = tkW Z ((tokV v).foldl (tkW Z) ⟨[], 0, []⟩) [] := ⟨_, rfl⟩
    obtain ⟨O, hO⟩ : ∃ O, O = treOut v Z := ⟨_, rfl⟩
    have hO2 : s2.out = O := by rw [hs2, hO]; rfl
    have hOl : O.length ≤ 1099511627776 := by
      have h1 := (hRr.tail hZ8).1
      rw [← hs2, hO2] at h1
      simp only [lenT, List.map_nil, List.sum_nil, List.length_nil] at h1
      omega
    rw [← hs2] at H
    replace H : Rel W V (.row r2 5 1 (s2.out.flatMap byC) :: [.blk wb [r2.v, iv ((s2.cnt : Nat) : Int), str s2.last, .map (some mb)] 70, .blk b5 [iv 0, iv 0] 29, .blk b2 [iv k, iv n, bs.v, ss.v, pl.v] 27]) V3 w := H.pick
    rw [hO2] at H
    obtain ⟨V4, hV4, H, hOb⟩ := H.freezeF (fun _ => rfl) (by decide)
    have hV24 := (hV2.trans hV3).trans hV4
    have hmk : ∀ q : O.length ≤ 1000 → treTo O ≠ some (v, b), frRes v (treShape v).isSome (treMake v b) = ([], 6, -2) := fun q => badE (treMake_no hr (by rw [← hO]; exact q))
    (first | (refine H.wg ?_; clear H; intros; rename_i w H; constructor) | refine wk ?_)
    refine (to_tree H.data (hE.up hV24) hOb hOl).use ?_
    rintro q w ⟨V5, hh5, rr, hV5, K, rfl, hvv, hrr⟩
    (have hKb := K.base; replace H := H.call0 K)
    have hV25 := hV24.trans hV5
    by_cases hO1 : 1000 < O.length
    · have et : toRes (treTo O) O.length = ⟨zeroV, [], 3, -1⟩ := by unfold toRes; rw [if_pos hO1]
      rw [et]
      have e := hmk fun h => by omega
      obtain ⟨hk, hn, hbs, hss, hpl2⟩ := hh5
      (first | (refine H.wh ?_; clear H; intros; rename_i w H; constructor) | refine wk ?_)
      ((first | refine Rel.nwD H ?_ | refine Rel.nw H ?_); clear H; intro w b13 H)
      (first | (refine H.wh ?_; clear H; intros; rename_i w H; constructor) | refine wk ?_)
      ((first | refine Rel.nwD H ?_ | refine Rel.nw H ?_); clear H; intro w b15 H)
      (first | (refine H.wg ?_; clear H; intros; rename_i w H; constructor) | refine wk ?_)
      rw [e]
      (first | (refine H.wg ?_; clear H; intros; rename_i w H; constructor) | refine wk ?_)
      first | (refine (fault_tree H.data 6 (-2)).use ?_; rintro q w ⟨rfl, K⟩; (have hKb := K.base; replace H := H.call0 K)) | skip
      (first | (refine H.wg ?_; clear H; intros; rename_i w H; constructor) | refine wk ?_)
      exact ⟨V5, ⟨none, 0, 0⟩, hV25, H.sx, rfl, SlF.nil _ _⟩
    cases hto : treTo O with
    | none =>
      have et : toRes none O.length = ⟨zeroV, [], 21, -1⟩ := by unfold toRes; rw [if_neg hO1]
      rw [et]
      have e := hmk fun _ h => by rw [hto] at h; cases h
      obtain ⟨hk, hn, hbs, hss, hpl2⟩ := hh5
      (first | (refine H.wh ?_; clear H; intros; rename_i w H; constructor) | refine wk ?_)
      ((first | refine Rel.nwD H ?_ | refine Rel.nw H ?_); clear H; intro w b13 H)
      (first | (refine H.wh ?_; clear H; intros; rename_i w H; constructor) | refine wk ?_)
      ((first | refine Rel.nwD H ?_ | refine Rel.nw H ?_); clear H; intro w b15 H)
      (first | (refine H.wg ?_; clear H; intros; rename_i w H; constructor) | refine wk ?_)
      rw [e]
      (first | (refine H.wg ?_; clear H; intros; rename_i w H; constructor) | refine wk ?_)
      first | (refine (fault_tree H.data 6 (-2)).use ?_; rintro q w ⟨rfl, K⟩; (have hKb := K.base; replace H := H.call0 K)) | skip
      (first | (refine H.wg ?_; clear H; intros; rename_i w H; constructor) | refine wk ?_)
      exact ⟨V5, ⟨none, 0, 0⟩, hV25, H.sx, rfl, SlF.nil _ _⟩
    | some y =>
      obtain ⟨u, ur⟩ := y
      have et : toRes (some (u, ur)) O.length = ⟨u, ur, 0, 0⟩ := by unfold toRes; rw [if_neg hO1]
      rw [hto, et] at hvv hrr
      rw [et]
      dsimp only at hvv hrr ⊢
      obtain ⟨uB, uF, _⟩ := tre_valid (show O.length ≤ 1000 by omega) hto
      have hvv0 := hvv
      obtain ⟨hk, hn, hbs, hss, hpl2⟩ := hh5
      (first | (refine H.wh ?_; clear H; intros; rename_i w H; constructor) | refine wk ?_)
      ((first | refine Rel.nwD H ?_ | refine Rel.nw H ?_); clear H; intro w b13 H)
      (first | (refine H.wh ?_; clear H; intros; rename_i w H; constructor) | refine wk ?_)
      ((first | refine Rel.nwD H ?_ | refine Rel.nw H ?_); clear H; intro w b15 H)
      (first | (refine H.wg ?_; clear H; intros; rename_i w H; constructor) | refine wk ?_)
      refine (equal_bytes H.data hrr (hs.up hV25)).use ?_
      rintro q w ⟨rfl, K⟩
      (have hKb := K.base; replace H := Rel.call H K)
      simp only [List.nil_append] at H
      by_cases hc1 : ur = b
      rotate_left
      · rw [decide_eq_false hc1]
        have e := hmk fun _ h => hc1 (by rw [hto] at h; cases h; rfl)
        rw [e]
        (first | (refine H.wg ?_; clear H; intros; rename_i w H; constructor) | refine wk ?_)
        first | (refine (fault_tree H.data 6 (-2)).use ?_; rintro q w ⟨rfl, K⟩; (have hKb := K.base; replace H := H.call0 K)) | skip
        (first | (refine H.wg ?_; clear H; intros; rename_i w H; constructor) | refine wk ?_)
        exact ⟨V5, ⟨none, 0, 0⟩, hV25, H.sx, rfl, SlF.nil _ _⟩
      rw [decide_eq_true hc1]
      (first | (refine H.wg ?_; clear H; intros; rename_i w H; constructor) | refine wk ?_)
      refine (compare_value H.data (hv0.up hV25) hvv0 hB uB hvf uF).use ?_
      rintro q w ⟨V6, cc, hV6, K, rfl, hcc⟩
      (have hKb := K.base; replace H := Rel.call H K)
      simp only [List.nil_append] at H
      have hV26 := hV25.trans hV6
      (first | (refine H.wh ?_; clear H; intros; rename_i w H; constructor) | refine wk ?_)
      ((first | refine Rel.nwD H ?_ | refine Rel.nw H ?_); clear H; intro w b17 H)
      by_cases hc2 : cc = 0
      rotate_left
      · have e := hmk fun _ h => hc2 (hcc.2 (by rw [hto] at h; cases h; rfl))
        rw [e]
        (first | (refine H.wg ?_; clear H; intros; rename_i w H; constructor) | refine wk ?_)
        first | (refine (fault_tree H.data 6 (-2)).use ?_; rintro q w ⟨rfl, K⟩; (have hKb := K.base; replace H := H.call0 K)) | skip
        (first | (refine H.wg ?_; clear H; intros; rename_i w H; constructor) | refine wk ?_)
        exact ⟨V6, ⟨none, 0, 0⟩, hV26, H.sx, rfl, SlF.nil _ _⟩
      have e : frRes v (treShape v).isSome (treMake v b) = (O, 0, 0) := by
        rw [treMake_yes hr (by rw [← hO]; omega) (by rw [← hO, hto, hc1, hcc.1 hc2]), ← hO]
        unfold frRes
        rw [if_neg (fun h => h hvf)]
        rfl
      rw [e]
      (first | (refine H.wg ?_; clear H; intros; rename_i w H; constructor) | refine wk ?_)
      exact ⟨V6, r2, hV26, H.sx, rfl, hOb.up (hV5.trans hV6)⟩
end
end Go.Proofs.YtffaffojkfalhaaGreatDoor
