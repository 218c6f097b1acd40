/-
  Text files: Explain.
-/
import Derived.Test.YtgnaojphgdaalaaDoorTxtJ
import Derived.Test.YtgnaojphgdaalaaDoorTxtM
import Derived.Test.YtgnaojphgdaalaaDoorCnvR
namespace Go.Proofs.YtgnaojphgdaalaaDoor
open Go Go.RowKit

theorem runsK_take (rs : List Run) (k : Nat) : (runsK (rs.take k)).length ≤ (runsK rs).length := by
  conv => rhs; rw [← List.take_append_drop k rs]
  unfold runsK
  rw [List.flatMap_append, List.length_append]
  omega
theorem count_take {rs : List Run} {k : Nat} (hk : k < rs.length) (a : Nat) : (runsK (rs.take (k + 1))).count a = (runsK (rs.take k)).count a + (if rs[k].1 = a then rs[k].2 else 0) := by
  rw [List.take_succ_eq_append_getElem hk]
  unfold runsK
  rw [List.flatMap_append, List.count_append, List.flatMap_singleton, List.count_replicate]
  congr 1
  simp
def ls3 (e c1 c2 : Nat) : List LossD := [(lsEnc, (e : Int)), (lsBoth, (c1 : Int)), (lsCr, (c2 : Int))]
theorem ls3_filter (e c1 c2 : Nat) : (ls3 e c1 c2).filter (fun x => decide (0 < x.2)) = loss1 lsEnc e ++ loss1 lsBoth c1 ++ loss1 lsCr c2 := by
  unfold ls3 loss1
  by_cases h1 : 0 < e <;> by_cases h2 : 0 < c1 <;> by_cases h3 : 0 < c2 <;> simp [List.filter_cons, h1, h2, h3]
  all_goals omega
section
variable {V W : World}
theorem count_spec (hV : Sub V W) (e : Int) {s : Sl} {rs : List Run} (hs : SlF rnC V s (runsI rs)) (hl : rs.length ≤ 1000000) (hn : (runsK rs).length ≤ 1000000) (a : Nat) : Ret Tryd.prog 48 [.agg (resC e s).toArray, iv (a : Int)].toArray W fun v w' => v = iv (((runsK rs).count a : Nat) : Int) ∧ Rel W V [] V w' := by
  have H := Rel.start hV
  have hlen := hs.len
  have hil : (runsI rs).length = rs.length := by simp [runsI]
  refine cal_of_vc tabOk Tryd.func48 rfl (by kernel_rfl) 25 rfl (by simp) [0, 1, 2, 4, 5, 7, 9, 10, 11, 12, 18] ?_
  (first | (refine H.wh ?_; clear H; intros; rename_i w H; constructor) | refine wk ?_)
  ((first | refine Rel.nwD H ?_ | refine Rel.nw H ?_); clear H; intro w b2 H)
  (first | (refine H.wg ?_; clear H; intros; rename_i w H; constructor) | refine wk ?_)
  refine loop_inv (S := Nat) tabOk [0, 1, 2, 4, 9, 10] (fun k => [(5, iv (((runsK (rs.take k)).count a : Nat) : Int)), (11, iv k)]) (fun k w' => k ≤ rs.length ∧ Rel W V [.blk b2 (resC e s) 62] V w') (fun k _ => rs.length - k) 0 ?_
  (conv => whnf)
  refine ⟨(by repeat (first | exact trivial | refine ⟨rfl, ?_⟩)), ⟨by omega, H⟩, ?_⟩
  clear H
  rintro k w ⟨hk, H⟩
  have hb1 := runsK_take rs k
  have hb2 := List.count_le_length (a := a) (l := runsK (rs.take k))
  by_cases hlt : k < rs.length
  · obtain ⟨_, u1, u2⟩ := hs.at2 (g := fun r : RunI => iv r.1) (g' := fun r : RunI => iv r.2) (fun _ => rfl) (i := k) (by omega)
    have hget : (runsI rs)[k]'(by omega) = runI rs[k] := by simp [runsI]
    rw [hget] at u1 u2
    dsimp only [runI] at u1 u2
    have hct := count_take hlt a
    have hb3 := runsK_take rs (k + 1)
    have hb4 := List.count_le_length (a := a) (l := runsK (rs.take (k + 1)))
    generalize hx : rs[k] = x at u1 u2 hct
    obtain ⟨kk, nn⟩ := x
    dsimp only at u1 u2 hct
    by_cases ha : kk = a
    · rw [if_pos ha] at hct
      (first | (refine H.wg ?_; clear H; intros; rename_i w H; constructor) | refine wk ?_)
      exact ⟨(by repeat (first | exact trivial | refine ⟨rfl, ?_⟩)), k + 1, ⟨congrArg (fun z => some (iv z)) (by omega), rfl, trivial⟩, ⟨by omega, H.sx⟩, by omega⟩
    · rw [if_neg ha] at hct
      (first | (refine H.wg ?_; clear H; intros; rename_i w H; constructor) | refine wk ?_)
      exact ⟨(by repeat (first | exact trivial | refine ⟨rfl, ?_⟩)), k + 1, ⟨congrArg (fun z => some (iv z)) (by omega), rfl, trivial⟩, ⟨by omega, H.sx⟩, by omega⟩
  · rw [List.take_of_length_le (by omega)]
    (first | (refine H.wg ?_; clear H; intros; rename_i w H; constructor) | refine wk ?_)
    exact H.sx
set_option maxRecDepth 100000 in
set_option maxHeartbeats 1000000 in
theorem explain_txt (hV : Sub V W) {s : Sl} {b : List UInt8} (hs : Byt V s b) (hl : b.length ≤ 100000000) : Ret Tryd.prog 20 [s.v].toArray W (ExR W V (txtLoss b)) := by
  have H := Rel.start hV
  refine cal_of_vc tabOk Tryd.func20 rfl (by kernel_rfl) 45 rfl (by simp) [0, 2, 3, 4, 5, 6, 7, 9, 16, 29, 30, 31, 32, 37] ?_
  (first | (refine H.wh ?_; clear H; intros; rename_i w H; constructor) | refine wk ?_)
  ((first | refine Rel.nwD H ?_ | refine Rel.nw H ?_); clear H; intro w b3 H)
  (first | (refine H.wg ?_; clear H; intros; rename_i w H; constructor) | refine wk ?_)
  refine (read_txt H.data hs (by omega)).use ?_
  rintro q w ⟨V2, e, r, hV2, K, hres⟩
  (have hKb := K.base; replace H := H.call0 K)
  cases hr : txtRd b with
  | none =>
    rw [show txtLoss b = none by unfold txtLoss; rw [hr]]
    rw [hr] at hres
    obtain rfl := hres
    (first | (refine H.wh ?_; clear H; intros; rename_i w H; constructor) | refine wk ?_)
    ((first | refine Rel.nwD H ?_ | refine Rel.nw H ?_); clear H; intro w b4 H)
    (first | (refine H.wg ?_; clear H; intros; rename_i w H; constructor) | refine wk ?_)
    refine (fault_txt H.data 6 (-1)).use ?_
    rintro q w ⟨rfl, K⟩
    (have hKb := K.base; replace H := H.call0 K)
    (first | (refine H.wg ?_; clear H; intros; rename_i w H; constructor) | refine wk ?_)
    exact ⟨V2, ⟨none, 0, 0⟩, hV2, H.sx, rfl⟩
  | some x =>
    obtain ⟨e', rs⟩ := x
    rw [hr] at hres
    obtain ⟨rfl, rfl, hrr⟩ := hres
    obtain ⟨h5, ho, hsum, _, _⟩ := txtRd_some hr
    have hkl := (runsOf_K rs 3 ho).2.2.2
    have hrl := (runsOk_small ho).1
    (first | (refine H.wh ?_; clear H; intros; rename_i w H; constructor) | refine wk ?_)
    ((first | refine Rel.nwD H ?_ | refine Rel.nw H ?_); clear H; intro w b4 H)
    (first | (refine H.wg ?_; clear H; intros; rename_i w H; constructor) | refine wk ?_)
    ((first | refine draw_vcQ (id := 6) tabOk mixed [5, 9] [0, 1, 2, 3, 4, 7, 8, 13, 5, 6, 9, 10, 11, 12] (by kernel_rfl) ?_); intro w hdw; replace H := Rel.ext H hdw.ext)
    (first | (refine H.wg ?_; clear H; intros; rename_i w H; constructor) | refine wk ?_)
    refine (count_spec H.data (e' : Int) hrr (by omega) (by omega) 1).use ?_
    rintro q w ⟨rfl, K⟩
    (have hKb := K.base; replace H := H.call0 K)
    (first | (refine H.wg ?_; clear H; intros; rename_i w H; constructor) | refine wk ?_)
    refine (count_spec H.data (e' : Int) hrr (by omega) (by omega) 2).use ?_
    rintro q w ⟨rfl, K⟩
    (have hKb := K.base; replace H := H.call0 K)
    have hc1 := List.count_le_length (a := 1) (l := runsK rs)
    have hc2 := List.count_le_length (a := 2) (l := runsK rs)
    have hL : txtLoss b = some ((ls3 e' ((runsK rs).count 1) ((runsK rs).count 2)).filter (fun x => decide (0 < x.2))) := by unfold txtLoss; rw [hr]; simp only; unfold txtLs; rw [ls3_filter]
    rw [hL]
    obtain ⟨c1, hcc1⟩ : ∃ c, c = (runsK rs).count 1 := ⟨_, rfl⟩
    obtain ⟨c2, hcc2⟩ : ∃ c, c = (runsK rs).count 2 := ⟨_, rfl⟩
    rw [← hcc1] at hc1 ⊢
    rw [← hcc2] at hc2 ⊢
    (first | (refine H.wh ?_; clear H; intros; rename_i w H; constructor) | refine wk ?_)
    ((first | refine Rel.nwD H ?_ | refine Rel.nw H ?_); clear H; intro w bl H)
    replace H := H.blkEq (c' := (ls3 e' c1 c2).flatMap lossC) rfl
    obtain ⟨V3, hV3, H, hbl⟩ := H.freezeBlk
    have hls : SlF lossC V3 ⟨some ⟨bl, 0, none⟩, 3, 3⟩ (ls3 e' c1 c2) := ⟨rfl, Nat.le_refl _, hbl.cells⟩
    replace H := H.rowNil 90 2
    (first | (refine H.wg ?_; clear H; intros; rename_i w H; constructor) | refine wk ?_)
    refine loop_inv (S := Nat × Sl) tabOk [0, 2, 3, 4, 5, 6, 16, 29, 30] (fun k => [(7, k.2.v), (31, iv k.1)]) (fun k w' => k.1 ≤ 3 ∧ Rel W V [.row k.2 90 2 ((((ls3 e' c1 c2).take k.1).filter (fun x => decide (0 < x.2))).flatMap lossC), .blk b3 [iv 0, iv 0] 29] V3 w') (fun k _ => 3 - k.1) (0, ⟨none, 0, 0⟩) ?_
    (conv => whnf)
    refine ⟨(by repeat (first | exact trivial | refine ⟨rfl, ?_⟩)), ⟨by omega, H.sx⟩, ?_⟩
    clear H
    rintro ⟨k, r7⟩ w ⟨hk, H⟩
    dsimp only at hk H ⊢
    by_cases hlt : k < 3
    · have hl3 : k < (ls3 e' c1 c2).length := hlt
      obtain ⟨p0, u1, u2⟩ := hls.at2 (g := fun x : LossD => str x.1) (g' := fun x : LossD => iv x.2) (fun _ => rfl) (i := k) hl3
      have htk := List.take_succ_eq_append_getElem hl3
      have hfl : (((ls3 e' c1 c2).take k).filter (fun x => decide (0 < x.2))).length ≤ 3 := by
        have := List.length_filter_le (fun x : LossD => decide (0 < x.2)) ((ls3 e' c1 c2).take k)
        rw [List.length_take] at this
        omega
      generalize hx : (ls3 e' c1 c2)[k] = x at u1 u2 htk
      obtain ⟨nm, n⟩ := x
      dsimp only at u1 u2
      have hI : I64 n := by
        have : n = (e' : Int) ∨ n = (c1 : Int) ∨ n = (c2 : Int) := by
          have hcs : k = 0 ∨ k = 1 ∨ k = 2 := by omega
          rcases hcs with rfl | rfl | rfl
          · left; exact (congrArg Prod.snd hx).symm
          · right; left; exact (congrArg Prod.snd hx).symm
          · right; right; exact (congrArg Prod.snd hx).symm
        constructor <;> omega
      by_cases hn : 0 < n
      · (first | (refine H.wg ?_; clear H; intros; rename_i w H; constructor) | refine wk ?_)
        refine Rel.app1_1 (f := lossC) (l := ((ls3 e' c1 c2).take k).filter (fun x => decide (0 < x.2))) (x := (nm, n)) tabOk rfl rfl rfl rfl rfl (by decide) (fun _ => rfl) (List.all_eq_true.1 rfl) H (by show ((((ls3 e' c1 c2).take k).filter (fun x => decide (0 < x.2))).length + 1) * 24 ≤ _; omega) (by omega) ?_
        clear H
        intro rn w H
        (first | (refine H.wg ?_; clear H; intros; rename_i w H; constructor) | refine wk ?_)
        refine ⟨(by repeat (first | exact trivial | refine ⟨rfl, ?_⟩)), (k + 1, rn), (by repeat (first | exact trivial | refine ⟨rfl, ?_⟩)), ⟨by dsimp only; omega, ?_⟩, by dsimp only; omega⟩
        dsimp only
        rw [htk, List.filter_append, List.filter_cons_of_pos (by simpa using hn), List.filter_nil]
        exact H.pick
      · (first | (refine H.wg ?_; clear H; intros; rename_i w H; constructor) | refine wk ?_)
        refine ⟨(by repeat (first | exact trivial | refine ⟨rfl, ?_⟩)), (k + 1, r7), (by repeat (first | exact trivial | refine ⟨rfl, ?_⟩)), ⟨by dsimp only; omega, ?_⟩, by dsimp only; omega⟩
        dsimp only
        rw [htk, List.filter_append, List.filter_cons_of_neg (by simpa using hn), List.filter_nil, List.append_nil]
        exact H.pick
    · have hk3 : k = 3 := by omega
      rw [hk3, List.take_of_length_le (show (ls3 e' c1 c2).length ≤ 3 from Nat.le_refl _)] at H
      obtain ⟨V4, hV4, H, hr7⟩ := Rel.freezeF H (fun _ => rfl) (by decide)
      (first | (refine H.wg ?_; clear H; intros; rename_i w H; constructor) | refine wk ?_)
      exact ⟨V4, r7, (hV2.trans hV3).trans hV4, H.sx, rfl, hr7⟩
end
end Go.Proofs.YtgnaojphgdaalaaDoor
namespace Go.Proofs.YtgnaojphgdaalaaDoor
open Go Go.RowKit

abbrev exA : List UInt8 := [65, 13, 10, 66]
theorem exA_to : txtTo exA = some (txtVal [65, 10, 66], [0, 2, 2, 2]) := by kernel_rfl
theorem exB_to : txtTo [65, 13] = some (txtVal [65, 10], [0, 2, 4, 2]) := by kernel_rfl
theorem exB_mk : txtMake (txtVal [65, 10]) [0, 2, 4, 2] = some [65, 13] := txt_round (by decide) exB_to
theorem exC_out : txtOut [65] [0, 2, 4, 2] = none := by kernel_rfl
theorem exC_mk : txtMake (txtVal [65]) [0, 2, 4, 2] = none := by
  unfold txtMake
  rw [show txtShape (txtVal [65]) = some [65] from rfl]
  simp only
  rw [exC_out]
section
variable {V W : World}
set_option maxRecDepth 100000 in
set_option maxHeartbeats 2000000 in
theorem example_txt (hV : Sub V W) (hT : Lib.Utf8Tabs 0 1 V) : Ret Tryd.prog 9 [].toArray W fun q w' => q = .bool true ∧ ∃ V', Sub V V' ∧ Rel W V [] V' w' := by
  have H := Rel.start hV
  refine cal_of_vc tabOk Tryd.func9 rfl (by kernel_rfl) 59 rfl (by simp) [0, 1, 2, 3, 4, 5, 7] ?_
  (first | (refine H.wh ?_; clear H; intros; rename_i w H; constructor) | refine wk ?_)
  ((first | refine Rel.nwD H ?_ | refine Rel.nw H ?_); clear H; intro w b9 H)
  replace H := H.blkEq (c' := exA.flatMap byC) rfl
  obtain ⟨V2, hV2, H, hb9⟩ := H.freezeBlk
  have hx : Byt V2 ⟨some ⟨b9, 0, none⟩, 4, 4⟩ exA := ⟨rfl, Nat.le_refl _, hb9.cells⟩
  (first | (refine H.wg ?_; clear H; intros; rename_i w H; constructor) | refine wk ?_)
  refine (to_txt H.data (tabs_up hT hV2) hx (by decide)).use ?_
  rintro q w ⟨V3, h, r, hV3, K, rfl, hv, hr⟩
  (have hKb := K.base; replace H := H.call0 K)
  have e : toRes (txtTo exA) exA.length = ⟨txtVal [65, 10, 66], [0, 2, 2, 2], 0, 0⟩ := by unfold toRes; rw [if_neg (by decide), exA_to]
  rw [e] at hv hr ⊢
  have hvb := hv.bytes
  dsimp only at hv hr hvb ⊢
  (first | (refine H.wh ?_; clear H; intros; rename_i w H; constructor) | refine wk ?_)
  ((first | refine Rel.nwD H ?_ | refine Rel.nw H ?_); clear H; intro w b1 H)
  (first | (refine H.wh ?_; clear H; intros; rename_i w H; constructor) | refine wk ?_)
  ((first | refine Rel.nwD H ?_ | refine Rel.nw H ?_); clear H; intro w b3 H)
  (first | (refine H.wh ?_; clear H; intros; rename_i w H; constructor) | refine wk ?_)
  ((first | refine Rel.nwD H ?_ | refine Rel.nw H ?_); clear H; intro w b15 H)
  replace H := H.blkEq (c' := ([65, 10] : List UInt8).flatMap byC) rfl
  (first | (refine H.wg ?_; clear H; intros; rename_i w H; constructor) | refine wk ?_)
  refine Rel.convBB (b := b15) (l := [65, 10]) rfl rfl H rfl ?_
  clear H
  intro V4 w hV4 hy H
  (first | (refine H.wh ?_; clear H; intros; rename_i w H; constructor) | refine wk ?_)
  ((first | refine Rel.nwD H ?_ | refine Rel.nw H ?_); clear H; intro w b18 H)
  replace H := H.blkEq (c' := ([0, 2, 4, 2] : List UInt8).flatMap byC) rfl
  obtain ⟨V5, hV5, H, hb18⟩ := H.freezeBlk
  have hz : Byt V5 ⟨some ⟨b18, 0, none⟩, 4, 4⟩ [0, 2, 4, 2] := ⟨rfl, Nat.le_refl _, hb18.cells⟩
  have hV25 := (hV3.trans hV4).trans hV5
  (first | (refine H.wg ?_; clear H; intros; rename_i w H; constructor) | refine wk ?_)
  refine (from_txt H.data (tabs_up hT (hV2.trans hV25)) (valAt_byt (hy.up hV5)) (vb_byt (by decide)) hz (by decide)).use ?_
  rintro q w ⟨V6, r6, hV6, K, rfl, hr6⟩
  (have hKb := K.base; replace H := H.call0 K)
  have e : frRes (txtVal [65, 10]) (txtShape (txtVal [65, 10])).isSome (txtMake (txtVal [65, 10]) [0, 2, 4, 2]) = ([65, 13], 0, 0) := by
    rw [exB_mk]
    unfold frRes
    rw [vfault_txt (by decide)]
    rfl
  change Byt V6 r6 (frRes (txtVal [65, 10]) (txtShape (txtVal [65, 10])).isSome (txtMake (txtVal [65, 10]) [0, 2, 4, 2])).1 at hr6
  rw [e] at hr6
  dsimp only at hr6
  have e2 : faultV (frRes (txtVal [65, 10]) (txtShape (txtVal [65, 10])).isSome (txtMake (txtVal [65, 10]) [0, 2, 4, 2])).2.1 (frRes (txtVal [65, 10]) (txtShape (txtVal [65, 10])).isSome (txtMake (txtVal [65, 10]) [0, 2, 4, 2])).2.2 = faultV 0 0 := by rw [e]
  rw [e2]
  (first | (refine H.wh ?_; clear H; intros; rename_i w H; constructor) | refine wk ?_)
  ((first | refine Rel.nwD H ?_ | refine Rel.nw H ?_); clear H; intro w b5 H)
  (first | (refine H.wh ?_; clear H; intros; rename_i w H; constructor) | refine wk ?_)
  ((first | refine Rel.nwD H ?_ | refine Rel.nw H ?_); clear H; intro w b23 H)
  replace H := H.blkEq (c' := ([65] : List UInt8).flatMap byC) rfl
  (first | (refine H.wg ?_; clear H; intros; rename_i w H; constructor) | refine wk ?_)
  refine Rel.convBB (b := b23) (l := [65]) rfl rfl H rfl ?_
  clear H
  intro V7 w hV7 hy7 H
  (first | (refine H.wh ?_; clear H; intros; rename_i w H; constructor) | refine wk ?_)
  ((first | refine Rel.nwD H ?_ | refine Rel.nw H ?_); clear H; intro w b26 H)
  replace H := H.blkEq (c' := ([0, 2, 4, 2] : List UInt8).flatMap byC) rfl
  obtain ⟨V8, hV8, H, hb26⟩ := H.freezeBlk
  have hz8 : Byt V8 ⟨some ⟨b26, 0, none⟩, 4, 4⟩ [0, 2, 4, 2] := ⟨rfl, Nat.le_refl _, hb26.cells⟩
  have hV28 := ((hV25.trans hV6).trans hV7).trans hV8
  (first | (refine H.wg ?_; clear H; intros; rename_i w H; constructor) | refine wk ?_)
  refine (from_txt H.data (tabs_up hT (hV2.trans hV28)) (valAt_byt (hy7.up hV8)) (vb_byt (by decide)) hz8 (by decide)).use ?_
  rintro q w ⟨V9, r9, hV9, K, rfl, hr9⟩
  (have hKb := K.base; replace H := H.call0 K)
  have e : frRes (txtVal [65]) (txtShape (txtVal [65])).isSome (txtMake (txtVal [65]) [0, 2, 4, 2]) = ([], 6, -2) := by
    rw [exC_mk]
    unfold frRes
    rw [vfault_txt (by decide)]
    rfl
  have e2 : faultV (frRes (txtVal [65]) (txtShape (txtVal [65])).isSome (txtMake (txtVal [65]) [0, 2, 4, 2])).2.1 (frRes (txtVal [65]) (txtShape (txtVal [65])).isSome (txtMake (txtVal [65]) [0, 2, 4, 2])).2.2 = faultV 6 (-2) := by rw [e]
  rw [e2]
  (first | (refine H.wh ?_; clear H; intros; rename_i w H; constructor) | refine wk ?_)
  ((first | refine Rel.nwD H ?_ | refine Rel.nw H ?_); clear H; intro w b7 H)
  (first | (refine H.wg ?_; clear H; intros; rename_i w H; constructor) | refine wk ?_)
  ((first | refine draw_vcQ (id := 4) tabOk mixed [26] [0, 1, 2, 3, 4, 5, 6, 7, 8, 9, 10, 11, 12, 13, 14, 15, 16, 17, 18, 19, 20, 21, 22, 23, 24, 25, 26, 27, 28, 29] (by kernel_rfl) ?_); intro w hdw; replace H := Rel.ext H hdw.ext)
  (first | (refine H.wg ?_; clear H; intros; rename_i w H; constructor) | refine wk ?_)
  have hV39 := ((((hV4.trans hV5).trans hV6).trans hV7).trans hV8).trans hV9
  have hV69 := (hV7.trans hV8).trans hV9
  refine ⟨[65, 10, 66], hvb.len, byC_map _ ▸ ((hvb.up hV39).up H.data).cells, ?_⟩
  (first | (refine H.wh ?_; clear H; intros; rename_i w H; constructor) | refine wk ?_)
  ((first | refine Rel.nwD H ?_ | refine Rel.nw H ?_); clear H; intro w b46 H)
  replace H := H.blkEq (c' := ([0, 2, 2, 2] : List UInt8).flatMap byC) rfl
  obtain ⟨V10, hV10, H, hb46⟩ := H.freezeBlk
  have hz10 : Byt V10 ⟨some ⟨b46, 0, none⟩, 4, 4⟩ [0, 2, 2, 2] := ⟨rfl, Nat.le_refl _, hb46.cells⟩
  (first | (refine H.wg ?_; clear H; intros; rename_i w H; constructor) | refine wk ?_)
  refine (bytes_ref H.data ((hr.up hV39).up hV10) hz10).use ?_
  rintro q w ⟨rfl, K⟩
  (have hKb := K.base; replace H := H.call0 K)
  rw [decide_eq_true rfl]
  (first | (refine H.wg ?_; clear H; intros; rename_i w H; constructor) | refine wk ?_)
  refine ⟨[65, 13], hr6.len, byC_map _ ▸ (((hr6.up hV69).up hV10).up H.data).cells, ?_⟩
  (first | (refine H.wg ?_; clear H; intros; rename_i w H; constructor) | refine wk ?_)
  refine (at_ref H.data 6 (-2)).use ?_
  rintro q w ⟨rfl, K⟩
  (have hKb := K.base; replace H := H.call0 K)
  (first | (refine H.wg ?_; clear H; intros; rename_i w H; constructor) | refine wk ?_)
  exact Rel.less H.sx hV2 ((hV3.trans hV39).trans hV10)
end
end Go.Proofs.YtgnaojphgdaalaaDoor
