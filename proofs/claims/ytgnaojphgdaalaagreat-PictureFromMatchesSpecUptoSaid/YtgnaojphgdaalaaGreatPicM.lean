/-
  Pictures: rows from the last one on; reading all rows.
-/
import Derived.Test.YtgnaojphgdaalaaGreatPicL
import Derived.Test.YtgnaojphgdaalaaGreatLibC
namespace Go.Proofs.YtgnaojphgdaalaaGreat
open Go Go.RowKit

theorem Pw.rev {α β : Type} {R : World → β → α → Prop} {V : World} {xs : List β} {ys : List α} (h : Pw R V xs ys) : Pw R V xs.reverse ys.reverse := by
  have hl := h.len
  refine ⟨by simp [hl], fun k x y hx hy => ?_⟩
  have hk : k < xs.length := by simpa using (List.getElem?_eq_some_iff.1 hx).1
  rw [List.getElem?_reverse hk] at hx
  rw [List.getElem?_reverse (by omega), ← hl] at hy
  exact h.all _ x y hx hy
section
variable {V W : World}
theorem chs_pw {s : Sl} {l : List UInt8} {n h : Nat} (hs : Byt V s l) (hn : 1 ≤ n) (hl : l.length = h * n) : Pw BytR V ((List.range h).map (chSl s n)) (rowsN n h l) := by
  refine ⟨by simp [rowsN], fun k x y hx hy => ?_⟩
  have hk : k < h := by simpa using (List.getElem?_eq_some_iff.1 hx).1
  rw [List.getElem?_map, List.getElem?_range hk] at hx
  rw [rowsN_get hk] at hy
  cases hx
  cases hy
  exact chSl_byt hs hn (by rw [hl]; exact (cnt_mul hn k).1 hk)
set_option maxRecDepth 100000 in
theorem reversed_spec (hV : Sub V W) {s : Sl} {l : List UInt8} (hs : Byt V s l) {n h : Nat} (hn : 1 ≤ n) (hn2 : n ≤ 100000) (hh : h ≤ 100000) (hl : l.length = h * n) (hl2 : l.length ≤ 1000000) :
    Ret Tryz.prog 45 [s.v, iv (n : Int)].toArray W fun v w' => ∃ r : Sl, v = r.v ∧ Rel W V [.row r 5 1 ((rowsN n h l).reverse.flatten.flatMap byC)] V w' := by
  have H := Rel.start hV
  refine cal_of_vc tabOk Tryz.func45 rfl (by kernel_rfl) 14 rfl (by simp) [0, 1, 4, 5] ?_
  (first | (refine H.wg ?_; clear H; intros; rename_i w H; constructor) | refine wk ?_)
  refine (chunks_spec H.data s hn).use ?_
  rintro v w ⟨b, c, rfl, V2, hV2, K, hb, hc⟩
  (have hKb := K.base; replace H := H.call0 K)
  (first | (refine H.wg ?_; clear H; intros; rename_i w H; constructor) | refine wk ?_)
  refine (collect_spec (m := h) H.data hb hc (hs.up hV2) (by omega) hn (by omega) (by rw [hl]; exact cnt_mul hn) (by omega)).use ?_
  rintro v w ⟨r, rfl, K⟩
  (have hKb := K.base; replace H := Rel.call H K)
  simp only [List.append_nil] at H
  (first | (refine H.wg ?_; clear H; intros; rename_i w H; constructor) | refine wk ?_)
  refine (reverse_spec H (by simp; omega)).use ?_
  clear K hKb H
  rintro v w H
  obtain ⟨V3, hV3, H, hr⟩ := Rel.freezeF H (fun _ => rfl) (by decide)
  have hfl : (rowsN n h l).reverse.flatten.length ≤ 1000000 := by
    rw [flatten_rev_len, rowsN_flat hl]
    exact hl2
  (first | (refine H.wg ?_; clear H; intros; rename_i w H; constructor) | refine wk ?_)
  refine (concat_bytes H.data hr ((chs_pw ((hs.up hV2).up hV3) hn hl).rev) (by simp [rowsN]; omega) (by omega)).use ?_
  rintro v w ⟨r2, rfl, K⟩
  (have hKb := K.base; replace H := Rel.call H K)
  simp only [List.append_nil] at H
  (first | (refine H.wg ?_; clear H; intros; rename_i w H; constructor) | refine wk ?_)
  exact ⟨r2, rfl, H.less (Sub.refl _) (hV2.trans hV3)⟩
theorem allM_take {α β : Type} {g : α → Option β} {l : List α} {k : Nat} {R : List β} {y : β} (hk : k < l.length) (h : allM g (l.take k) = some R) (hy : g l[k] = some y) : allM g (l.take (k + 1)) = some (R ++ [y]) := by
  rw [List.take_succ_eq_append_getElem hk]
  exact allM_snoc h hy
theorem rowPix_all {f w h : Nat} {pal : List Col} (hf : f < 64) (hp : PalOk f pal) {d : List UInt8} (hd : d.length = h * rowOf f w) {k : Nat} {R : List (List UInt8)} (hR : allM (rowPix f pal w) ((rowsN (rowOf f w) h d).take k) = some R) : R.length ≤ h ∧ ∀ r ∈ R, r.length = 3 * w := by
  obtain ⟨h1, h2⟩ := allM_some hR
  rw [List.length_take, rowsN_len] at h1
  refine ⟨by omega, fun r hr => ?_⟩
  obtain ⟨i, hi, rfl⟩ := List.mem_iff_getElem.1 hr
  have hy : ((rowsN (rowOf f w) h d).take k)[i]? = some (((rowsN (rowOf f w) h d).take k)[i]'(by rw [List.length_take, rowsN_len]; omega)) := List.getElem?_eq_getElem _
  exact (wr_rowPix hf hp (rowsN_mem hd (List.mem_of_mem_take (List.mem_of_getElem? hy))) (h2 i _ _ hy (List.getElem?_eq_getElem hi))).1
structure RowsP (W V : World) (o : Option (List UInt8)) (v : Value) (w' : World) : Prop where
  ex : ∃ (V' : World) (r : Sl), Sub V V' ∧ Rel W V [] V' w' ∧ (match o with
    | none => v = .tuple #[.slice none 0 0, .bool false]
    | some x => v = .tuple #[r.v, .bool true] ∧ Byt V' r x)
set_option maxRecDepth 100000 in
set_option maxHeartbeats 1000000 in
theorem readRows_spec (hV : Sub V W) {f : Nat} (hf : f < 64) {ps : Sl} {pal : List Col} (hp : Cols V ps pal) (hpo : PalOk f pal) {s : Sl} {B : List UInt8} (hs : Byt V s B) (hl : B.length ≤ 70000) {wd ht : Nat} (hw0 : 1 ≤ wd) (hw : wd ≤ 64) (hh : ht ≤ 64) :
    Ret Tryz.prog 59 [.agg (styC f ps).toArray, s.v, iv (wd : Int), iv (ht : Int)].toArray W (RowsP W V (picRows f pal wd ht B)) := by
  have H := Rel.start hV
  have hlen := hs.len
  have hbo := bitsOf_le f
  have hro : rowOf f wd ≤ 200 := by
    unfold rowOf
    have : wd * bitsOf f ≤ 64 * 24 := Nat.mul_le_mul hw hbo.2
    omega
  have hr1 : 1 ≤ rowOf f wd := by
    unfold rowOf
    have : 1 * 1 ≤ wd * bitsOf f := Nat.mul_le_mul hw0 hbo.1
    omega
  have hmul : ((rowOf f wd : Nat) : Int) * (ht : Int) = ((rowOf f wd * ht : Nat) : Int) := (Int.natCast_mul _ _).symm
  have hmb : rowOf f wd * ht ≤ 200 * 64 := Nat.mul_le_mul hro hh
  refine cal_of_sem tabOk Tryz.func59 rfl (by kernel_rfl) 60 rfl (by simp) [0, 1, 2, 3, 4, 6, 8, 9, 10, 11, 12, 13, 14, 15, 26, 36, 39, 40, 49, 54] ?_
  refine SemC.seqGo tabOk ?_
  (first | (refine H.wh ?_; clear H; intros; rename_i w H; constructor) | refine wk ?_)
  ((first | refine Rel.nwD H ?_ | refine Rel.nw H ?_); clear H; intro w b4 H)
  (first | (refine H.wh ?_; clear H; intros; rename_i w H; constructor) | refine wk ?_)
  ((first | refine Rel.nwD H ?_ | refine Rel.nw H ?_); clear H; intro w b6 H)
  (first | (refine H.wh ?_; clear H; intros; rename_i w H; constructor) | refine wk ?_)
  ((first | refine Rel.nwD H ?_ | refine Rel.nw H ?_); clear H; intro w b8 H)
  (first | (refine H.wh ?_; clear H; intros; rename_i w H; constructor) | refine wk ?_)
  ((first | refine Rel.nwD H ?_ | refine Rel.nw H ?_); clear H; intro w b9 H)
  (first | (refine H.wg ?_; clear H; intros; rename_i w H; constructor) | refine wk ?_)
  refine SemC.seqGo tabOk ?_
  (first | (refine H.wg ?_; clear H; intros; rename_i w H; constructor) | refine wk ?_)
  refine (rowSize_spec H.data hf ps hw).use ?_
  rintro q w ⟨rfl, K⟩
  (have hKb := K.base; replace H := H.call0 K)
  (first | (refine H.wg ?_; clear H; intros; rename_i w H; constructor) | refine wk ?_)
  refine SemC.seqGo tabOk ?_
  (first | (refine H.wg ?_; clear H; intros; rename_i w H; constructor) | refine wk ?_)
  refine SemC.seqCut tabOk (fun q : Sl × Bool => [(1, q.1.v), (3, iv ht), (4, .pointer (some ⟨b4, 0, none⟩)), (6, .pointer (some ⟨b6, 0, none⟩)), (8, .pointer (some ⟨b8, 0, none⟩)), (9, .pointer (some ⟨b9, 0, none⟩)), (10, iv (rowOf f wd : Nat)), (11, .bool q.2)])
    (fun q w' => ∃ V2, Sub V V2 ∧ Rel W V [.blk b9 [.bool false] 4, .blk b8 [.slice none 0 0] 22, .blk b6 [iv wd] 3, .blk b4 (styC f ps) 53] V2 w' ∧ (match rowsB f (rowOf f wd * ht) B with
      | none => q.2 = false
      | some d => q.2 = true ∧ Byt V2 q.1 d)) ?_ ?_
  · (first | (refine H.wg ?_; clear H; intros; rename_i w H; constructor) | refine wk ?_)
    refine (has2_spec H.data (by omega) ps).use ?_
    rintro q w ⟨rfl, K⟩
    (have hKb := K.base; replace H := H.call0 K)
    unfold rowsB
    by_cases hrun : f / 2 % 2 = 1
    · rw [decide_eq_true hrun, if_pos hrun]
      (first | (refine H.wg ?_; clear H; intros; rename_i w H; constructor) | refine wk ?_)
      rw [hmul]
      refine (unpack_spec H.data hs (by omega) (by omega)).use ?_
      rintro v w ⟨V2, r, hV2, K, hk⟩
      (have hKb := K.base; replace H := H.call0 K)
      cases hu : unpB B (rowOf f wd * ht) with
      | none =>
        rw [hu] at hk
        obtain rfl := hk
        (first | (refine H.wg ?_; clear H; intros; rename_i w H; constructor) | refine wk ?_)
        exact ⟨(r, false), (by repeat (first | exact trivial | refine ⟨rfl, ?_⟩)), V2, hV2, H.sx, rfl⟩
      | some d =>
        rw [hu] at hk
        obtain ⟨rfl, hr⟩ := hk
        (first | (refine H.wg ?_; clear H; intros; rename_i w H; constructor) | refine wk ?_)
        exact ⟨(r, true), (by repeat (first | exact trivial | refine ⟨rfl, ?_⟩)), V2, hV2, H.sx, rfl, hr⟩
    · rw [decide_eq_false hrun, if_neg hrun]
      by_cases hsz : B.length = rowOf f wd * ht
      · rw [if_pos hsz]
        (first | (refine H.wg ?_; clear H; intros; rename_i w H; constructor) | refine wk ?_)
        exact ⟨(s, true), ⟨rfl, rfl, rfl, rfl, rfl, rfl, rfl, congrArg (fun b => some (Value.bool b)) (decide_eq_true (by omega)), trivial⟩, V, Sub.refl _, H.sx, rfl, hs⟩
      · rw [if_neg hsz]
        (first | (refine H.wg ?_; clear H; intros; rename_i w H; constructor) | refine wk ?_)
        exact ⟨(s, false), ⟨rfl, rfl, rfl, rfl, rfl, rfl, rfl, congrArg (fun b => some (Value.bool b)) (decide_eq_false (by omega)), trivial⟩, V, Sub.refl _, H.sx, rfl⟩
  clear H
  rintro ⟨q0, k⟩ w ⟨V2, hV2, H, hk⟩
  dsimp only at H hk
  unfold picRows
  refine SemC.go tabOk ?_
  cases hd : rowsB f (rowOf f wd * ht) B with
  | none =>
    rw [hd] at hk
    obtain rfl := hk
    (first | (refine H.wg ?_; clear H; intros; rename_i w H; constructor) | refine wk ?_)
    exact ⟨V2, ⟨none, 0, 0⟩, hV2, H.sx, rfl⟩
  | some d =>
    rw [hd] at hk
    obtain ⟨rfl, hq0⟩ := hk
    dsimp only
    (first | (refine H.wh ?_; clear H; intros; rename_i w H; constructor) | refine wk ?_)
    ((first | refine Rel.nwD H ?_ | refine Rel.nw H ?_); clear H; intro w b12 H)
    have hdl : d.length = ht * rowOf f wd := by rw [rowsB_len hd, Nat.mul_comm]
    have hdl2 : d.length ≤ 20000 := by rw [hdl]; have := Nat.mul_le_mul hh hro; omega
    (first | (refine H.wg ?_; clear H; intros; rename_i w H; constructor) | refine wk ?_)
    refine (chunks_spec H.data q0 (n := rowOf f wd) hr1).use ?_
    rintro v w ⟨b, c, rfl, V3, hV3, K, hb, hc⟩
    (have hKb := K.base; replace H := H.call0 K)
    (first | (refine H.wg ?_; clear H; intros; rename_i w H; constructor) | refine wk ?_)
    have hB := H.base.size
    replace H := H.rowNil 5 1
    have hVV := hV2.trans hV3
    refine range_rel tabOk rfl (by (conv => whnf)) (chunk_iter (m := ht) hb hc (hq0.up hV3) (by omega) hr1 (by omega) (by rw [hdl]; exact cnt_mul hr1)) ?_ rfl (σ := Sl × List (List UInt8)) (τ := Unit)
      (fun k q => [.row q.1 5 1 (q.2.flatten.flatMap byC), .blk b12 [q.1.v] 22, .blk b9 [.bool false] 4, .blk b8 [.slice none 0 0] 22, .blk b6 [iv wd] 3, .blk b4 (styC f ps) 53]) (fun _ _ => rfl)
      (fun k q _ => allM (rowPix f pal wd) ((rowsN (rowOf f wd) ht d).take k) = some q.2)
      (fun _ _ => [.blk b9 [.bool false] 4, .blk b8 [.slice none 0 0] 22]) (fun _ _ => rfl) (fun c _ _ => c = .ret ∧ rowsPx f pal wd ht d = none) (⟨none, 0, 0⟩, []) (Sub.refl _) H.sx rfl ?_ ?_ ?_
    · intro y hy
      obtain ⟨i, _, rfl⟩ := List.mem_map.1 hy
      rfl
    · clear H
      rintro L k x w ⟨r, R⟩ V4 hx hV4 hF H
      have hk : k < ht := by
        have := (List.getElem?_eq_some_iff.1 hx).1
        rwa [chunks_len] at this
      rw [chunks_at hk] at hx
      cases hx
      (conv => whnf)
      refine ⟨rfl, Keep.refl _ _, fun w' htw => ?_⟩
      obtain ⟨X, H, hX⟩ := (H.tw rfl hB htw).marks rfl hB
      simp only [List.cons_append, List.nil_append] at H
      dsimp only at hF H
      clear htw
      generalize w' = w at H hX ⊢
      have hkn : k * rowOf f wd < d.length := by rw [hdl]; exact (cnt_mul hr1 k).1 hk
      have hch := chSl_byt ((hq0.up hV3).up hV4) hr1 hkn
      have hrow : (chOf d (rowOf f wd) k).length = rowOf f wd := by
        have hm : chOf d (rowOf f wd) k ∈ rowsN (rowOf f wd) ht d := List.mem_map.2 ⟨k, List.mem_range.2 hk, rfl⟩
        exact rowsN_mem hdl hm
      obtain ⟨hRl, hRm⟩ := rowPix_all hf hpo hdl hF
      have hfl := (flat_rows hRm).1
      have hfl2 : R.flatten.length ≤ 20000 := by rw [hfl]; have := Nat.mul_le_mul (Nat.le_trans hRl hh) (show 3 * wd ≤ 192 by omega); omega
      (first | (refine H.wg ?_; clear H; intros; rename_i w H; constructor) | refine wk ?_)
      refine (readRow_spec H.data hf ((hp.up hVV).up hV4) hpo hch hw hrow).use ?_
      rintro v w2 ⟨V5, r5, hV5, K, hres⟩
      (have hKb := K.base; replace H := H.call0 K)
      have hkl : k < (rowsN (rowOf f wd) ht d).length := by rw [rowsN_len]; exact hk
      have hget : (rowsN (rowOf f wd) ht d)[k] = chOf d (rowOf f wd) k := by
        have := rowsN_get (s := rowOf f wd) (l := d) hk
        rw [List.getElem?_eq_getElem hkl] at this
        exact Option.some.inj this
      cases hpx : rowPix f pal wd (chOf d (rowOf f wd) k) with
      | none =>
        rw [hpx] at hres
        obtain rfl := hres
        have hno : rowsPx f pal wd ht d = none := by
          unfold rowsPx
          rw [allM_none (List.getElem_mem hkl) (by rw [hget]; exact hpx)]
        (first | (refine H.wg ?_; clear H; intros; rename_i w H; constructor) | refine wk ?_)
        exact ⟨hX _ (fun r hr => H.laid r (by simp [hr])), V5, (), hV4.trans hV5, ⟨rfl, hno⟩, H.sx⟩
      | some px =>
        rw [hpx] at hres
        obtain ⟨rfl, hr5⟩ := hres
        have hF2 := allM_take hkl hF (by rw [hget]; exact hpx)
        have hpl := (rowPix_all hf hpo hdl hF2).2 px (by simp)
        (first | (refine H.wg ?_; clear H; intros; rename_i w H; constructor) | refine wk ?_)
        refine Rel.appD H (i := 0) rfl hr5 (by omega) ?_
        clear H
        intro r1 w H
        simp only [List.set_cons_zero] at H
        (first | (refine H.wg ?_; clear H; intros; rename_i w H; constructor) | refine wk ?_)
        refine ⟨hX _ (fun r hr => H.laid r (by simp [hr])), V5, (r1, R ++ [px]), hV4.trans hV5, hF2, ?_⟩
        rw [List.flatten_append, List.flatten_singleton]
        exact H.sx
    · clear H
      rintro D w ⟨r, R⟩ V4 hV4 hF H
      simp only [List.cons_append, List.nil_append] at H
      rw [chunks_len, List.take_of_length_le (by rw [rowsN_len]; omega)] at hF
      dsimp only at hF H
      have hpx : rowsPx f pal wd ht d = some (turn f R).flatten := by unfold rowsPx; rw [hF]
      have hF' := hF
      rw [← List.take_of_length_le (l := rowsN (rowOf f wd) ht d) (i := ht) (by rw [rowsN_len]; omega)] at hF'
      obtain ⟨hRl, hRm⟩ := rowPix_all hf hpo hdl hF'
      have hRl2 : R.length = ht := by rw [(allM_some hF).1, rowsN_len]
      have hfr := flat_rows hRm
      rw [hRl2] at hfr
      have hfl2 : R.flatten.length ≤ 20000 := by rw [hfr.1]; have := Nat.mul_le_mul hh (show 3 * wd ≤ 192 by omega); omega
      rw [hpx]
      obtain ⟨V5, hV5, H, hr5⟩ := Rel.freezeF H (fun _ => rfl) (by decide)
      (first | (refine H.wg ?_; clear H; intros; rename_i w H; constructor) | refine wk ?_)
      refine (has1_spec H.data (by omega) ps).use ?_
      rintro q w ⟨rfl, K⟩
      (have hKb := K.base; replace H := H.call0 K)
      by_cases hup : f % 2 = 1
      · rw [decide_eq_true hup]
        (first | (refine H.wg ?_; clear H; intros; rename_i w H; constructor) | refine wk ?_)
        rw [show 3 * (wd : Int) = ((3 * wd : Nat) : Int) by omega]
        refine (reversed_spec (h := ht) H.data hr5 (by omega) (by omega) (by omega) hfr.1 (by omega)).use ?_
        rintro v w ⟨r6, rfl, K⟩
        (have hKb := K.base; replace H := Rel.call H K)
        simp only [List.cons_append, List.nil_append] at H
        rw [hfr.2] at H
        obtain ⟨V6, hV6, H, hr6⟩ := Rel.freezeF H (fun _ => rfl) (by decide)
        (first | (refine H.wg ?_; clear H; intros; rename_i w H; constructor) | refine wk ?_)
        refine ⟨H.mark (by simp), fun w' htw => ?_⟩
        replace H := H.unmark (own' := [.blk b9 [.bool true] 4, .blk b8 [r6.v] 22]) (by repeat (first | exact List.Sublist.refl _ | refine List.Sublist.cons_cons _ ?_ | refine List.Sublist.cons _ ?_ | exact List.nil_sublist _)) rfl (by simp; rfl) htw
        generalize w' = w at H
        (first | (refine H.wg ?_; clear H; intros; rename_i w H; constructor) | refine wk ?_)
        refine ⟨V6, r6, (((hVV.trans hV4).trans hV5).trans hV6), H.sx, rfl, ?_⟩
        unfold turn
        rw [if_pos hup]
        exact hr6
      · rw [decide_eq_false hup]
        (first | (refine H.wg ?_; clear H; intros; rename_i w H; constructor) | refine wk ?_)
        refine ⟨H.mark (by simp), fun w' htw => ?_⟩
        replace H := H.unmark (own' := [.blk b9 [.bool true] 4, .blk b8 [r.v] 22]) (by repeat (first | exact List.Sublist.refl _ | refine List.Sublist.cons_cons _ ?_ | refine List.Sublist.cons _ ?_ | exact List.nil_sublist _)) rfl (by simp; rfl) htw
        generalize w' = w at H
        (first | (refine H.wg ?_; clear H; intros; rename_i w H; constructor) | refine wk ?_)
        refine ⟨V5, r, ((hVV.trans hV4).trans hV5), H.sx, rfl, ?_⟩
        unfold turn
        rw [if_neg hup]
        exact hr5
    · clear H
      rintro D c w i V4 hV4 ⟨rfl, hno⟩ H
      simp only [List.cons_append, List.nil_append] at H
      rw [hno]
      (first | (refine H.wg ?_; clear H; intros; rename_i w H; constructor) | refine wk ?_)
      refine ⟨H.mark (by simp), fun w' htw => ?_⟩
      replace H := H.unmark (own' := [.blk b9 [.bool false] 4, .blk b8 [.slice none 0 0] 22]) (by repeat (first | exact List.Sublist.refl _ | refine List.Sublist.cons_cons _ ?_ | refine List.Sublist.cons _ ?_ | exact List.nil_sublist _)) rfl (by simp; rfl) htw
      generalize w' = w at H
      (first | (refine H.wg ?_; clear H; intros; rename_i w H; constructor) | refine wk ?_)
      exact ⟨V4, ⟨none, 0, 0⟩, hVV.trans hV4, H.sx, rfl⟩
end
end Go.Proofs.YtgnaojphgdaalaaGreat
