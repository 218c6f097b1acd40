/-
  Pictures: writing a file.
-/
import Derived.Test.YtgnaojphgdaalaaGreatPicQ
namespace Go.Proofs.YtgnaojphgdaalaaGreat
open Go Go.RowKit

theorem packB_le : ∀ (n : Nat) (l : List UInt8), l.length < n → (packB l).length ≤ 2 * l.length
  | 0, _, h => absurd h (Nat.not_lt_zero _)
  | n + 1, l, hn => by
    by_cases hl : l = []
    · rw [hl, packB_nil]; simp
    have h1 : 0 < l.length := List.length_pos_iff.2 hl
    by_cases h3 : 3 ≤ runOf l
    · have hr := runOf_le l
      have := packB_le n (l.drop (runOf l)) (by rw [List.length_drop]; omega)
      rw [packB_run h3]
      simp only [List.length_cons, List.length_drop] at this ⊢
      omega
    · have hk := litOf_le hl
      have := packB_le n (l.drop (litOf l)) (by rw [List.length_drop]; omega)
      rw [packB_lit hl (by omega)]
      simp only [List.length_cons, List.length_append, List.length_take, List.length_drop] at this ⊢
      omega
theorem wrRow_len {f w : Nat} {pal : List Col} {px row : List UInt8} (hw : w ≤ 64) (hl : px.length = 3 * w) (h : wrRow f pal w px = some row) : row.length ≤ 200 := by
  unfold wrRow at h
  split at h
  · cases h; omega
  · split at h
    · cases h; simp; omega
    · split at h
      · cases h
        rw [packRow_len]
        unfold rowOf
        have := Nat.mul_le_mul hw (bitsOf_le f).2
        omega
      · cases h
theorem wr_all {f w h : Nat} {pal : List Col} (hw : w ≤ 64) (hh : h ≤ 64) {d : List UInt8} (hd : d.length = h * (3 * w)) {k : Nat} {R : List (List UInt8)} (hR : allM (wrRow f pal w) ((rowsN (3 * w) h d).take k) = some R) : R.flatten.length ≤ 12800 := by
  obtain ⟨h1, h2⟩ := allM_some hR
  rw [List.length_take, rowsN_len] at h1
  have key : ∀ r ∈ R, r.length ≤ 200 := fun r hr => by
    obtain ⟨i, hi, rfl⟩ := List.mem_iff_getElem.1 hr
    have hy : ((rowsN (3 * w) h d).take k)[i]? = some (((rowsN (3 * w) h d).take k)[i]'(by rw [List.length_take, rowsN_len]; omega)) := List.getElem?_eq_getElem _
    exact wrRow_len hw (rowsN_mem hd (List.mem_of_mem_take (List.mem_of_getElem? hy))) (h2 i _ _ hy (List.getElem?_eq_getElem hi))
  have le : ∀ l : List (List UInt8), (∀ r ∈ l, r.length ≤ 200) → l.flatten.length ≤ l.length * 200 := by
    intro l
    induction l with
    | nil => intro _; simp
    | cons r l ih =>
      intro h
      have := ih fun x hx => h x (by simp [hx])
      have := h r (by simp)
      simp only [List.flatten_cons, List.length_append, List.length_cons]
      omega
  have := le R key
  omega
theorem hdr_cells {a b c : Nat} (ha : a < 256) (hb : b < 256) (hc : c < 256) : [Value.int .u8 (wr .u8 (a : Int)), Value.int .u8 (wr .u8 (b : Int)), Value.int .u8 (wr .u8 (c : Int))] = [UInt8.ofNat a, UInt8.ofNat b, UInt8.ofNat c].flatMap byC := by
  have e : ∀ n : Nat, n < 256 → Value.int .u8 (wr .u8 (n : Int)) = bv (UInt8.ofNat n) := fun n h => by
    rw [bv_nat h]
    congr 1
    show (n : Int) % 256 = n
    omega
  rw [e a ha, e b hb, e c hc]
  rfl
theorem len_cells {n : Nat} (hn : n < 65536) : [Value.int .u8 (wr .u8 ((n : Int) / 256)), Value.int .u8 (wr .u8 (n : Int))] = [UInt8.ofNat (n / 256), UInt8.ofNat n].flatMap byC := by
  have e1 : Value.int .u8 (wr .u8 ((n : Int) / 256)) = bv (UInt8.ofNat (n / 256)) := by
    rw [bv_nat (by omega)]
    congr 1
    show (n : Int) / 256 % 256 = _
    omega
  have e2 : Value.int .u8 (wr .u8 (n : Int)) = bv (UInt8.ofNat n) := by
    simp only [bv]
    rw [UInt8.toNat_ofNat']
    congr 1
  rw [e1, e2]
  rfl
section
variable {V W : World}
set_option maxRecDepth 100000 in
set_option maxHeartbeats 2000000 in
theorem write_spec (hV : Sub V W) {f : Nat} (hf : f < 64) {ps : Sl} {pal : List Col} (hp : Cols V ps pal) (hpo : PalOk f pal) {s : Sl} {px : List UInt8} (hs : Byt V s px) {wd ht : Nat} (hw0 : 1 ≤ wd) (hw : wd ≤ 64) (hh : ht ≤ 64) (hl : px.length = ht * (3 * wd)) :
    Ret Tryz.prog 20 [.agg (styC f ps).toArray, iv (wd : Int), iv (ht : Int), s.v].toArray W (RowsP W V (picWrite f pal wd ht px)) := by
  have H := Rel.start hV
  have hlen := hs.len
  have hl2 : px.length ≤ 12288 := by rw [hl]; have := Nat.mul_le_mul hh (show 3 * wd ≤ 192 by omega); omega
  have e3 : 3 * (wd : Int) = ((3 * wd : Nat) : Int) := by omega
  refine cal_of_sem tabOk Tryz.func20 rfl (by kernel_rfl) 71 rfl (by simp) [0, 1, 2, 3, 4, 8, 9, 10, 11, 12, 13, 14, 16, 24, 25, 33, 38, 53] ?_
  refine SemC.seqGo tabOk ?_
  (first | (refine H.wh ?_; clear H; intros; rename_i w H; constructor) | refine wk ?_)
  ((first | refine Rel.nwD H ?_ | refine Rel.nw H ?_); clear H; intro w b4 H)
  (first | (refine H.wh ?_; clear H; intros; rename_i w H; constructor) | refine wk ?_)
  ((first | refine Rel.nwD H ?_ | refine Rel.nw H ?_); clear H; intro w b8 H)
  (first | (refine H.wh ?_; clear H; intros; rename_i w H; constructor) | refine wk ?_)
  ((first | refine Rel.nwD H ?_ | refine Rel.nw H ?_); clear H; intro w b9 H)
  (first | (refine H.wg ?_; clear H; intros; rename_i w H; constructor) | refine wk ?_)
  refine SemC.seqCut tabOk (fun q : Sl => [(1, iv wd), (2, iv ht), (3, q.v), (4, .pointer (some ⟨b4, 0, none⟩)), (8, .pointer (some ⟨b8, 0, none⟩)), (9, .pointer (some ⟨b9, 0, none⟩))])
    (fun q w' => ∃ V2, Sub V V2 ∧ Rel W V [.blk b9 [.bool false] 4, .blk b8 [.slice none 0 0] 22, .blk b4 (styC f ps) 53] V2 w' ∧ Byt V2 q (turn f (rowsN (3 * wd) ht px)).flatten) ?_ ?_
  · (first | (refine H.wg ?_; clear H; intros; rename_i w H; constructor) | refine wk ?_)
    refine (has1_spec H.data (by omega) ps).use ?_
    rintro q w ⟨rfl, K⟩
    (have hKb := K.base; replace H := H.call0 K)
    unfold turn
    by_cases hup : f % 2 = 1
    · rw [decide_eq_true hup, if_pos hup]
      (first | (refine H.wg ?_; clear H; intros; rename_i w H; constructor) | refine wk ?_)
      rw [e3]
      refine (reversed_spec (h := ht) H.data hs (by omega) (by omega) (by omega) hl (by omega)).use ?_
      rintro v w ⟨r6, rfl, K⟩
      (have hKb := K.base; replace H := Rel.call H K)
      simp only [List.cons_append, List.nil_append] at H
      obtain ⟨V2, hV2, H, hr6⟩ := Rel.freezeF H (fun _ => rfl) (by decide)
      (first | (refine H.wg ?_; clear H; intros; rename_i w H; constructor) | refine wk ?_)
      exact ⟨r6, (by repeat (first | exact trivial | refine ⟨rfl, ?_⟩)), V2, hV2, H.sx, hr6⟩
    · rw [decide_eq_false hup, if_neg hup, rowsN_flat hl]
      (first | (refine H.wg ?_; clear H; intros; rename_i w H; constructor) | refine wk ?_)
      exact ⟨s, (by repeat (first | exact trivial | refine ⟨rfl, ?_⟩)), V, Sub.refl _, H.sx, hs⟩
  clear H
  rintro q0 w ⟨V2, hV2, H, hq0⟩
  obtain ⟨d, hde⟩ : ∃ d, d = (turn f (rowsN (3 * wd) ht px)).flatten := ⟨_, rfl⟩
  have hdr : d.length = ht * (3 * wd) ∧ rowsN (3 * wd) ht d = turn f (rowsN (3 * wd) ht px) := by
    have := flat_rows (s := 3 * wd) (R := turn f (rowsN (3 * wd) ht px)) fun r hr => rowsN_mem hl (mem_turn.1 hr)
    rw [turn_len, rowsN_len, ← hde] at this
    exact this
  rw [← hde] at hq0
  have hst : picStore f pal wd ht px = match allM (wrRow f pal wd) (rowsN (3 * wd) ht d) with
    | none => none
    | some R => some (if f / 2 % 2 = 1 then packB R.flatten else R.flatten) := by
    unfold picStore
    rw [hdr.2]
    rfl
  have hdl := hdr.1
  unfold picWrite
  refine SemC.seqGo tabOk ?_
  (first | (refine H.wh ?_; clear H; intros; rename_i w H; constructor) | refine wk ?_)
  ((first | refine Rel.nwD H ?_ | refine Rel.nw H ?_); clear H; intro w b10 H)
  (first | (refine H.wg ?_; clear H; intros; rename_i w H; constructor) | refine wk ?_)
  refine SemC.go tabOk ?_
  (first | (refine H.wg ?_; clear H; intros; rename_i w H; constructor) | refine wk ?_)
  rw [e3]
  refine (chunks_spec H.data q0 (n := 3 * wd) (by omega)).use ?_
  rintro v w ⟨b, c, rfl, V3, hV3, K, hb, hc⟩
  (have hKb := K.base; replace H := H.call0 K)
  (first | (refine H.wg ?_; clear H; intros; rename_i w H; constructor) | refine wk ?_)
  have hB0 := H.base.size
  replace H := H.rowNil 5 1
  have hVV := hV2.trans hV3
  refine range_rel tabOk rfl (by (conv => whnf)) (chunk_iter (m := ht) hb hc (hq0.up hV3) (by omega) (by omega) (by omega) (by rw [hdl]; exact cnt_mul (by omega))) ?_ rfl (σ := Sl × List (List UInt8)) (τ := Unit)
    (fun k q => [.row q.1 5 1 (q.2.flatten.flatMap byC), .blk b10 [q.1.v] 22, .blk b9 [.bool false] 4, .blk b8 [.slice none 0 0] 22, .blk b4 (styC f ps) 53]) (fun _ _ => rfl)
    (fun k q _ => allM (wrRow f pal wd) ((rowsN (3 * wd) ht d).take k) = some q.2)
    (fun _ _ => [.blk b9 [.bool false] 4, .blk b8 [.slice none 0 0] 22]) (fun _ _ => rfl) (fun c _ _ => c = .ret ∧ picStore f pal wd ht px = none) (⟨none, 0, 0⟩, []) (Sub.refl _) H.sx rfl ?_ ?_ ?_
  · intro y hy
    obtain ⟨i, _, rfl⟩ := List.mem_map.1 hy
    rfl
  · clear H
    rintro L k x w ⟨r, R⟩ V4 hx hV4 hF H
    have hk : k < ht := by
      have := (List.getElem?_eq_some_iff.1 hx).1
      rwa [chunks_len] at this
    rw [chunks_at hk] at hx
    cases hx
    (conv => whnf)
    refine ⟨rfl, Keep.refl _ _, fun w' htw => ?_⟩
    obtain ⟨X, H, hX⟩ := (H.tw rfl hB0 htw).marks rfl hB0
    simp only [List.cons_append, List.nil_append] at H
    dsimp only at hF H
    clear htw
    generalize w' = w at H hX ⊢
    have hkn : k * (3 * wd) < d.length := by rw [hdl]; exact (cnt_mul (by omega) k).1 hk
    have hch := chSl_byt ((hq0.up hV3).up hV4) (n := 3 * wd) (by omega) hkn
    have hrow : (chOf d (3 * wd) k).length = 3 * wd := by
      have hm : chOf d (3 * wd) k ∈ rowsN (3 * wd) ht d := List.mem_map.2 ⟨k, List.mem_range.2 hk, rfl⟩
      exact rowsN_mem hdl hm
    have hfl := wr_all hw hh hdl hF
    (first | (refine H.wg ?_; clear H; intros; rename_i w H; constructor) | refine wk ?_)
    refine (writeRow_spec H.data hf ((hp.up hVV).up hV4) hpo hch hw hrow).use ?_
    rintro v w2 ⟨V5, r5, hV5, K, hres⟩
    (have hKb := K.base; replace H := H.call0 K)
    have hkl : k < (rowsN (3 * wd) ht d).length := by rw [rowsN_len]; exact hk
    have hget : (rowsN (3 * wd) ht d)[k] = chOf d (3 * wd) k := by
      have := rowsN_get (s := 3 * wd) (l := d) hk
      rw [List.getElem?_eq_getElem hkl] at this
      exact Option.some.inj this
    cases hpx : wrRow f pal wd (chOf d (3 * wd) k) with
    | none =>
      rw [hpx] at hres
      obtain rfl := hres
      have hno : picStore f pal wd ht px = none := by
        rw [hst, allM_none (List.getElem_mem hkl) (by rw [hget]; exact hpx)]
      (first | (refine H.wg ?_; clear H; intros; rename_i w H; constructor) | refine wk ?_)
      exact ⟨hX _ (fun r hr => H.laid r (by simp [hr])), V5, (), hV4.trans hV5, ⟨rfl, hno⟩, H.sx⟩
    | some y =>
      rw [hpx] at hres
      obtain ⟨rfl, hr5⟩ := hres
      have hF2 := allM_take hkl hF (by rw [hget]; exact hpx)
      have hyl := wrRow_len hw hrow hpx
      (first | (refine H.wg ?_; clear H; intros; rename_i w H; constructor) | refine wk ?_)
      refine Rel.appD H (i := 0) rfl hr5 (by omega) ?_
      clear H
      intro r1 w H
      simp only [List.set_cons_zero] at H
      (first | (refine H.wg ?_; clear H; intros; rename_i w H; constructor) | refine wk ?_)
      refine ⟨hX _ (fun r hr => H.laid r (by simp [hr])), V5, (r1, R ++ [y]), hV4.trans hV5, hF2, ?_⟩
      rw [List.flatten_append, List.flatten_singleton]
      exact H.sx
  · clear H
    rintro D w ⟨r, R⟩ V4 hV4 hF H
    simp only [List.cons_append, List.nil_append] at H
    rw [chunks_len] at hF
    dsimp only at hF H
    have hfl := wr_all hw hh hdl hF
    rw [List.take_of_length_le (by rw [rowsN_len]; omega)] at hF
    rw [hF] at hst
    rw [hst]
    dsimp only
    obtain ⟨V5, hV5, H, hr5⟩ := Rel.freezeF H (fun _ => rfl) (by decide)
    (first | (refine H.wg ?_; clear H; intros; rename_i w H; constructor) | refine wk ?_)
    refine (has2_spec H.data (by omega) ps).use ?_
    rintro q w ⟨rfl, K⟩
    (have hKb := K.base; replace H := H.call0 K)
    by_cases hrun : f / 2 % 2 = 1
    · rw [decide_eq_true hrun, if_pos hrun]
      have hpl := packB_le _ R.flatten (Nat.lt_succ_self _)
      (first | (refine H.wg ?_; clear H; intros; rename_i w H; constructor) | refine wk ?_)
      refine (pack_spec H.data hr5 (by omega)).use ?_
      rintro q w ⟨rB, rfl, K⟩
      (have hKb := K.base; replace H := Rel.call H K)
      simp only [List.cons_append, List.nil_append] at H
      obtain ⟨B, hBe⟩ : ∃ B, B = packB R.flatten := ⟨_, rfl⟩
      rw [← hBe] at H hpl ⊢
      obtain ⟨V55, hV55, H, hB⟩ := Rel.freezeF H (fun _ => rfl) (by decide)
      have hBl : B.length < 65536 := by omega
      have hsb := styB_len hpo
      (first | (refine H.wh ?_; clear H; intros; rename_i w H; constructor) | refine wk ?_)
      ((first | refine Rel.nwD H ?_ | refine Rel.nw H ?_); clear H; intro w bm H)
      (first | (refine H.wh ?_; clear H; intros; rename_i w H; constructor) | refine wk ?_)
      refine Rel.convBB (l := [82, 65, 83, 49]) Tryz.underlying22 Tryz.underlying5 H rfl ?_
      clear H
      intro V6 w hV6 hm H
      (first | (refine H.wh ?_; clear H; intros; rename_i w H; constructor) | refine wk ?_)
      ((first | refine Rel.nwD H ?_ | refine Rel.nw H ?_); clear H; intro w b50 H)
      (first | (refine H.wh ?_; clear H; intros; rename_i w H; constructor) | refine wk ?_)
      replace H := H.blkEq (hdr_cells (a := f) (b := wd) (c := ht) (by omega) (by omega) (by omega))
      refine Rel.appFull (s := ⟨some ⟨bm, 0, none⟩, 4, 4⟩) (x := ⟨some ⟨b50, 0, none⟩, 3, 3⟩) (xs := ras1.flatMap byC) (ys := [UInt8.ofNat f, UInt8.ofNat wd, UInt8.ofNat ht].flatMap byC) tabOk rfl rfl rfl rfl rfl (by decide) H (hm.up H.data).cells rfl rfl H.bk_0.cells rfl (by show 0 < 3; decide) (by show (4 + 3) * 1 ≤ 140737488355328; decide) (by show 4 + 3 ≤ 4611686018427387904; decide) ?_
      clear H
      intro r1 w hxe H _
      rw [← List.flatMap_append] at H
      replace hB := hB.up hV6
      (first | (refine H.wg ?_; clear H; intros; rename_i w H; constructor) | refine wk ?_)
      refine (indexed_spec H.data (by omega) ps).use ?_
      rintro q w ⟨rfl, K⟩
      (have hKb := K.base; replace H := H.call0 K)
      have hpp := (hp.up ((((hVV.trans hV4).trans hV5).trans hV55))).up hV6
      by_cases h32 : f < 32
      · have hsty : styB f pal = palB pal := by unfold styB; rw [if_pos h32]
        rw [decide_eq_true h32]
        (first | (refine H.wg ?_; clear H; intros; rename_i w H; constructor) | refine wk ?_)
        refine (form_spec H.data hpp hpo.le).use ?_
        rintro q w ⟨r2, rfl, K⟩
        (have hKb := K.base; replace H := Rel.call H K)
        simp only [List.cons_append, List.nil_append] at H
        (first | (refine H.wg ?_; clear H; intros; rename_i w H; constructor) | refine wk ?_)
        rw [← hsty] at H
        refine Rel.appB (xs := ras1 ++ [UInt8.ofNat f, UInt8.ofNat wd, UInt8.ofNat ht]) H (i := 0) rfl (by simp only [List.length_append, List.length_cons, List.length_nil]; omega) ?_
        clear H
        intro r1 w H
        simp only [List.set_cons_zero] at H
        (first | (refine H.wh ?_; clear H; intros; rename_i w H; constructor) | refine wk ?_)
        rw [shl8]
        (first | (refine H.wh ?_; clear H; intros; rename_i w H; constructor) | refine wk ?_)
        ((first | refine Rel.nwD H ?_ | refine Rel.nw H ?_); clear H; intro w b67 H)
        (first | (refine H.wh ?_; clear H; intros; rename_i w H; constructor) | refine wk ?_)
        ((first | refine Rel.nwD H ?_ | refine Rel.nw H ?_); clear H; intro w b69 H)
        replace H := H
        obtain ⟨V7, hV7, H, hb69⟩ := H.freezeBlk
        replace H := H.blkEq (c' := [UInt8.ofNat (B.length / 256), UInt8.ofNat B.length].flatMap byC) (by rw [hB.len]; exact len_cells hBl)
        obtain ⟨V8, hV8, H, hb67⟩ := H.freezeBlk
        obtain ⟨V9, hV9, H, hh⟩ := Rel.freezeF H (fun _ => rfl) (by decide)
        have hll : SlF slC V9 ⟨some ⟨b69, 0, none⟩, 3, 3⟩ [r1, ⟨some ⟨b67, 0, none⟩, 2, 2⟩, rB] := ⟨rfl, Nat.le_refl _, (hb69.cells.sub' hV8).sub' hV9⟩
        have hpw : Pw BytR V9 [r1, ⟨some ⟨b67, 0, none⟩, 2, 2⟩, rB] [ras1 ++ [UInt8.ofNat f, UInt8.ofNat wd, UInt8.ofNat ht] ++ styB f pal, [UInt8.ofNat (B.length / 256), UInt8.ofNat B.length], B] := ⟨rfl, fun k x y hx hy => by
          match k, hx, hy with
          | 0, hx, hy => cases hx; cases hy; exact hh
          | 1, hx, hy => cases hx; cases hy; exact ⟨rfl, Nat.le_refl _, hb67.cells.sub' hV9⟩
          | 2, hx, hy => cases hx; cases hy; exact ((hB.up hV7).up hV8).up hV9
          | k + 3, hx, hy => simp at hx⟩
        (first | (refine H.wg ?_; clear H; intros; rename_i w H; constructor) | refine wk ?_)
        refine (concat_bytes H.data hll hpw (by show 3 ≤ _; decide) (by simp only [List.flatten_cons, List.flatten_nil, List.length_append, List.length_cons, List.length_nil]; omega)).use ?_
        rintro v w ⟨r9, rfl, K⟩
        rw [show [ras1 ++ [UInt8.ofNat f, UInt8.ofNat wd, UInt8.ofNat ht] ++ styB f pal, [UInt8.ofNat (B.length / 256), UInt8.ofNat B.length], B].flatten = picOut f pal wd ht B by simp [picOut]] at K
        (have hKb := K.base; replace H := Rel.call H K)
        simp only [List.cons_append, List.nil_append] at H
        obtain ⟨V10, hV10, H, hr9⟩ := Rel.freezeF H (fun _ => rfl) (by decide)
        (first | (refine H.wg ?_; clear H; intros; rename_i w H; constructor) | refine wk ?_)
        refine ⟨H.mark (by simp), fun w' htw => ?_⟩
        replace H := H.unmark (own' := [.blk b9 [.bool true] 4, .blk b8 [r9.v] 22]) (by repeat (first | exact List.Sublist.refl _ | refine List.Sublist.cons_cons _ ?_ | refine List.Sublist.cons _ ?_ | exact List.nil_sublist _)) rfl (by simp; rfl) htw
        generalize w' = w at H
        (first | (refine H.wg ?_; clear H; intros; rename_i w H; constructor) | refine wk ?_)
        exact ⟨V10, r9, ((((((((hVV.trans hV4).trans hV5).trans hV55)).trans hV6).trans hV7).trans hV8).trans hV9).trans hV10, H.sx, rfl, hr9⟩
      · have hsty : styB f pal = [] := by unfold styB; rw [if_neg h32]
        rw [decide_eq_false h32]
        rw [show ras1 ++ [UInt8.ofNat f, UInt8.ofNat wd, UInt8.ofNat ht] = ras1 ++ [UInt8.ofNat f, UInt8.ofNat wd, UInt8.ofNat ht] ++ styB f pal by rw [hsty, List.append_nil]] at H
        (first | (refine H.wh ?_; clear H; intros; rename_i w H; constructor) | refine wk ?_)
        rw [shl8]
        (first | (refine H.wh ?_; clear H; intros; rename_i w H; constructor) | refine wk ?_)
        ((first | refine Rel.nwD H ?_ | refine Rel.nw H ?_); clear H; intro w b67 H)
        (first | (refine H.wh ?_; clear H; intros; rename_i w H; constructor) | refine wk ?_)
        ((first | refine Rel.nwD H ?_ | refine Rel.nw H ?_); clear H; intro w b69 H)
        replace H := H
        obtain ⟨V7, hV7, H, hb69⟩ := H.freezeBlk
        replace H := H.blkEq (c' := [UInt8.ofNat (B.length / 256), UInt8.ofNat B.length].flatMap byC) (by rw [hB.len]; exact len_cells hBl)
        obtain ⟨V8, hV8, H, hb67⟩ := H.freezeBlk
        obtain ⟨V9, hV9, H, hh⟩ := Rel.freezeF H (fun _ => rfl) (by decide)
        have hll : SlF slC V9 ⟨some ⟨b69, 0, none⟩, 3, 3⟩ [r1, ⟨some ⟨b67, 0, none⟩, 2, 2⟩, rB] := ⟨rfl, Nat.le_refl _, (hb69.cells.sub' hV8).sub' hV9⟩
        have hpw : Pw BytR V9 [r1, ⟨some ⟨b67, 0, none⟩, 2, 2⟩, rB] [ras1 ++ [UInt8.ofNat f, UInt8.ofNat wd, UInt8.ofNat ht] ++ styB f pal, [UInt8.ofNat (B.length / 256), UInt8.ofNat B.length], B] := ⟨rfl, fun k x y hx hy => by
          match k, hx, hy with
          | 0, hx, hy => cases hx; cases hy; exact hh
          | 1, hx, hy => cases hx; cases hy; exact ⟨rfl, Nat.le_refl _, hb67.cells.sub' hV9⟩
          | 2, hx, hy => cases hx; cases hy; exact ((hB.up hV7).up hV8).up hV9
          | k + 3, hx, hy => simp at hx⟩
        (first | (refine H.wg ?_; clear H; intros; rename_i w H; constructor) | refine wk ?_)
        refine (concat_bytes H.data hll hpw (by show 3 ≤ _; decide) (by simp only [List.flatten_cons, List.flatten_nil, List.length_append, List.length_cons, List.length_nil]; omega)).use ?_
        rintro v w ⟨r9, rfl, K⟩
        rw [show [ras1 ++ [UInt8.ofNat f, UInt8.ofNat wd, UInt8.ofNat ht] ++ styB f pal, [UInt8.ofNat (B.length / 256), UInt8.ofNat B.length], B].flatten = picOut f pal wd ht B by simp [picOut]] at K
        (have hKb := K.base; replace H := Rel.call H K)
        simp only [List.cons_append, List.nil_append] at H
        obtain ⟨V10, hV10, H, hr9⟩ := Rel.freezeF H (fun _ => rfl) (by decide)
        (first | (refine H.wg ?_; clear H; intros; rename_i w H; constructor) | refine wk ?_)
        refine ⟨H.mark (by simp), fun w' htw => ?_⟩
        replace H := H.unmark (own' := [.blk b9 [.bool true] 4, .blk b8 [r9.v] 22]) (by repeat (first | exact List.Sublist.refl _ | refine List.Sublist.cons_cons _ ?_ | refine List.Sublist.cons _ ?_ | exact List.nil_sublist _)) rfl (by simp; rfl) htw
        generalize w' = w at H
        (first | (refine H.wg ?_; clear H; intros; rename_i w H; constructor) | refine wk ?_)
        exact ⟨V10, r9, ((((((((hVV.trans hV4).trans hV5).trans hV55)).trans hV6).trans hV7).trans hV8).trans hV9).trans hV10, H.sx, rfl, hr9⟩
    · rw [decide_eq_false hrun, if_neg hrun]
      obtain ⟨B, hBe⟩ : ∃ B, B = R.flatten := ⟨_, rfl⟩
      rw [← hBe] at hr5 hfl ⊢
      have hB := hr5
      obtain ⟨rB, hrB⟩ : ∃ rB, rB = r := ⟨_, rfl⟩
      rw [← hrB] at H hB
      have hBl : B.length < 65536 := by omega
      have hsb := styB_len hpo
      (first | (refine H.wh ?_; clear H; intros; rename_i w H; constructor) | refine wk ?_)
      ((first | refine Rel.nwD H ?_ | refine Rel.nw H ?_); clear H; intro w bm H)
      (first | (refine H.wh ?_; clear H; intros; rename_i w H; constructor) | refine wk ?_)
      refine Rel.convBB (l := [82, 65, 83, 49]) Tryz.underlying22 Tryz.underlying5 H rfl ?_
      clear H
      intro V6 w hV6 hm H
      (first | (refine H.wh ?_; clear H; intros; rename_i w H; constructor) | refine wk ?_)
      ((first | refine Rel.nwD H ?_ | refine Rel.nw H ?_); clear H; intro w b50 H)
      (first | (refine H.wh ?_; clear H; intros; rename_i w H; constructor) | refine wk ?_)
      replace H := H.blkEq (hdr_cells (a := f) (b := wd) (c := ht) (by omega) (by omega) (by omega))
      refine Rel.appFull (s := ⟨some ⟨bm, 0, none⟩, 4, 4⟩) (x := ⟨some ⟨b50, 0, none⟩, 3, 3⟩) (xs := ras1.flatMap byC) (ys := [UInt8.ofNat f, UInt8.ofNat wd, UInt8.ofNat ht].flatMap byC) tabOk rfl rfl rfl rfl rfl (by decide) H (hm.up H.data).cells rfl rfl H.bk_0.cells rfl (by show 0 < 3; decide) (by show (4 + 3) * 1 ≤ 140737488355328; decide) (by show 4 + 3 ≤ 4611686018427387904; decide) ?_
      clear H
      intro r1 w hxe H _
      rw [← List.flatMap_append] at H
      replace hB := hB.up hV6
      (first | (refine H.wg ?_; clear H; intros; rename_i w H; constructor) | refine wk ?_)
      refine (indexed_spec H.data (by omega) ps).use ?_
      rintro q w ⟨rfl, K⟩
      (have hKb := K.base; replace H := H.call0 K)
      have hpp := (hp.up (((hVV.trans hV4).trans hV5))).up hV6
      by_cases h32 : f < 32
      · have hsty : styB f pal = palB pal := by unfold styB; rw [if_pos h32]
        rw [decide_eq_true h32]
        (first | (refine H.wg ?_; clear H; intros; rename_i w H; constructor) | refine wk ?_)
        refine (form_spec H.data hpp hpo.le).use ?_
        rintro q w ⟨r2, rfl, K⟩
        (have hKb := K.base; replace H := Rel.call H K)
        simp only [List.cons_append, List.nil_append] at H
        (first | (refine H.wg ?_; clear H; intros; rename_i w H; constructor) | refine wk ?_)
        rw [← hsty] at H
        refine Rel.appB (xs := ras1 ++ [UInt8.ofNat f, UInt8.ofNat wd, UInt8.ofNat ht]) H (i := 0) rfl (by simp only [List.length_append, List.length_cons, List.length_nil]; omega) ?_
        clear H
        intro r1 w H
        simp only [List.set_cons_zero] at H
        (first | (refine H.wh ?_; clear H; intros; rename_i w H; constructor) | refine wk ?_)
        rw [shl8]
        (first | (refine H.wh ?_; clear H; intros; rename_i w H; constructor) | refine wk ?_)
        ((first | refine Rel.nwD H ?_ | refine Rel.nw H ?_); clear H; intro w b67 H)
        (first | (refine H.wh ?_; clear H; intros; rename_i w H; constructor) | refine wk ?_)
        ((first | refine Rel.nwD H ?_ | refine Rel.nw H ?_); clear H; intro w b69 H)
        replace H := H
        obtain ⟨V7, hV7, H, hb69⟩ := H.freezeBlk
        replace H := H.blkEq (c' := [UInt8.ofNat (B.length / 256), UInt8.ofNat B.length].flatMap byC) (by rw [hB.len]; exact len_cells hBl)
        obtain ⟨V8, hV8, H, hb67⟩ := H.freezeBlk
        obtain ⟨V9, hV9, H, hh⟩ := Rel.freezeF H (fun _ => rfl) (by decide)
        have hll : SlF slC V9 ⟨some ⟨b69, 0, none⟩, 3, 3⟩ [r1, ⟨some ⟨b67, 0, none⟩, 2, 2⟩, rB] := ⟨rfl, Nat.le_refl _, (hb69.cells.sub' hV8).sub' hV9⟩
        have hpw : Pw BytR V9 [r1, ⟨some ⟨b67, 0, none⟩, 2, 2⟩, rB] [ras1 ++ [UInt8.ofNat f, UInt8.ofNat wd, UInt8.ofNat ht] ++ styB f pal, [UInt8.ofNat (B.length / 256), UInt8.ofNat B.length], B] := ⟨rfl, fun k x y hx hy => by
          match k, hx, hy with
          | 0, hx, hy => cases hx; cases hy; exact hh
          | 1, hx, hy => cases hx; cases hy; exact ⟨rfl, Nat.le_refl _, hb67.cells.sub' hV9⟩
          | 2, hx, hy => cases hx; cases hy; exact ((hB.up hV7).up hV8).up hV9
          | k + 3, hx, hy => simp at hx⟩
        (first | (refine H.wg ?_; clear H; intros; rename_i w H; constructor) | refine wk ?_)
        refine (concat_bytes H.data hll hpw (by show 3 ≤ _; decide) (by simp only [List.flatten_cons, List.flatten_nil, List.length_append, List.length_cons, List.length_nil]; omega)).use ?_
        rintro v w ⟨r9, rfl, K⟩
        rw [show [ras1 ++ [UInt8.ofNat f, UInt8.ofNat wd, UInt8.ofNat ht] ++ styB f pal, [UInt8.ofNat (B.length / 256), UInt8.ofNat B.length], B].flatten = picOut f pal wd ht B by simp [picOut]] at K
        (have hKb := K.base; replace H := Rel.call H K)
        simp only [List.cons_append, List.nil_append] at H
        obtain ⟨V10, hV10, H, hr9⟩ := Rel.freezeF H (fun _ => rfl) (by decide)
        (first | (refine H.wg ?_; clear H; intros; rename_i w H; constructor) | refine wk ?_)
        refine ⟨H.mark (by simp), fun w' htw => ?_⟩
        replace H := H.unmark (own' := [.blk b9 [.bool true] 4, .blk b8 [r9.v] 22]) (by repeat (first | exact List.Sublist.refl _ | refine List.Sublist.cons_cons _ ?_ | refine List.Sublist.cons _ ?_ | exact List.nil_sublist _)) rfl (by simp; rfl) htw
        generalize w' = w at H
        (first | (refine H.wg ?_; clear H; intros; rename_i w H; constructor) | refine wk ?_)
        exact ⟨V10, r9, (((((((hVV.trans hV4).trans hV5)).trans hV6).trans hV7).trans hV8).trans hV9).trans hV10, H.sx, rfl, hr9⟩
      · have hsty : styB f pal = [] := by unfold styB; rw [if_neg h32]
        rw [decide_eq_false h32]
        rw [show ras1 ++ [UInt8.ofNat f, UInt8.ofNat wd, UInt8.ofNat ht] = ras1 ++ [UInt8.ofNat f, UInt8.ofNat wd, UInt8.ofNat ht] ++ styB f pal by rw [hsty, List.append_nil]] at H
        (first | (refine H.wh ?_; clear H; intros; rename_i w H; constructor) | refine wk ?_)
        rw [shl8]
        (first | (refine H.wh ?_; clear H; intros; rename_i w H; constructor) | refine wk ?_)
        ((first | refine Rel.nwD H ?_ | refine Rel.nw H ?_); clear H; intro w b67 H)
        (first | (refine H.wh ?_; clear H; intros; rename_i w H; constructor) | refine wk ?_)
        ((first | refine Rel.nwD H ?_ | refine Rel.nw H ?_); clear H; intro w b69 H)
        replace H := H
        obtain ⟨V7, hV7, H, hb69⟩ := H.freezeBlk
        replace H := H.blkEq (c' := [UInt8.ofNat (B.length / 256), UInt8.ofNat B.length].flatMap byC) (by rw [hB.len]; exact len_cells hBl)
        obtain ⟨V8, hV8, H, hb67⟩ := H.freezeBlk
        obtain ⟨V9, hV9, H, hh⟩ := Rel.freezeF H (fun _ => rfl) (by decide)
        have hll : SlF slC V9 ⟨some ⟨b69, 0, none⟩, 3, 3⟩ [r1, ⟨some ⟨b67, 0, none⟩, 2, 2⟩, rB] := ⟨rfl, Nat.le_refl _, (hb69.cells.sub' hV8).sub' hV9⟩
        have hpw : Pw BytR V9 [r1, ⟨some ⟨b67, 0, none⟩, 2, 2⟩, rB] [ras1 ++ [UInt8.ofNat f, UInt8.ofNat wd, UInt8.ofNat ht] ++ styB f pal, [UInt8.ofNat (B.length / 256), UInt8.ofNat B.length], B] := ⟨rfl, fun k x y hx hy => by
          match k, hx, hy with
          | 0, hx, hy => cases hx; cases hy; exact hh
          | 1, hx, hy => cases hx; cases hy; exact ⟨rfl, Nat.le_refl _, hb67.cells.sub' hV9⟩
          | 2, hx, hy => cases hx; cases hy; exact ((hB.up hV7).up hV8).up hV9
          | k + 3, hx, hy => simp at hx⟩
        (first | (refine H.wg ?_; clear H; intros; rename_i w H; constructor) | refine wk ?_)
        refine (concat_bytes H.data hll hpw (by show 3 ≤ _; decide) (by simp only [List.flatten_cons, List.flatten_nil, List.length_append, List.length_cons, List.length_nil]; omega)).use ?_
        rintro v w ⟨r9, rfl, K⟩
        rw [show [ras1 ++ [UInt8.ofNat f, UInt8.ofNat wd, UInt8.ofNat ht] ++ styB f pal, [UInt8.ofNat (B.length / 256), UInt8.ofNat B.length], B].flatten = picOut f pal wd ht B by simp [picOut]] at K
        (have hKb := K.base; replace H := Rel.call H K)
        simp only [List.cons_append, List.nil_append] at H
        obtain ⟨V10, hV10, H, hr9⟩ := Rel.freezeF H (fun _ => rfl) (by decide)
        (first | (refine H.wg ?_; clear H; intros; rename_i w H; constructor) | refine wk ?_)
        refine ⟨H.mark (by simp), fun w' htw => ?_⟩
        replace H := H.unmark (own' := [.blk b9 [.bool true] 4, .blk b8 [r9.v] 22]) (by repeat (first | exact List.Sublist.refl _ | refine List.Sublist.cons_cons _ ?_ | refine List.Sublist.cons _ ?_ | exact List.nil_sublist _)) rfl (by simp; rfl) htw
        generalize w' = w at H
        (first | (refine H.wg ?_; clear H; intros; rename_i w H; constructor) | refine wk ?_)
        exact ⟨V10, r9, (((((((hVV.trans hV4).trans hV5)).trans hV6).trans hV7).trans hV8).trans hV9).trans hV10, H.sx, rfl, hr9⟩
  · clear H
    rintro D c w i V4 hV4 ⟨rfl, hno⟩ H
    simp only [List.cons_append, List.nil_append] at H
    rw [hno]
    (first | (refine H.wg ?_; clear H; intros; rename_i w H; constructor) | refine wk ?_)
    refine ⟨H.mark (by simp), fun w' htw => ?_⟩
    replace H := H.unmark (own' := [.blk b9 [.bool false] 4, .blk b8 [.slice none 0 0] 22]) (by repeat (first | exact List.Sublist.refl _ | refine List.Sublist.cons_cons _ ?_ | refine List.Sublist.cons _ ?_ | exact List.nil_sublist _)) rfl (by simp; rfl) htw
    generalize w' = w at H
    (first | (refine H.wg ?_; clear H; intros; rename_i w H; constructor) | refine wk ?_)
    exact ⟨V4, ⟨none, 0, 0⟩, hVV.trans hV4, H.sx, rfl⟩
end
end Go.Proofs.YtgnaojphgdaalaaGreat
