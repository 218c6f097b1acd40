/-
  Pictures, the reference: palettes, residues.
-/
import Derived.Test.YtgnaojphgdaalaaGreatPicV
namespace Go.Proofs.YtgnaojphgdaalaaGreat
open Go Go.RowKit

theorem sub_col {c : UInt8} {l : List UInt8} {a : Nat} (h : 3 * a + 3 ≤ l.length) : ((c :: l).take (3 * a + 4)).drop (3 * a + 1) = colL (colAt l a) := by
  rw [List.drop_take, List.drop_succ_cons, show 3 * a + 4 - (3 * a + 1) = 3 by omega]
  have e : ∀ i, i < l.length → l.drop i = z8 l i :: l.drop (i + 1) := fun i hi => by
    rw [List.drop_eq_getElem_cons hi]
    simp [z8, List.getElem?_eq_getElem hi]
  rw [e _ (by omega), e (3 * a + 1) (by omega), e (3 * a + 1 + 1) (by omega)]
  rfl
theorem colL_inj {a b : Col} : colL a = colL b ↔ a = b := by
  constructor
  · intro h
    simp only [colL, List.cons.injEq, and_true] at h
    exact Prod.ext h.1 (Prod.ext h.2.1 h.2.2)
  · intro h; rw [h]
structure PalG (W V : World) (f : Nat) (o : Option (List Col × List UInt8)) (v : Value) (w' : World) : Prop where
  ex : ∃ (r : Sl), Rel W V [] V w' ∧ (match o with
    | none => v = .tuple #[.slice none 0 0, iv (-1)]
    | some (p, _) => v = .tuple #[r.v, iv ((styB f p).length : Nat)] ∧ Byt V r (styB f p))
section
variable {V W : World}
set_option maxRecDepth 100000 in
theorem palette_ref (hV : Sub V W) {s : Sl} {b : List UInt8} (hs : Byt V s b) (hl : b.length ≤ 1000000000) {f : Nat} (hf : f < 64) : Ret Tryz.prog 55 [s.v, iv (f : Int)].toArray W (PalG W V f (styR f b)) := by
  have H := Rel.start hV
  have hlen := hs.len
  have hcap := hs.cap
  unfold styR
  obtain ⟨most, hmost⟩ : ∃ m, m = mostP f := ⟨_, rfl⟩
  have hm16 := mostP_le f
  refine cal_of_sem tabOk Tryz.func55 rfl (by kernel_rfl) 68 rfl (by simp) [0, 1, 4, 5, 6, 7, 8, 9, 11, 13, 36, 45, 50, 63] ?_
  by_cases h32 : f < 32
  rotate_left
  · rw [if_neg h32]
    have e : styB f [] = [] := by unfold styB; rw [if_neg h32]
    refine SemC.go tabOk ?_
    (first | (refine H.wg ?_; clear H; intros; rename_i w H; constructor) | refine wk ?_)
    exact ⟨⟨none, 0, 0⟩, H.sx, by rw [e]; rfl, by rw [e]; exact SlF.nil _ _⟩
  rw [if_pos h32]
  refine SemC.seqGo tabOk ?_
  (first | (refine H.wg ?_; clear H; intros; rename_i w H; constructor) | refine wk ?_)
  refine SemC.seqGo tabOk ?_
  (first | (refine H.wg ?_; clear H; intros; rename_i w H; constructor) | refine wk ?_)
  refine SemC.seqGo tabOk ?_
  (first | (refine H.wg ?_; clear H; intros; rename_i w H; constructor) | refine wk ?_)
  refine SemC.seqCut tabOk (fun _ : Unit => [(0, s.v), (6, iv most)]) (fun _ w' => w' = W) ?_ ?_
  · by_cases hd : f / 16 = 1
    · obtain rfl : most = 16 := by rw [hmost]; unfold mostP; rw [if_pos hd]
      (first | (refine H.wg ?_; clear H; intros; rename_i w H; constructor) | refine wk ?_)
      exact ⟨(), (by repeat (first | exact trivial | refine ⟨rfl, ?_⟩)), rfl⟩
    · obtain rfl : most = 2 := by rw [hmost]; unfold mostP; rw [if_neg hd]
      (first | (refine H.wg ?_; clear H; intros; rename_i w H; constructor) | refine wk ?_)
      exact ⟨(), (by repeat (first | exact trivial | refine ⟨rfl, ?_⟩)), rfl⟩
  rintro _ w rfl
  refine SemC.go tabOk ?_
  cases b with
  | nil =>
    rw [List.length_nil] at hlen
    (first | (refine H.wg ?_; clear H; intros; rename_i w H; constructor) | refine wk ?_)
    exact ⟨⟨none, 0, 0⟩, H.sx, rfl⟩
  | cons c l =>
    obtain ⟨p0, c0⟩ := hs.at1 (g := bv) (fun _ => rfl) (show 0 < (c :: l).length by simp)
    rw [List.getElem_cons_zero] at c0
    rw [List.length_cons] at hlen hl
    have hc256 := c.toNat_lt
    (first | (refine H.wg ?_; clear H; intros; rename_i w H; constructor) | refine wk ?_)
    refine (in_ref (c.toNat : Int) 1 most _).use ?_
    rintro q w' ⟨rfl, rfl⟩
    by_cases h1 : 1 ≤ c.toNat ∧ c.toNat ≤ most
    rotate_left
    · have e : palR f (c :: l) = none := by unfold palR; simp only; rw [if_neg (fun h => h1 ⟨h.1, by rw [hmost]; exact h.2.1⟩)]
      rw [e, decide_eq_false (by omega)]
      (first | (refine H.wg ?_; clear H; intros; rename_i w H; constructor) | refine wk ?_)
      exact ⟨⟨none, 0, 0⟩, H.sx, rfl⟩
    rw [decide_eq_true (show (1 : Int) ≤ (c.toNat : Int) ∧ (c.toNat : Int) ≤ (most : Int) by omega)]
    by_cases h3 : 3 * c.toNat ≤ l.length
    rotate_left
    · have e : palR f (c :: l) = none := by unfold palR; simp only; rw [if_neg (fun h => h3 h.2.2.1)]
      rw [e]
      (first | (refine H.wg ?_; clear H; intros; rename_i w H; constructor) | refine wk ?_)
      exact ⟨⟨none, 0, 0⟩, H.sx, rfl⟩
    obtain ⟨n, hn⟩ : ∃ n, n = c.toNat := ⟨_, rfl⟩
    have hn16 : n ≤ 16 := by omega
    (first | (refine H.wg ?_; clear H; intros; rename_i w H; constructor) | refine wk ?_)
    rw [← hn] at h1 h3 ⊢
    refine loop_inv (S := Nat) tabOk [0, 1, 6, 7, 11, 13, 36] (fun a => [(8, iv ((3 * a + 1 : Nat) : Int))]) (fun a w' => a ≤ n ∧ ((List.range a).map (colAt l)).Nodup ∧ Rel w V [] V w') (fun a _ => n - a) 0 ?_
    (conv => whnf)
    refine ⟨(by repeat (first | exact trivial | refine ⟨rfl, ?_⟩)), ⟨by omega, by simp, H⟩, ?_⟩
    clear H
    rintro a w' ⟨ha, hnd, H⟩
    dsimp only at ha hnd H ⊢
    by_cases hlt : a < n
    · (first | (refine H.wg ?_; clear H; intros; rename_i w H; constructor) | refine wk ?_)
      refine loop_inv (S := Nat) tabOk [0, 1, 6, 7, 8, 11, 13, 36, 45] (fun k => [(9, iv ((3 * k + 1 : Nat) : Int))]) (fun k w' => k ≤ a ∧ colAt l a ∉ (List.range k).map (colAt l) ∧ Rel w V [] V w') (fun k _ => a - k) 0 ?_
      (conv => whnf)
      refine ⟨(by repeat (first | exact trivial | refine ⟨rfl, ?_⟩)), ⟨by omega, by simp, H⟩, ?_⟩
      clear H
      rintro k w' ⟨hk, hno, H⟩
      dsimp only at hk hno H ⊢
      by_cases hka : k < a
      · have ta := SlF.sub hs (n := 1) (fun _ => rfl) (a := 3 * a + 1) (b := 3 * a + 4) (by omega) (by rw [List.length_cons]; omega)
        have tk := SlF.sub hs (n := 1) (fun _ => rfl) (a := 3 * k + 1) (b := 3 * k + 4) (by omega) (by rw [List.length_cons]; omega)
        rw [sub_col (by omega)] at ta tk
        (first | (refine H.wg ?_; clear H; intros; rename_i w H; constructor) | refine wk ?_)
        ((first | refine draw_vc (id := 15) tabOk mixed [] [0, 1, 2, 3, 4, 5, 6, 7, 8, 9, 10] (by kernel_rfl) ?_); intro w hdw; replace H := Rel.ext H hdw.ext)
        (first | (refine H.wg ?_; clear H; intros; rename_i w H; constructor) | refine wk ?_)
        rw [show ((3 * a + 1 : Nat) : Int) + 3 = ((3 * a + 4 : Nat) : Int) by omega, show ((3 * k + 1 : Nat) : Int) + 3 = ((3 * k + 4 : Nat) : Int) by omega]
        refine (bytes_ref H.data ta tk).use ?_
        rintro q w' ⟨rfl, K⟩
        (have hKb := K.base; replace H := H.call0 K)
        by_cases he : colAt l a = colAt l k
        · have e : palR f (c :: l) = none := by
            unfold palR
            simp only
            rw [if_neg]
            rintro ⟨_, _, _, h4⟩
            rw [← hn] at h4
            have h5 := colsOf_take h3 (k := a + 1) (by omega)
            have h6 := (h4.sublist (List.take_sublist (a + 1) _))
            rw [h5, List.range_succ, List.map_append, List.map_singleton] at h6
            exact (List.nodup_append.1 h6).2.2 (colAt l k) (List.mem_map.2 ⟨k, List.mem_range.2 hka, rfl⟩) _ (List.mem_singleton.2 rfl) he.symm
          rw [e, decide_eq_true (colL_inj.2 he)]
          (first | (refine H.wg ?_; clear H; intros; rename_i w H; constructor) | refine wk ?_)
          exact ⟨⟨none, 0, 0⟩, H.sx, rfl⟩
        · rw [decide_eq_false (fun h => he (colL_inj.1 h))]
          (first | (refine H.wg ?_; clear H; intros; rename_i w H; constructor) | refine wk ?_)
          refine ⟨(by repeat (first | exact trivial | refine ⟨rfl, ?_⟩)), k + 1, ⟨congrArg (fun z => some (iv z)) (by omega), trivial⟩, ⟨by omega, ?_, H⟩, by omega⟩
          rw [List.range_succ, List.map_append, List.map_singleton]
          simp only [List.mem_append, List.mem_singleton, not_or]
          exact ⟨hno, he⟩
      · obtain rfl : k = a := by omega
        have hnd' : ((List.range (k + 1)).map (colAt l)).Nodup := by
          rw [List.range_succ, List.map_append, List.map_singleton, List.nodup_append]
          exact ⟨hnd, by simp, fun a ha b hb e => hno (by rw [List.mem_singleton] at hb; rw [← hb, ← e]; exact ha)⟩
        (first | (refine H.wg ?_; clear H; intros; rename_i w H; constructor) | refine wk ?_)
        exact ⟨(by repeat (first | exact trivial | refine ⟨rfl, ?_⟩)), k + 1, ⟨congrArg (fun z => some (iv z)) (by omega), trivial⟩, ⟨by omega, hnd', H⟩, by omega⟩
    · obtain rfl : a = n := by omega
      have h4 := colsOf_take h3 (k := a) (Nat.le_refl _)
      have h5 : (colsOf (l.take (3 * a))).length = a := (colsL_of a (by rw [List.length_take]; omega)).2
      rw [List.take_of_length_le (by omega)] at h4
      have e : palR f (c :: l) = some ((List.range a).map (colAt l), l.drop (3 * a)) := by
        unfold palR
        simp only
        rw [← hn, if_pos ⟨h1.1, by rw [← hmost]; exact h1.2, h3, by rw [h4]; exact hnd⟩, h4]
      have eb : styB f ((List.range a).map (colAt l)) = (c :: l).take (3 * a + 1) := by
        have := (palR_some e).1
        unfold styB
        rw [if_pos h32, this, List.take_left' (by unfold palB; rw [List.length_cons, colsL_len]; simp)]
      have ebl : (styB f ((List.range a).map (colAt l))).length = 3 * a + 1 := by rw [eb, List.length_take, List.length_cons]; omega
      rw [e]
      (first | (refine H.wg ?_; clear H; intros; rename_i w H; constructor) | refine wk ?_)
      have hh := hs.head (k := 3 * a + 1) (by rw [List.length_cons]; omega)
      rw [show (1 : Int) + 3 * (a : Int) = ((3 * a + 1 : Nat) : Int) by omega]
      refine ⟨⟨subA s.a 0 s.cap 1, 3 * a + 1, s.cap⟩, H, ?_, ?_⟩
      · rw [ebl]
        rfl
      · rw [eb]
        exact hh
set_option maxRecDepth 100000 in
theorem pctGood_g (hV : Sub V W) {s : Sl} {b : List UInt8} (hs : Byt V s b) (hl : b.length ≤ 1000000000) : Ret Tryz.prog 27 [s.v].toArray W fun q w' => q = .bool (picLoss b).isSome ∧ Rel W V [] V w' := by
  have H := Rel.start hV
  have hlen := hs.len
  have hcap := hs.cap
  refine cal_of_vc tabOk Tryz.func27 rfl (by kernel_rfl) 35 rfl (by simp) [0, 2, 4, 7, 19] ?_
  have hsome : (picLoss b).isSome = (picRd b).isSome := by
    unfold picLoss
    cases picRd b <;> rfl
  rw [hsome]
  cases b with
  | nil =>
    rw [List.length_nil] at hlen
    (first | (refine H.wg ?_; clear H; intros; rename_i w H; constructor) | refine wk ?_)
    exact H.sx
  | cons c l =>
    obtain ⟨p0, c0⟩ := hs.at1 (g := bv) (fun _ => rfl) (show 0 < (c :: l).length by simp)
    rw [List.getElem_cons_zero] at c0
    rw [List.length_cons] at hlen hl
    have hc256 := c.toNat_lt
    have ht := hs.rest (k := 1) (by simp)
    rw [List.drop_one, List.tail_cons] at ht
    (first | (refine H.wg ?_; clear H; intros; rename_i w H; constructor) | refine wk ?_)
    refine (flagsOk_ref c.toNat _ hc256).use ?_
    rintro v w' ⟨rfl, rfl⟩
    by_cases hfo : c.toNat < 64 ∧ c.toNat % 16 < 4
    rotate_left
    · have e : picRd (c :: l) = none := by unfold picRd; simp only; rw [if_neg (fun h => hfo h.1)]
      rw [e, decide_eq_false hfo]
      (first | (refine H.wg ?_; clear H; intros; rename_i w H; constructor) | refine wk ?_)
      exact H.sx
    rw [decide_eq_true hfo]
    by_cases h48 : c.toNat = 48
    · have e : picRd (c :: l) = none := by unfold picRd; simp only; rw [if_neg (fun h => h.2 h48)]
      rw [e]
      (first | (refine H.wg ?_; clear H; intros; rename_i w H; constructor) | refine wk ?_)
      exact H.sx
    have er : picRd (c :: l) = match styR c.toNat l with
      | some (p, []) => some (c.toNat, p)
      | _ => none := by
        unfold picRd
        simp only
        rw [if_pos ⟨hfo, h48⟩]
        rfl
    (first | (refine H.wg ?_; clear H; intros; rename_i w H; constructor) | refine wk ?_)
    ((first | refine draw_vc (id := 5) tabOk mixed [] [0, 1, 2, 3, 4, 5, 6, 7, 8, 9, 10, 11] (by kernel_rfl) ?_); intro w hdw; replace H := Rel.ext H hdw.ext)
    (first | (refine H.wg ?_; clear H; intros; rename_i w H; constructor) | refine wk ?_)
    refine (palette_ref H.data ht (by omega) hfo.1).use ?_
    rintro q w ⟨r, K, hk⟩
    (have hKb := K.base; replace H := H.call0 K)
    rw [er]
    cases hp : styR c.toNat l with
    | none =>
      rw [hp] at hk
      obtain rfl := hk
      (first | (refine H.wg ?_; clear H; intros; rename_i w H; constructor) | refine wk ?_)
      exact ⟨congrArg Value.bool (decide_eq_false (by omega)), H.sx⟩
    | some y =>
      obtain ⟨p, l2⟩ := y
      rw [hp] at hk
      obtain ⟨rfl, _⟩ := hk
      have hll := congrArg List.length (styR_some hp).1
      rw [List.length_append] at hll
      cases l2 with
      | nil =>
        rw [List.length_nil] at hll
        (first | (refine H.wg ?_; clear H; intros; rename_i w H; constructor) | refine wk ?_)
        exact ⟨congrArg Value.bool (decide_eq_true (by omega)), H.sx⟩
      | cons y l2 =>
        rw [List.length_cons] at hll
        (first | (refine H.wg ?_; clear H; intros; rename_i w H; constructor) | refine wk ?_)
        exact ⟨congrArg Value.bool (decide_eq_false (by omega)), H.sx⟩
end
end Go.Proofs.YtgnaojphgdaalaaGreat
namespace Go.Proofs.YtgnaojphgdaalaaGreat
open Go Go.RowKit

abbrev exB : List UInt8 := [82, 65, 83, 49, 48, 1, 1, 0, 3, 7, 8, 9]
theorem ex_file : picFile exB = some ⟨1, 1, 48, [], [7, 8, 9]⟩ := by kernel_rfl
theorem ex_to : picTo exB = some (picVal 1 1 [7, 8, 9], []) := by
  unfold picTo
  rw [ex_file]
  simp only
  have h : (vfault (picVal ((1 : Nat) : Int) ((1 : Nat) : Int) [7, 8, 9])).1 = 0 := by rw [vfault_pic (by decide) (by decide) (by decide)]
  rw [if_neg (fun hh => hh h)]
  rfl
theorem ex_loss : picLoss [34] = some [(lsBits, 8), (lsRuns, 1)] := by kernel_rfl
theorem picLoss_len {b : List UInt8} {ls : List LossD} (h : picLoss b = some ls) : ls.length ≤ 1000000 := by
  unfold picLoss at h
  split at h
  · cases h
  · cases h
    exact Nat.le_trans (lossPic_len _ _) (by decide)
section
variable {V W : World}
set_option maxRecDepth 100000 in
set_option maxHeartbeats 1000000 in
theorem example_pic (hV : Sub V W) : Ret Tryz.prog 4 [].toArray W fun q w' => q = .bool true ∧ ∃ V', Sub V V' ∧ Rel W V [] V' w' := by
  have H := Rel.start hV
  refine cal_of_vc tabOk Tryz.func4 rfl (by kernel_rfl) 43 rfl (by simp) [0, 1, 2, 3, 4, 5] ?_
  (first | (refine H.wh ?_; clear H; intros; rename_i w H; constructor) | refine wk ?_)
  ((first | refine Rel.nwD H ?_ | refine Rel.nw H ?_); clear H; intro w b7 H)
  replace H := H.blkEq (c' := exB.flatMap byC) rfl
  obtain ⟨V2, hV2, H, hb7⟩ := H.freezeBlk
  have hx : Byt V2 ⟨some ⟨b7, 0, none⟩, 12, 12⟩ exB := ⟨rfl, Nat.le_refl _, hb7.cells⟩
  (first | (refine H.wg ?_; clear H; intros; rename_i w H; constructor) | refine wk ?_)
  refine (to_pic H.data hx (by decide)).use ?_
  rintro q w ⟨V3, h, r, hV3, K, rfl, hv, hr⟩
  (have hKb := K.base; replace H := H.call0 K)
  have e : toRes (picTo exB) exB.length = ⟨picVal 1 1 [7, 8, 9], [], 0, 0⟩ := by unfold toRes; rw [if_neg (by decide), ex_to]
  rw [e] at hv hr ⊢
  dsimp only at hv hr ⊢
  have hrl : r.len = 0 := hr.len
  (first | (refine H.wh ?_; clear H; intros; rename_i w H; constructor) | refine wk ?_)
  ((first | refine Rel.nwD H ?_ | refine Rel.nw H ?_); clear H; intro w b1 H)
  (first | (refine H.wh ?_; clear H; intros; rename_i w H; constructor) | refine wk ?_)
  ((first | refine Rel.nwD H ?_ | refine Rel.nw H ?_); clear H; intro w b3 H)
  (first | (refine H.wh ?_; clear H; intros; rename_i w H; constructor) | refine wk ?_)
  ((first | refine Rel.nwD H ?_ | refine Rel.nw H ?_); clear H; intro w b13 H)
  replace H := H.blkEq (c' := ([34] : List UInt8).flatMap byC) rfl
  obtain ⟨V4, hV4, H, hb13⟩ := H.freezeBlk
  have hy : Byt V4 ⟨some ⟨b13, 0, none⟩, 1, 1⟩ [34] := ⟨rfl, Nat.le_refl _, hb13.cells⟩
  (first | (refine H.wg ?_; clear H; intros; rename_i w H; constructor) | refine wk ?_)
  refine (explain_pic H.data hy (by decide)).use ?_
  rintro q w ⟨V5, r5, hV5, K, hres⟩
  (have hKb := K.base; replace H := H.call0 K)
  rw [ex_loss] at hres
  obtain ⟨rfl, hls⟩ := hres
  (first | (refine H.wh ?_; clear H; intros; rename_i w H; constructor) | refine wk ?_)
  ((first | refine Rel.nwD H ?_ | refine Rel.nw H ?_); clear H; intro w b5 H)
  (first | (refine H.wg ?_; clear H; intros; rename_i w H; constructor) | refine wk ?_)
  ((first | refine draw_vc (id := 3) tabOk mixed [10, 11] [0, 1, 2, 3, 4, 5, 6, 7, 8, 9, 10, 11, 12, 13, 14, 15, 16, 17, 18, 19, 20, 21, 22, 23, 24, 25, 26] (by kernel_rfl) ?_); intro w hdw; replace H := Rel.ext H hdw.ext)
  (first | (refine H.wh ?_; clear H; intros; rename_i w H; constructor) | refine wk ?_)
  ((first | refine Rel.nwD H ?_ | refine Rel.nw H ?_); clear H; intro w b27 H)
  replace H := H.blkEq (c' := ([7, 8, 9] : List UInt8).flatMap byC) rfl
  obtain ⟨V6, hV6, H, hb27⟩ := H.freezeBlk
  have hz : Byt V6 ⟨some ⟨b27, 0, none⟩, 3, 3⟩ [7, 8, 9] := ⟨rfl, Nat.le_refl _, hb27.cells⟩
  (first | (refine H.wg ?_; clear H; intros; rename_i w H; constructor) | refine wk ?_)
  refine (plainPicture_ref H.data 1 1 hz).use ?_
  rintro q w ⟨V7, h7, hV7, K, rfl, hv7⟩
  (have hKb := K.base; replace H := H.call0 K)
  (first | (refine H.wg ?_; clear H; intros; rename_i w H; constructor) | refine wk ?_)
  refine (same_value (SizeOf.sizeOf (picVal 1 1 [7, 8, 9]) + 1) H.data (Nat.lt_succ_self _) ((((hv.up hV4).up hV5).up hV6).up hV7) hv7 ((vb_pic (by decide) (by decide) (by decide)).mono (by decide))).use ?_
  rintro q w ⟨r0, rfl, hsame, K⟩
  (have hKb := K.base; replace H := H.call0 K)
  obtain rfl := hsame.2 rfl
  (first | (refine H.wh ?_; clear H; intros; rename_i w H; constructor) | refine wk ?_)
  ((first | refine Rel.nwD H ?_ | refine Rel.nw H ?_); clear H; intro w b39 H)
  obtain ⟨V9, hV9, H, hb39⟩ := H.freezeBlk
  have hl : SlF lossC V9 ⟨some ⟨b39, 0, none⟩, 2, 2⟩ [(lsBits, 8), (lsRuns, 1)] := ⟨rfl, Nat.le_refl _, hb39.cells⟩
  (first | (refine H.wg ?_; clear H; intros; rename_i w H; constructor) | refine wk ?_)
  refine (sameLosses_ref H.data (((hls.up hV6).up hV7).up hV9) hl (by decide)).use ?_
  rintro q w ⟨rfl, K⟩
  (have hKb := K.base; replace H := H.call0 K)
  rw [decide_eq_true rfl]
  (first | (refine H.wg ?_; clear H; intros; rename_i w H; constructor) | refine wk ?_)
  exact Rel.less H.sx hV2 (((((hV3.trans hV4).trans hV5).trans hV6).trans hV7).trans hV9)
end
end Go.Proofs.YtgnaojphgdaalaaGreat
