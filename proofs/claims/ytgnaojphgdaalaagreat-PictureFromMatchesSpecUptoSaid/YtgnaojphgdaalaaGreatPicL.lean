/-
  Pictures: reading rows.
-/
import Derived.Test.YtgnaojphgdaalaaGreatPicK
namespace Go.Proofs.YtgnaojphgdaalaaGreat
open Go Go.RowKit

theorem and_15 : ∀ f : Nat, f < 256 → bitsI .and .i64 (f : Int) 15 = ((f % 16 : Nat) : Int) := by decide +kernel
theorem shr_n {x sh : Nat} {y : Int} (hy : y = sh) (h : sh ≤ 64) : (x : Int) / 2 ^ min y.toNat IntKind.i64.bits = ((x / 2 ^ sh : Nat) : Int) := by
  have e : min y.toNat IntKind.i64.bits = sh := by
    rw [hy, Int.toNat_natCast]
    show min sh 64 = sh
    omega
  rw [e, Int.natCast_ediv, Int.natCast_pow]
  rfl
structure RowP (W V : World) (o : Option (List UInt8)) (v : Value) (w' : World) : Prop where
  ex : ∃ (V' : World) (r : Sl), Sub V V' ∧ Rel W V [] V' w' ∧ (match o with
    | none => v = .tuple #[.slice none 0 0, .bool false]
    | some x => v = .tuple #[r.v, .bool true] ∧ Byt V' r x)
section
variable {V W : World}
theorem tri_cells (c : UInt8) : [bv c, bv c, bv c] = [c, c, c].flatMap byC := rfl
theorem col_byt {ps : Sl} {pal : List Col} (hp : Cols V ps pal) {k : Nat} (hk : k < pal.length) : Byt V ⟨subA (some ⟨ablk ps.a, aoff ps.a + k * 3, none⟩) 0 3 1, 3 - 0, 3 - 0⟩ (colL pal[k]) := by
  obtain ⟨q0, g1, g2, g3⟩ := hp.at3 hk
  refine ⟨rfl, Nat.le_refl _, ?_⟩
  show Cells V (subA (some ⟨ablk ps.a, aoff ps.a + k * 3, none⟩) 0 3 1) _
  have e : subA (some ⟨ablk ps.a, aoff ps.a + k * 3, none⟩) 0 3 1 = some ⟨ablk ps.a, aoff ps.a + k * 3, none⟩ := by
    unfold subA
    rw [if_neg (by decide)]
    simp [addr_add]
  rw [e]
  refine ⟨fun _ => rfl, fun j v hj => ?_⟩
  simp only [ablk, aoff]
  match j, hj with
  | 0, hj => cases hj; exact g1
  | 1, hj => cases hj; exact g2
  | 2, hj => cases hj; exact g3
  | j + 3, hj => simp at hj
set_option maxRecDepth 100000 in
theorem readRow_spec (hV : Sub V W) {f : Nat} (hf : f < 64) {ps : Sl} {pal : List Col} (hp : Cols V ps pal) (hpo : PalOk f pal) {s : Sl} {row : List UInt8} (hs : Byt V s row) {wd : Nat} (hw : wd ≤ 64) (hl : row.length = rowOf f wd) : Ret Tryz.prog 75 [.agg (styC f ps).toArray, s.v, iv (wd : Int)].toArray W (RowP W V (rowPix f pal wd row)) := by
  have H := Rel.start hV
  have hlen := hs.len
  have hb := bitsOf_le f
  have hlb : row.length ≤ 200 := by
    rw [hl]
    unfold rowOf
    have : wd * bitsOf f ≤ 64 * 24 := Nat.mul_le_mul hw hb.2
    omega
  refine cal_of_vc tabOk Tryz.func75 rfl (by kernel_rfl) 88 rfl (by simp) [0, 1, 2, 3, 6, 7, 8, 10, 11, 12, 13, 14, 16, 17, 20, 22, 23, 24, 25, 42, 43, 44, 74, 79, 80] ?_
  (first | (refine H.wh ?_; clear H; intros; rename_i w H; constructor) | refine wk ?_)
  ((first | refine Rel.nwD H ?_ | refine Rel.nw H ?_); clear H; intro w b3 H)
  (first | (refine H.wg ?_; clear H; intros; rename_i w H; constructor) | refine wk ?_)
  refine (depth_spec H.data (by omega) ps).use ?_
  rintro q w ⟨rfl, K⟩
  (have hKb := K.base; replace H := H.call0 K)
  unfold rowPix
  by_cases h3 : f / 16 = 3
  · rw [if_pos h3]
    (first | (refine H.wg ?_; clear H; intros; rename_i w H; constructor) | refine wk ?_)
    exact ⟨V, s, Sub.refl _, H.sx, rfl, hs⟩
  rw [if_neg h3]
  by_cases h2 : f / 16 = 2
  · rw [if_pos h2]
    (first | (refine H.wg ?_; clear H; intros; rename_i w H; constructor) | refine wk ?_)
    replace H := H.rowNil 5 1
    refine loop_inv (S := Nat × Sl) tabOk [0, 1, 2, 3, 6, 7, 11, 12, 13, 14, 16, 17, 20, 22, 23, 42, 43, 44, 74, 79, 80] (fun k => [(8, k.2.v), (24, iv k.1)]) (fun k w' => k.1 ≤ row.length ∧ Rel W V [.row k.2 5 1 (((row.take k.1).flatMap fun c => [c, c, c]).flatMap byC)] V w') (fun k _ => row.length - k.1) (0, ⟨none, 0, 0⟩) ?_
    (conv => whnf)
    refine ⟨(by repeat (first | exact trivial | refine ⟨rfl, ?_⟩)), ⟨by omega, H.sx⟩, ?_⟩
    clear H
    rintro ⟨k, r⟩ w ⟨hk, H⟩
    dsimp only at hk H ⊢
    by_cases hlt : k < row.length
    · obtain ⟨p0, c0⟩ := hs.at1 (g := bv) (fun _ => rfl) hlt
      (first | (refine H.wg ?_; clear H; intros; rename_i w H; constructor) | refine wk ?_)
      replace H := H.blkEq (tri_cells row[k])
      replace H := H.toRow (n := 3) (e := 5) (sz := 1) rfl (by simp [maxLen])
      have hle : ((row.take k).flatMap fun c => [c, c, c]).length ≤ 600 := by
        rw [flat_map3, colsL_len, List.length_map, List.length_range, List.length_take]
        omega
      refine Rel.appB H (i := 0) rfl (by simp only [List.length_cons, List.length_nil]; omega) ?_
      clear H
      intro r1 w H
      simp only [List.set_cons_zero] at H
      (first | (refine H.wg ?_; clear H; intros; rename_i w H; constructor) | refine wk ?_)
      refine ⟨(by repeat (first | exact trivial | refine ⟨rfl, ?_⟩)), (k + 1, r1), (by repeat (first | exact trivial | refine ⟨rfl, ?_⟩)), ⟨by dsimp only; omega, ?_⟩, by dsimp only; omega⟩
      rw [List.take_succ_eq_append_getElem hlt, List.flatMap_append]
      exact H
    · rw [List.take_of_length_le (by omega)] at H
      obtain ⟨V2, hV2, H, hr⟩ := Rel.freezeF H (fun _ => rfl) (by decide)
      (first | (refine H.wg ?_; clear H; intros; rename_i w H; constructor) | refine wk ?_)
      exact ⟨V2, r, hV2, H.sx, rfl, hr⟩
  rw [if_neg h2]
  obtain ⟨hn, h32, hm⟩ := bits_small hf h3 h2
  obtain ⟨pp1, pp2, pp3⟩ := hpo.ind h32
  have hpl := hp.len
  (first | (refine H.wg ?_; clear H; intros; rename_i w H; constructor) | refine wk ?_)
  refine (bits_spec H.data hf ps).use ?_
  rintro q w ⟨rfl, K⟩
  (have hKb := K.base; replace H := H.call0 K)
  have hm2 := mostP_le f
  unfold rowOf at hl
  rcases hn with e | e
  · rw [e] at hl ⊢
    (first | (refine H.wg ?_; clear H; intros; rename_i w H; constructor) | refine wk ?_)
    replace H := H.rowNil 5 1
    refine loop_inv (S := Nat × Sl) tabOk [0, 1, 2, 3, 10, 11, 16, 17, 20, 22, 23, 24, 25, 42] (fun k => [(8, k.2.v), (43, iv k.1)]) (fun k w' => k.1 ≤ 8 * row.length / 1 ∧ (∀ j, j < k.1 → j < wd → fieldAt 1 row j < pal.length) ∧ (∀ j, j < k.1 → wd ≤ j → fieldAt 1 row j = 0) ∧ Rel W V [.row k.2 5 1 ((colsL ((List.range (min k.1 wd)).map (pixAt 1 pal row))).flatMap byC), .blk b3 (styC f ps) 53] V w') (fun k _ => 8 * row.length / 1 - k.1) (0, ⟨none, 0, 0⟩) ?_
    (conv => whnf)
    refine ⟨(by repeat (first | exact trivial | refine ⟨rfl, ?_⟩)), ⟨by omega, fun j hj => by omega, fun j hj => by omega, by simpa using H⟩, ?_⟩
    clear H
    rintro ⟨i, r⟩ w ⟨hi, hA, hB, H⟩
    dsimp only at hi hA hB H ⊢
    by_cases hlt : i < 8 * row.length / 1
    · obtain ⟨p0, c0⟩ := z8_cell hs (i := i * 1 / 8) (by omega)
      have hx : (z8 row (i * 1 / 8)).toNat / 2 ^ (8 - 1 - i * 1 % 8) < 256 := Nat.lt_of_le_of_lt (Nat.div_le_self _ _) (UInt8.toNat_lt _)
      have hv : bitsI .and .i64 (((z8 row (i * 1 / 8)).toNat / 2 ^ (8 - 1 - i * 1 % 8) : Nat) : Int) (2 - 1) = ((fieldAt 1 row i : Nat) : Int) := and_1 _ hx
      (first | (refine H.wg ?_; clear H; intros; rename_i w H; constructor) | refine wk ?_)
      ((first | refine draw_vc (id := 17) tabOk mixed [] [0, 1, 2, 3, 4, 5, 6, 7, 8, 9, 10, 11, 12, 13, 14] (by kernel_rfl) ?_); intro w hdw; replace H := Rel.ext H hdw.ext)
      (first | (refine H.wg ?_; clear H; intros; rename_i w H; constructor) | refine wk ?_)
      rw [show (1 : Int) * 2 ^ min ((1 : Nat) : Int).toNat IntKind.i64.bits = 2 by decide, shr_n (sh := 8 - 1 - i * 1 % 8) (by omega) (by omega)]
      (first | (refine H.wg ?_; clear H; intros; rename_i w H; constructor) | refine wk ?_)
      rw [hv]
      have hfl := fieldAt_lt 1 row i
      obtain ⟨k, hk⟩ : ∃ k, k = fieldAt 1 row i := ⟨_, rfl⟩
      rw [← hk] at hfl ⊢
      by_cases hiw : i < wd
      · by_cases hkp : k < pal.length
        · obtain ⟨q0, g1, g2, g3⟩ := hp.at3 hkp
          have hle : (colsL ((List.range (min i wd)).map (pixAt 1 pal row))).length ≤ 300 := by
            rw [colsL_len, List.length_map, List.length_range]
            omega
          (first | (refine H.wg ?_; clear H; intros; rename_i w H; constructor) | refine wk ?_)
          refine Rel.appD (x := ⟨subA (some ⟨ablk ps.a, aoff ps.a + k * 3, none⟩) 0 3 1, 3 - 0, 3 - 0⟩) H (i := 0) rfl (col_byt hp hkp) (by simp only [List.length_cons, List.length_nil]; omega) ?_
          clear H
          intro r1 w H
          simp only [List.set_cons_zero] at H
          (first | (refine H.wg ?_; clear H; intros; rename_i w H; constructor) | refine wk ?_)
          refine ⟨(by repeat (first | exact trivial | refine ⟨rfl, ?_⟩)), (i + 1, r1), (by repeat (first | exact trivial | refine ⟨rfl, ?_⟩)), ⟨by dsimp only; omega, fun j hj hjw => ?_, fun j hj hjw => hB j (by omega) hjw, ?_⟩, by dsimp only; omega⟩
          · by_cases e2 : j = i
            · rw [e2, ← hk]
              exact hkp
            · exact hA j (by omega) hjw
          · rw [show min (i + 1) wd = min i wd + 1 by omega, List.range_succ, List.map_append, List.map_singleton, show min i wd = i by omega]
            rw [show min i wd = i by omega] at H
            have hpx : pixAt 1 pal row i = pal[k] := by
              unfold pixAt colN
              rw [← hk, List.getElem?_eq_getElem hkp]
              rfl
            rw [hpx]
            simp only [colsL, List.flatMap_append, List.flatMap_cons, List.flatMap_nil, List.append_nil] at H ⊢
            exact H
        · rw [if_neg (fun h => hkp (by rw [hk]; exact h.1 i hiw))]
          (first | (refine H.wg ?_; clear H; intros; rename_i w H; constructor) | refine wk ?_)
          exact ⟨V, ⟨none, 0, 0⟩, Sub.refl _, H.sx, rfl⟩
      · by_cases hk0 : k = 0
        · (first | (refine H.wg ?_; clear H; intros; rename_i w H; constructor) | refine wk ?_)
          refine ⟨(by repeat (first | exact trivial | refine ⟨rfl, ?_⟩)), (i + 1, r), (by repeat (first | exact trivial | refine ⟨rfl, ?_⟩)), ⟨by dsimp only; omega, fun j hj hjw => hA j (by omega) hjw, fun j hj hjw => ?_, ?_⟩, by dsimp only; omega⟩
          · by_cases e2 : j = i
            · rw [e2, ← hk, hk0]
            · exact hB j (by omega) hjw
          · rw [show min (i + 1) wd = min i wd by omega]
            exact H
        · rw [if_neg (fun h => hk0 (by rw [hk]; exact h.2 i hlt (by omega)))]
          (first | (refine H.wg ?_; clear H; intros; rename_i w H; constructor) | refine wk ?_)
          exact ⟨V, ⟨none, 0, 0⟩, Sub.refl _, H.sx, rfl⟩
    · have hok : rowOk 1 pal wd row := ⟨fun j hj => hA j (by omega) hj, fun j hj hjw => hB j (by omega) hjw⟩
      rw [if_pos hok, show min i wd = wd by omega]at *
      obtain ⟨V2, hV2, H, hr⟩ := Rel.freezeF H (fun _ => rfl) (by decide)
      (first | (refine H.wg ?_; clear H; intros; rename_i w H; constructor) | refine wk ?_)
      exact ⟨V2, r, hV2, H.sx, rfl, hr⟩
  · rw [e] at hl ⊢
    (first | (refine H.wg ?_; clear H; intros; rename_i w H; constructor) | refine wk ?_)
    replace H := H.rowNil 5 1
    refine loop_inv (S := Nat × Sl) tabOk [0, 1, 2, 3, 10, 11, 16, 17, 20, 22, 23, 24, 25, 42] (fun k => [(8, k.2.v), (43, iv k.1)]) (fun k w' => k.1 ≤ 8 * row.length / 4 ∧ (∀ j, j < k.1 → j < wd → fieldAt 4 row j < pal.length) ∧ (∀ j, j < k.1 → wd ≤ j → fieldAt 4 row j = 0) ∧ Rel W V [.row k.2 5 1 ((colsL ((List.range (min k.1 wd)).map (pixAt 4 pal row))).flatMap byC), .blk b3 (styC f ps) 53] V w') (fun k _ => 8 * row.length / 4 - k.1) (0, ⟨none, 0, 0⟩) ?_
    (conv => whnf)
    refine ⟨(by repeat (first | exact trivial | refine ⟨rfl, ?_⟩)), ⟨by omega, fun j hj => by omega, fun j hj => by omega, by simpa using H⟩, ?_⟩
    clear H
    rintro ⟨i, r⟩ w ⟨hi, hA, hB, H⟩
    dsimp only at hi hA hB H ⊢
    by_cases hlt : i < 8 * row.length / 4
    · obtain ⟨p0, c0⟩ := z8_cell hs (i := i * 4 / 8) (by omega)
      have hx : (z8 row (i * 4 / 8)).toNat / 2 ^ (8 - 4 - i * 4 % 8) < 256 := Nat.lt_of_le_of_lt (Nat.div_le_self _ _) (UInt8.toNat_lt _)
      have hv : bitsI .and .i64 (((z8 row (i * 4 / 8)).toNat / 2 ^ (8 - 4 - i * 4 % 8) : Nat) : Int) (16 - 1) = ((fieldAt 4 row i : Nat) : Int) := and_15 _ hx
      (first | (refine H.wg ?_; clear H; intros; rename_i w H; constructor) | refine wk ?_)
      ((first | refine draw_vc (id := 17) tabOk mixed [] [0, 1, 2, 3, 4, 5, 6, 7, 8, 9, 10, 11, 12, 13, 14] (by kernel_rfl) ?_); intro w hdw; replace H := Rel.ext H hdw.ext)
      (first | (refine H.wg ?_; clear H; intros; rename_i w H; constructor) | refine wk ?_)
      rw [show (1 : Int) * 2 ^ min ((4 : Nat) : Int).toNat IntKind.i64.bits = 16 by decide, shr_n (sh := 8 - 4 - i * 4 % 8) (by omega) (by omega)]
      (first | (refine H.wg ?_; clear H; intros; rename_i w H; constructor) | refine wk ?_)
      rw [hv]
      have hfl := fieldAt_lt 4 row i
      obtain ⟨k, hk⟩ : ∃ k, k = fieldAt 4 row i := ⟨_, rfl⟩
      rw [← hk] at hfl ⊢
      by_cases hiw : i < wd
      · by_cases hkp : k < pal.length
        · obtain ⟨q0, g1, g2, g3⟩ := hp.at3 hkp
          have hle : (colsL ((List.range (min i wd)).map (pixAt 4 pal row))).length ≤ 300 := by
            rw [colsL_len, List.length_map, List.length_range]
            omega
          (first | (refine H.wg ?_; clear H; intros; rename_i w H; constructor) | refine wk ?_)
          refine Rel.appD (x := ⟨subA (some ⟨ablk ps.a, aoff ps.a + k * 3, none⟩) 0 3 1, 3 - 0, 3 - 0⟩) H (i := 0) rfl (col_byt hp hkp) (by simp only [List.length_cons, List.length_nil]; omega) ?_
          clear H
          intro r1 w H
          simp only [List.set_cons_zero] at H
          (first | (refine H.wg ?_; clear H; intros; rename_i w H; constructor) | refine wk ?_)
          refine ⟨(by repeat (first | exact trivial | refine ⟨rfl, ?_⟩)), (i + 1, r1), (by repeat (first | exact trivial | refine ⟨rfl, ?_⟩)), ⟨by dsimp only; omega, fun j hj hjw => ?_, fun j hj hjw => hB j (by omega) hjw, ?_⟩, by dsimp only; omega⟩
          · by_cases e2 : j = i
            · rw [e2, ← hk]
              exact hkp
            · exact hA j (by omega) hjw
          · rw [show min (i + 1) wd = min i wd + 1 by omega, List.range_succ, List.map_append, List.map_singleton, show min i wd = i by omega]
            rw [show min i wd = i by omega] at H
            have hpx : pixAt 4 pal row i = pal[k] := by
              unfold pixAt colN
              rw [← hk, List.getElem?_eq_getElem hkp]
              rfl
            rw [hpx]
            simp only [colsL, List.flatMap_append, List.flatMap_cons, List.flatMap_nil, List.append_nil] at H ⊢
            exact H
        · rw [if_neg (fun h => hkp (by rw [hk]; exact h.1 i hiw))]
          (first | (refine H.wg ?_; clear H; intros; rename_i w H; constructor) | refine wk ?_)
          exact ⟨V, ⟨none, 0, 0⟩, Sub.refl _, H.sx, rfl⟩
      · by_cases hk0 : k = 0
        · (first | (refine H.wg ?_; clear H; intros; rename_i w H; constructor) | refine wk ?_)
          refine ⟨(by repeat (first | exact trivial | refine ⟨rfl, ?_⟩)), (i + 1, r), (by repeat (first | exact trivial | refine ⟨rfl, ?_⟩)), ⟨by dsimp only; omega, fun j hj hjw => hA j (by omega) hjw, fun j hj hjw => ?_, ?_⟩, by dsimp only; omega⟩
          · by_cases e2 : j = i
            · rw [e2, ← hk, hk0]
            · exact hB j (by omega) hjw
          · rw [show min (i + 1) wd = min i wd by omega]
            exact H
        · rw [if_neg (fun h => hk0 (by rw [hk]; exact h.2 i hlt (by omega)))]
          (first | (refine H.wg ?_; clear H; intros; rename_i w H; constructor) | refine wk ?_)
          exact ⟨V, ⟨none, 0, 0⟩, Sub.refl _, H.sx, rfl⟩
    · have hok : rowOk 4 pal wd row := ⟨fun j hj => hA j (by omega) hj, fun j hj hjw => hB j (by omega) hjw⟩
      rw [if_pos hok, show min i wd = wd by omega]at *
      obtain ⟨V2, hV2, H, hr⟩ := Rel.freezeF H (fun _ => rfl) (by decide)
      (first | (refine H.wg ?_; clear H; intros; rename_i w H; constructor) | refine wk ?_)
      exact ⟨V2, r, hV2, H.sx, rfl, hr⟩
end
end Go.Proofs.YtgnaojphgdaalaaGreat
