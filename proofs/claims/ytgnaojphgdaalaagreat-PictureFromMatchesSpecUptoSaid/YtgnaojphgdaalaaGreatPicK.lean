/-
  Pictures: the form of a palette, residues.
-/
import Derived.Test.YtgnaojphgdaalaaGreatPicJ
namespace Go.Proofs.YtgnaojphgdaalaaGreat
open Go Go.RowKit

theorem byte_cells {n : Nat} (h : n < 256) {x : Int} (hx : x = n) : [Value.int .u8 (wr .u8 x)] = [UInt8.ofNat n].flatMap byC := by
  have e1 : wr .u8 x = (n : Int) := by rw [hx]; show (n : Int) % 256 = _; omega
  have e2 : (UInt8.ofNat n).toNat = n := by rw [UInt8.toNat_ofNat']; omega
  simp only [List.flatMap_cons, List.flatMap_nil, byC, bv, List.append_nil, e1, e2]
section
variable {V W : World}
set_option maxRecDepth 100000 in
theorem form_spec (hV : Sub V W) {s : Sl} {p : List Col} (hs : Cols V s p) (hp : p.length ≤ 16) : Ret Tryz.prog 49 [s.v].toArray W fun v w' => ∃ r : Sl, v = r.v ∧ Rel W V [.row r 5 1 ((palB p).flatMap byC)] V w' := by
  have H := Rel.start hV
  have hlen := hs.len
  refine cal_of_vc tabOk Tryz.func49 rfl (by kernel_rfl) 21 rfl (by simp) [0, 2, 3, 5, 10, 11, 12, 13] ?_
  (first | (refine H.wh ?_; clear H; intros; rename_i w H; constructor) | refine wk ?_)
  ((first | refine Rel.nwD H ?_ | refine Rel.nw H ?_); clear H; intro w b9 H)
  (first | (refine H.wg ?_; clear H; intros; rename_i w H; constructor) | refine wk ?_)
  replace H := H.blkEq (byte_cells (n := p.length) (by omega) (by omega))
  replace H := H.toRow (n := 1) (e := 5) (sz := 1) rfl (by simp [maxLen])
  refine loop_inv (S := Nat × Sl) tabOk [0, 2, 10, 11] (fun k => [(3, k.2.v), (12, iv k.1)]) (fun k w' => k.1 ≤ p.length ∧ Rel W V [.row k.2 5 1 ((UInt8.ofNat p.length :: colsL (p.take k.1)).flatMap byC)] V w') (fun k _ => p.length - k.1) (0, ⟨some ⟨b9, 0, none⟩, 1, 1⟩) ?_
  (conv => whnf)
  refine ⟨(by repeat (first | exact trivial | refine ⟨rfl, ?_⟩)), ⟨by omega, H⟩, ?_⟩
  clear H
  rintro ⟨k, r⟩ w ⟨hk, H⟩
  dsimp only at hk H ⊢
  by_cases hlt : k < p.length
  · obtain ⟨hpl, g1, g2, g3⟩ := hs.at3 hlt
    (first | (refine H.wh ?_; clear H; intros; rename_i w H; constructor) | refine wk ?_)
    ((first | refine Rel.nwD H ?_ | refine Rel.nw H ?_); clear H; intro w b5 H)
    (first | (refine H.wg ?_; clear H; intros; rename_i w H; constructor) | refine wk ?_)
    obtain ⟨V2, hV2, H, hb5⟩ := H.freezeBlk
    have hx : Byt V2 ⟨some ⟨b5, 0, none⟩, 3, 3⟩ (colL p[k]) := ⟨rfl, Nat.le_refl _, hb5.cells⟩
    refine Rel.appD H (i := 0) rfl hx (by
      rw [List.length_cons, colsL_len, List.length_take]
      show _ + 3 ≤ _
      omega) ?_
    clear H
    intro r1 w H
    replace H := H.less (Sub.refl _) hV2
    simp only [List.set_cons_zero] at H
    (first | (refine H.wg ?_; clear H; intros; rename_i w H; constructor) | refine wk ?_)
    refine ⟨(by repeat (first | exact trivial | refine ⟨rfl, ?_⟩)), (k + 1, r1), (by repeat (first | exact trivial | refine ⟨rfl, ?_⟩)), ⟨by dsimp only; omega, ?_⟩, by dsimp only; omega⟩
    rw [List.take_succ_eq_append_getElem hlt]
    simp only [colsL, List.flatMap_append, List.flatMap_cons, List.flatMap_nil, List.append_nil, List.cons_append, List.append_assoc] at H ⊢
    exact H
  · rw [List.take_of_length_le (by omega)] at H
    (first | (refine H.wg ?_; clear H; intros; rename_i w H; constructor) | refine wk ?_)
    exact ⟨r, rfl, H⟩
set_option maxRecDepth 100000 in
theorem residue_spec (hV : Sub V W) {f : Nat} (hf : f < 64) {s : Sl} {p : List Col} (hs : Cols V s p) (hp : p.length ≤ 16) : Ret Tryz.prog 34 [.agg (styC f s).toArray].toArray W fun v w' => ∃ r : Sl, v = r.v ∧ Rel W V [.row r 5 1 ((picRes f p).flatMap byC)] V w' := by
  have H := Rel.start hV
  refine cal_of_vc tabOk Tryz.func34 rfl (by kernel_rfl) 22 rfl (by simp) [0, 1, 2, 3, 7] ?_
  (first | (refine H.wh ?_; clear H; intros; rename_i w H; constructor) | refine wk ?_)
  ((first | refine Rel.nwD H ?_ | refine Rel.nw H ?_); clear H; intro w b1 H)
  unfold picRes
  by_cases h48 : f = 48
  · rw [if_pos h48]
    (first | (refine H.wg ?_; clear H; intros; rename_i w H; constructor) | refine wk ?_)
    replace H := H.rowNil 5 1
    exact ⟨⟨none, 0, 0⟩, rfl, H.sx⟩
  rw [if_neg h48]
  (first | (refine H.wg ?_; clear H; intros; rename_i w H; constructor) | refine wk ?_)
  refine (indexed_spec H.data (by omega) s).use ?_
  rintro q w ⟨rfl, K⟩
  (have hKb := K.base; replace H := H.call0 K)
  unfold styB
  by_cases h32 : f < 32
  · rw [if_pos h32]
    (first | (refine H.wg ?_; clear H; intros; rename_i w H; constructor) | refine wk ?_)
    obtain ⟨V2, hV2, H, hb1⟩ := (H.sx (own' := [.blk b1 (styC f s) _])).freezeBlk
    have k0 := hb1.cel (i := 0) rfl
    have k1 := hb1.cel (i := 1) rfl
    ((first | refine draw_vcTX (id := 4) tabOk mixed (Kv V2) Kv.trans [3, 6] [1, 2, 5] [0, 1, 2, 4, 5, 3, 6, 7, 8] [(3, []), (6, []), (7, [3, 6])] (by kernel_rfl) ?_); intro w hdw; replace H := Rel.ext H hdw.ext)
    repeat' ((first | (refine H.wh ?_; clear H; intros; rename_i w H; constructor) | refine wk ?_); first | (first | refine Kv.go H ?_ | refine Kv.go2 H (by assumption) ?_ | (refine And.intro (fun w1 hkp => ?_) ?_; focus ((first | have H := Kv.in H hkp | have H := Kv.in2 H (by assumption) hkp); ((repeat ((conv => whnf); first | refine an ?_ | refine H.ce ?_ | refine H.db ?_ | refine ea ?_ | refine ol ?_ | fail | refine cT ?_ | refine cF ?_ | refine cN ?_ | refine cM ?_ | refine H.lw ?_ | refine H.ll ?_)); (conv => whnf)); all_goals (first | exact ⟨rfl, rfl⟩ | exact rfl))) | refine And.intro ?_ ?_ | ((first | refine Rel.nwD H ?_ | refine Rel.nw H ?_); clear H; intro w _ H)) | (refine (form_spec H.data (hs.up hV2) hp).use ?_; rintro q w ⟨r, rfl, K⟩; (have hKb := K.base; replace H := Rel.call H K); simp only [List.append_nil, List.cons_append, List.nil_append] at H))
    · replace H := H.front_1
      (first | (refine H.wh ?_; clear H; intros; rename_i w H; constructor) | refine wk ?_)
      replace H := H.blkEq (byte_cells (n := f) (by omega) (by omega))
      replace H := H.toRow (n := 1) (e := 5) (sz := 1) rfl (by simp [maxLen])
      replace H := H.front_1
      refine Rel.appB H (i := 0) rfl (by
        unfold palB
        simp only [List.length_cons, List.length_nil, colsL_len]
        omega) ?_
      clear H
      intro r1 w H
      replace H := H.less (Sub.refl _) hV2
      simp only [List.set_cons_zero] at H
      (first | (refine H.wh ?_; clear H; intros; rename_i w H; constructor) | refine wk ?_)
      exact ⟨r1, rfl, H⟩
    · (first | (refine H.wh ?_; clear H; intros; rename_i w H; constructor) | refine wk ?_)
      replace H := H.blkEq (byte_cells (n := f) (by omega) (by omega))
      replace H := H.toRow (n := 1) (e := 5) (sz := 1) rfl (by simp [maxLen])
      replace H := H.front_1
      refine Rel.appB H (i := 0) rfl (by
        unfold palB
        simp only [List.length_cons, List.length_nil, colsL_len]
        omega) ?_
      clear H
      intro r1 w H
      replace H := H.less (Sub.refl _) hV2
      simp only [List.set_cons_zero] at H
      (first | (refine H.wh ?_; clear H; intros; rename_i w H; constructor) | refine wk ?_)
      exact ⟨r1, rfl, H⟩
  · rw [if_neg h32]
    (first | (refine H.wg ?_; clear H; intros; rename_i w H; constructor) | refine wk ?_)
    replace H := H.blkEq (byte_cells (n := f) (by omega) (by omega))
    replace H := H.toRow (n := 1) (e := 5) (sz := 1) rfl (by simp [maxLen])
    exact ⟨_, rfl, H.sx⟩
structure StyP (W V : World) (o : Option (Nat × List Col)) (v : Value) (w' : World) : Prop where
  ex : ∃ (V' : World) (f : Nat) (r : Sl), Sub V V' ∧ Rel W V [] V' w' ∧ (match o with
    | none => v = .tuple #[.agg (styC f r).toArray, .bool false]
    | some (g, p) => v = .tuple #[.agg (styC f r).toArray, .bool true] ∧ f = g ∧ Cols V' r p)
set_option maxRecDepth 100000 in
theorem readResidue_spec (hV : Sub V W) {s : Sl} {b : List UInt8} (hs : Byt V s b) (hl : b.length ≤ 1000000000) : Ret Tryz.prog 19 [s.v].toArray W (StyP W V (picRd b)) := by
  have H := Rel.start hV
  have hlen := hs.len
  refine cal_of_vc tabOk Tryz.func19 rfl (by kernel_rfl) 46 rfl (by simp) [0, 2, 3, 4, 5, 6, 9, 26, 29, 40] ?_
  (first | (refine H.wh ?_; clear H; intros; rename_i w H; constructor) | refine wk ?_)
  ((first | refine Rel.nwD H ?_ | refine Rel.nw H ?_); clear H; intro w b2 H)
  cases b with
  | nil =>
    rw [List.length_nil] at hlen
    (first | (refine H.wg ?_; clear H; intros; rename_i w H; constructor) | refine wk ?_)
    exact ⟨V, 48, ⟨none, 0, 0⟩, Sub.refl _, H.sx, rfl, rfl, SlF.nil _ _⟩
  | cons c l =>
    obtain ⟨p0, c0⟩ := hs.at1 (g := bv) (fun _ => rfl) (show 0 < (c :: l).length by simp)
    rw [List.getElem_cons_zero] at c0
    rw [List.length_cons] at hlen hl
    have hc256 := c.toNat_lt
    have ht := hs.rest (k := 1) (by simp)
    rw [List.drop_one, List.tail_cons] at ht
    have htl := ht.len
    (first | (refine H.wh ?_; clear H; intros; rename_i w H; constructor) | refine wk ?_)
    ((first | refine Rel.nwD H ?_ | refine Rel.nw H ?_); clear H; intro w b4 H)
    (first | (refine H.wg ?_; clear H; intros; rename_i w H; constructor) | refine wk ?_)
    refine (validFlags_spec c.toNat w hc256).use ?_
    rintro v w' ⟨rfl, rfl⟩
    by_cases hfo : c.toNat < 64 ∧ c.toNat % 16 < 4
    rotate_left
    · have e : picRd (c :: l) = none := by unfold picRd; simp only; rw [if_neg (fun h => hfo h.1)]
      rw [e, decide_eq_false hfo]
      (first | (refine H.wg ?_; clear H; intros; rename_i w H; constructor) | refine wk ?_)
      exact ⟨V, 0, ⟨none, 0, 0⟩, Sub.refl _, H.sx, rfl⟩
    rw [decide_eq_true hfo]
    by_cases h48 : c.toNat = 48
    · have e : picRd (c :: l) = none := by unfold picRd; simp only; rw [if_neg (fun h => h.2 h48)]
      rw [e]
      (first | (refine H.wg ?_; clear H; intros; rename_i w H; constructor) | refine wk ?_)
      exact ⟨V, 0, ⟨none, 0, 0⟩, Sub.refl _, H.sx, rfl⟩
    have er : picRd (c :: l) = match styR c.toNat l with
      | some (p, []) => some (c.toNat, p)
      | _ => none := by
        unfold picRd
        simp only
        rw [if_pos ⟨hfo, h48⟩]
        rfl
    (first | (refine H.wg ?_; clear H; intros; rename_i w H; constructor) | refine wk ?_)
    refine (indexed_spec H.data hc256 ⟨none, 0, 0⟩).use ?_
    rintro q w ⟨rfl, K⟩
    (have hKb := K.base; replace H := H.call0 K)
    by_cases h32 : c.toNat < 32
    · rw [decide_eq_true h32]
      (first | (refine H.wg ?_; clear H; intros; rename_i w H; constructor) | refine wk ?_)
      refine (depth_spec H.data hc256 ⟨none, 0, 0⟩).use ?_
      rintro q w ⟨rfl, K⟩
      (have hKb := K.base; replace H := H.call0 K)
      (first | (refine H.wg ?_; clear H; intros; rename_i w H; constructor) | refine wk ?_)
      refine (readPalette_spec H.data ht (by omega) h32).use ?_
      rintro q w ⟨V2, r, t, hV2, K, hk⟩
      (have hKb := K.base; replace H := H.call0 K)
      unfold styR at er
      rw [if_pos h32] at er
      cases hp : palR c.toNat l with
      | none =>
        rw [hp] at hk er
        obtain rfl := hk
        rw [er]
        (first | (refine H.wg ?_; clear H; intros; rename_i w H; constructor) | refine wk ?_)
        exact ⟨V2, 0, ⟨none, 0, 0⟩, hV2, H.sx, rfl⟩
      | some y =>
        obtain ⟨p, l2⟩ := y
        rw [hp] at hk er
        obtain ⟨rfl, hr, ht2⟩ := hk
        have ht2l := ht2.len
        rw [er]
        cases l2 with
        | nil =>
          rw [List.length_nil] at ht2l
          (first | (refine H.wg ?_; clear H; intros; rename_i w H; constructor) | refine wk ?_)
          exact ⟨V2, c.toNat, r, hV2, H.sx, congrArg (fun b => Value.tuple #[.agg (styC c.toNat r).toArray, .bool b]) (decide_eq_true (by omega)), rfl, hr⟩
        | cons y l2 =>
          rw [List.length_cons] at ht2l
          (first | (refine H.wg ?_; clear H; intros; rename_i w H; constructor) | refine wk ?_)
          exact ⟨V2, c.toNat, r, hV2, H.sx, congrArg (fun b => Value.tuple #[.agg (styC c.toNat r).toArray, .bool b]) (decide_eq_false (by omega))⟩
    · rw [decide_eq_false h32]
      unfold styR at er
      rw [if_neg h32] at er
      rw [er]
      cases l with
      | nil =>
        rw [List.length_nil] at hlen
        (first | (refine H.wg ?_; clear H; intros; rename_i w H; constructor) | refine wk ?_)
        exact ⟨V, c.toNat, ⟨none, 0, 0⟩, Sub.refl _, H.sx, congrArg (fun b => Value.tuple #[.agg (styC c.toNat ⟨none, 0, 0⟩).toArray, .bool b]) (decide_eq_true (by omega)), rfl, SlF.nil _ _⟩
      | cons y l2 =>
        rw [List.length_cons] at hlen
        (first | (refine H.wg ?_; clear H; intros; rename_i w H; constructor) | refine wk ?_)
        exact ⟨V, c.toNat, ⟨none, 0, 0⟩, Sub.refl _, H.sx, congrArg (fun b => Value.tuple #[.agg (styC c.toNat ⟨none, 0, 0⟩).toArray, .bool b]) (decide_eq_false (by omega))⟩
end
end Go.Proofs.YtgnaojphgdaalaaGreat
