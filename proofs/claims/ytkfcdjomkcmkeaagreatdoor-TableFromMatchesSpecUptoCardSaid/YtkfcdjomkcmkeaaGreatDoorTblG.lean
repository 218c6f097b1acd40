/-
  Files of tables, the reference: PlainTable, TableGood, TableLosses.
-/
import Derived.Test.YtkfcdjomkcmkeaaGreatDoorTblD
import Derived.Test.YtkfcdjomkcmkeaaGreatDoorTblN
import Derived.Test.YtkfcdjomkcmkeaaGreatDoorLibE
namespace Go.Proofs.YtkfcdjomkcmkeaaGreatDoor
open Go Go.RowKit

section
variable {V W : World}
set_option maxRecDepth 100000 in
set_option maxHeartbeats 2000000 in
theorem plainTable_ref (hV : Sub V W) {rs : Sl} {T : Tbl} (hs : TblAt V rs T) (hl : T.length ≤ 100000) (hrl : ∀ r ∈ T, r.length ≤ 100000) : Ret Tryz.prog 15 [rs.v].toArray W fun v w' => ∃ (V' : World) (h : VH), Sub V V' ∧ Rel W V [] V' w' ∧ v = valV h ∧ ValAt V' h (tblVal T) := by
  have H := Rel.start hV
  have hlen := hs.len
  obtain ⟨xs, h1, h2⟩ := hs
  have h2l := h2.len
  refine cal_of_vc tabOk Tryz.func15 rfl (by kernel_rfl) 44 rfl (by simp) [0, 2, 3, 4, 5, 6, 11, 21] ?_
  (first | (refine H.wh ?_; clear H; intros; rename_i w H; constructor) | refine wk ?_)
  ((first | refine Rel.nwD H ?_ | refine Rel.nw H ?_); clear H; intro w b2 H)
  (first | (refine H.wh ?_; clear H; intros; rename_i w H; constructor) | refine wk ?_)
  ((first | refine Rel.nwD H ?_ | refine Rel.nw H ?_); clear H; intro w b3 H)
  (first | (refine H.wg ?_; clear H; intros; rename_i w H; constructor) | refine wk ?_)
  replace H := H.rowNil 27 5
  refine loop_inv (S := Nat × Sl × List VH) tabOk [0, 2, 3] (fun z => [(4, iv z.1)]) (fun z w' => z.1 ≤ T.length ∧ ∃ V2, Sub V V2 ∧ Pw RowV V2 z.2.2 (T.take z.1) ∧ Rel W V [.row z.2.1 27 5 (z.2.2.flatMap valC), .blk b3 [iv 3, iv 0, .slice none 0 0, .slice none 0 0, z.2.1.v] 27, .blk b2 (valC zeroH) 27] V2 w') (fun z _ => T.length - z.1) (0, ⟨none, 0, 0⟩, []) ?_
  (conv => whnf)
  refine ⟨(by repeat (first | exact trivial | refine ⟨rfl, ?_⟩)), ⟨by omega, V, Sub.refl _, Pw.nil, H⟩, ?_⟩
  clear H
  rintro ⟨i, pr, hh⟩ w ⟨hi, V2, hV2, hP, H⟩
  dsimp only at hi hP H ⊢
  have hPl := hP.len
  rw [List.length_take] at hPl
  by_cases hlt : i < T.length
  rotate_left
  · obtain rfl : i = T.length := by omega
    rw [List.take_length] at hP
    (first | (refine H.wg ?_; clear H; intros; rename_i w H; constructor) | refine wk ?_)
    obtain ⟨V3, hV3, H, hr⟩ := Rel.freezeF H (fun _ => rfl) (by decide)
    exact ⟨V3, ⟨3, 0, ⟨none, 0, 0⟩, ⟨none, 0, 0⟩, pr⟩, hV2.trans hV3, H.sx, rfl, tblV_at hr (hP.up rowV_up hV3)⟩
  obtain ⟨p0, c0⟩ := (h1.up hV2).at1 (g := fun x : Sl => x.v) (fun _ => rfl) (i := i) (by omega)
  obtain ⟨gs, g1, g2⟩ := h2.all i (xs[i]'(by omega)) T[i] (List.getElem?_eq_getElem _) (List.getElem?_eq_getElem _)
  have ht := List.take_succ_eq_append_getElem hlt
  obtain ⟨r, hr⟩ : ∃ r, r = T[i] := ⟨_, rfl⟩
  obtain ⟨x, hx⟩ : ∃ x, x = xs[i]'(by omega) := ⟨_, rfl⟩
  have hrl2 := hrl r (by rw [hr]; exact List.getElem_mem hlt)
  rw [← hr] at g2 ht
  rw [← hx] at c0 g1
  have g1l := g1.len
  have g2l := g2.len
  (first | (refine H.wh ?_; clear H; intros; rename_i w H; constructor) | refine wk ?_)
  ((first | refine Rel.nwD H ?_ | refine Rel.nw H ?_); clear H; intro w b5 H)
  (first | (refine H.wg ?_; clear H; intros; rename_i w H; constructor) | refine wk ?_)
  replace H := H.rowNil 27 5
  refine loop_inv (S := Nat × Sl) tabOk [0, 2, 3, 4, 5, 11] (fun z => [(6, iv z.1)]) (fun z w' => z.1 ≤ r.length ∧ Rel W V [.row z.2 27 5 (((gs.take z.1).map bytH).flatMap valC), .blk b5 [iv 3, iv 0, .slice none 0 0, .slice none 0 0, z.2.v] 27, .row pr 27 5 (hh.flatMap valC), .blk b3 [iv 3, iv 0, .slice none 0 0, .slice none 0 0, pr.v] 27, .blk b2 (valC zeroH) 27] V2 w') (fun z _ => r.length - z.1) (0, ⟨none, 0, 0⟩) ?_
  (conv => whnf)
  refine ⟨(by repeat (first | exact trivial | refine ⟨rfl, ?_⟩)), ⟨by omega, H⟩, ?_⟩
  clear H
  rintro ⟨j, p2⟩ w ⟨hj, H⟩
  dsimp only at hj H ⊢
  by_cases hjl : j < r.length
  · obtain ⟨p1, c1⟩ := (g1.up hV2).at1 (g := fun x : Sl => x.v) (fun _ => rfl) (i := j) (by omega)
    obtain ⟨g, hg⟩ : ∃ g, g = gs[j]'(by omega) := ⟨_, rfl⟩
    have hgt := List.take_succ_eq_append_getElem (l := gs) (i := j) (by omega)
    rw [← hg] at c1 hgt
    have hml : ((gs.take j).map bytH).length = j := by rw [List.length_map, List.length_take]; omega
    (first | (refine H.wg ?_; clear H; intros; rename_i w H; constructor) | refine wk ?_)
    ((first | refine draw_vc (id := 9) tabOk mixed [10] [0, 1, 2, 3, 4, 5, 6, 7, 8, 9, 10, 11, 12, 13] (by kernel_rfl) ?_); intro w hdw; replace H := Rel.ext H hdw.ext)
    (first | (refine H.wg ?_; clear H; intros; rename_i w H; constructor) | refine wk ?_)
    refine Rel.app1_0 (f := valC) (s := p2) (l := (gs.take j).map bytH) (x := bytH g) tabOk rfl rfl rfl rfl rfl (by decide) (fun _ => rfl) (by simp [Value.oneCell']) H (by rw [hml]; show (j + 1) * 88 ≤ _; omega) (by rw [hml]; omega) ?_
    clear H
    intro p3 w H
    rw [show (gs.take j).map bytH ++ [bytH g] = (gs.take (j + 1)).map bytH by rw [hgt, List.map_append]; rfl] at H
    (first | (refine H.wg ?_; clear H; intros; rename_i w H; constructor) | refine wk ?_)
    exact ⟨(by repeat (first | exact trivial | refine ⟨rfl, ?_⟩)), (j + 1, p3), (by repeat (first | exact trivial | refine ⟨rfl, ?_⟩)), ⟨by dsimp only; omega, H⟩, by dsimp only; omega⟩
  · rw [List.take_of_length_le (by omega)] at H
    obtain ⟨V3, hV3, H, hp2⟩ := Rel.freezeF H (fun _ => rfl) (by decide)
    have c2 := hV3.cell c0
    (first | (refine H.wh ?_; clear H; intros; rename_i w H; constructor) | refine wk ?_)
    ((first | refine Rel.nwD H ?_ | refine Rel.nw H ?_); clear H; intro w b40 H)
    (first | (refine H.wg ?_; clear H; intros; rename_i w H; constructor) | refine wk ?_)
    refine Rel.app1_1 (f := valC) (s := pr) (l := hh) (x := ⟨3, 0, ⟨none, 0, 0⟩, ⟨none, 0, 0⟩, p2⟩) tabOk rfl rfl rfl rfl rfl (by decide) (fun _ => rfl) (by simp [Value.oneCell']) H (by show (hh.length + 1) * 88 ≤ _; omega) (by omega) ?_
    clear H
    intro pr2 w H
    (first | (refine H.wg ?_; clear H; intros; rename_i w H; constructor) | refine wk ?_)
    refine ⟨(by repeat (first | exact trivial | refine ⟨rfl, ?_⟩)), (i + 1, pr2, hh ++ [⟨3, 0, ⟨none, 0, 0⟩, ⟨none, 0, 0⟩, p2⟩]), (by repeat (first | exact trivial | refine ⟨rfl, ?_⟩)), ⟨by dsimp only; omega, V3, hV2.trans hV3, ?_, H.sx⟩, by dsimp only; omega⟩
    dsimp only
    rw [ht]
    exact (hP.up rowV_up hV3).snoc (rowV_at hp2 (g2.up (fun _ _ _ _ k h => h.up k) (hV2.trans hV3)))
set_option maxRecDepth 100000 in
set_option maxHeartbeats 2000000 in
theorem tblGood_g (hV : Sub V W) {s : Sl} {b : List UInt8} (hs : Byt V s b) (hl : b.length ≤ 1099511620000) : Ret Tryz.prog 33 [s.v].toArray W fun q w' => q = .bool (tblLoss b).isSome ∧ Rel W V [] V w' := by
  have H := Rel.start hV
  have hlen := hs.len
  rw [show (tblLoss b).isSome = (tblRd b).isSome by unfold tblLoss; cases tblRd b <;> rfl]
  refine cal_of_vc tabOk Tryz.func33 rfl (by kernel_rfl) 60 rfl (by simp) [0, 2, 3, 4, 5, 6, 9, 31, 35, 59] ?_
  by_cases h0 : b.length = 0
  · rw [show b = [] from List.eq_nil_of_length_eq_zero h0, tblRd_nil]
    (first | (refine H.wg ?_; clear H; intros; rename_i w H; constructor) | refine wk ?_)
    first | exact H.sx | exact ⟨rfl, H.sx⟩
  have hb : b ≠ [] := fun h => h0 (by rw [h]; rfl)
  have hrd : tblRd b = match tRaw b with
    | none => none
    | some (c, z) => if (0 ≤ c ∧ c < 12) ∧ ¬ (c = 0 ∧ z = []) ∧ okT z then some (c.toNat, z.map Int.toNat) else none := by
    unfold tblRd
    rw [if_neg hb]
    cases tRaw b <;> rfl
  (first | (refine H.wg ?_; clear H; intros; rename_i w H; constructor) | refine wk ?_)
  refine (numbersOf_ref H.data hs (by omega)).use ?_
  rintro q w ⟨V2, r, c, z, k, hV2, K, rfl, hc64, hz, hzl, hres⟩
  (have hKb := K.base; replace H := Rel.call H K)
  simp only [List.nil_append] at H
  have hzn := hz.len
  obtain ⟨hc1, hc2⟩ := hc64
  cases hra : tRaw b with
  | none =>
    rw [hra] at hres hrd
    obtain rfl := hres
    rw [hrd]
    (first | (refine H.wg ?_; clear H; intros; rename_i w H; constructor) | refine wk ?_)
    exact H.less (Sub.refl _) hV2
  | some y =>
    rw [hra] at hres hrd
    obtain ⟨rfl, rfl⟩ := hres
    simp only at hrd
    (first | (refine H.wg ?_; clear H; intros; rename_i w H; constructor) | refine wk ?_)
    refine (in_ref c 0 11 _).use ?_
    rintro q w' ⟨rfl, rfl⟩
    by_cases hc : 0 ≤ c ∧ c < 12
    rotate_left
    · rw [decide_eq_false (show ¬ (0 ≤ c ∧ c ≤ 11) by omega), hrd, if_neg (fun h => hc h.1)]
      (first | (refine H.wg ?_; clear H; intros; rename_i w H; constructor) | refine wk ?_)
      exact H.less (Sub.refl _) hV2
    rw [decide_eq_true (show 0 ≤ c ∧ c ≤ 11 by omega)]
    by_cases h2 : c = 0 ∧ z = []
    · rw [hrd, if_neg (fun h => h.2.1 h2)]
      have h3 : z.length = 0 := by rw [h2.2]; rfl
      obtain ⟨h4, _⟩ := h2
      (first | (refine H.wg ?_; clear H; intros; rename_i w H; constructor) | refine wk ?_)
      exact H.less (Sub.refl _) hV2
    have hnn : c = 0 → z.length ≠ 0 := fun h h3 => h2 ⟨h, List.eq_nil_of_length_eq_zero h3⟩
    have hbad : ¬ okT z → (tblRd b).isSome = false := fun h => by rw [hrd, if_neg (fun q => h q.2.2)]; rfl
    have hgood : okT z → (tblRd b).isSome = true := fun h => by rw [hrd, if_pos ⟨hc, h2, h⟩]; rfl
    by_cases h5 : c = 0
    · have h6 := hnn h5
      (first | (refine H.wg ?_; clear H; intros; rename_i w H; constructor) | refine wk ?_)
      refine loop_inv (S := Nat) tabOk [0, 3, 4, 5, 9, 31] (fun j => [(6, iv j)]) (fun j w' => j ≤ z.length ∧ okT (z.take j) ∧ Rel W V [] V2 w') (fun j _ => z.length - j) 0 ?_
      (conv => whnf)
      refine ⟨(by repeat (first | exact trivial | refine ⟨rfl, ?_⟩)), ⟨by omega, okT_nil, H⟩, ?_⟩
      clear H
      rintro j w ⟨hj, hok, H⟩
      by_cases hjl : j < z.length
      · obtain ⟨p0, c0⟩ := hz.at1 (g := iv) (fun _ => rfl) hjl
        obtain ⟨x, hx⟩ : ∃ x, x = z[j] := ⟨_, rfl⟩
        rw [← hx] at c0
        have hno : (x < 0 ∨ 1000 < x ∨ ∃ h : 0 < j, x ≤ z[j - 1]) → ¬ okT z := fun h => okT_bad hjl (by rw [← hx]; exact h)
        (first | (refine H.wg ?_; clear H; intros; rename_i w H; constructor) | refine wk ?_)
        ((first | refine draw_vc (id := 9) tabOk mixed [] [0, 1, 2, 3, 4, 5, 6, 7, 8, 9, 10, 11, 12, 13, 14, 15, 16, 17, 18, 19, 20, 21] (by kernel_rfl) ?_); intro w hdw; replace H := Rel.ext H hdw.ext)
        (first | (refine H.wg ?_; clear H; intros; rename_i w H; constructor) | refine wk ?_)
        refine (in_ref x 0 1000 _).use ?_
        rintro q w' ⟨rfl, rfl⟩
        by_cases h12 : x < 0 ∨ 1000 < x
        · rw [decide_eq_false (show ¬ (0 ≤ x ∧ x ≤ 1000) by omega), hbad (hno (by rcases h12 with h | h <;> simp [h]))]
          (first | (refine H.wg ?_; clear H; intros; rename_i w H; constructor) | refine wk ?_)
          exact H.less (Sub.refl _) hV2
        rw [decide_eq_true (show 0 ≤ x ∧ x ≤ 1000 by omega)]
        by_cases h3 : 0 < j
        · obtain ⟨_, c1⟩ := hz.at1 (g := iv) (i := j - 1) (fun _ => rfl) (by omega)
          obtain ⟨y, hy⟩ : ∃ y, y = z[j - 1]'(by omega) := ⟨_, rfl⟩
          rw [← hy, show j - 1 = (((j : Nat) : Int) - 1).toNat by omega] at c1
          by_cases h4 : x ≤ y
          · rw [hbad (hno (.inr (.inr ⟨h3, by rw [← hy]; exact h4⟩)))]
            (first | (refine H.wg ?_; clear H; intros; rename_i w H; constructor) | refine wk ?_)
            exact H.less (Sub.refl _) hV2
          · (first | (refine H.wg ?_; clear H; intros; rename_i w H; constructor) | refine wk ?_)
            exact ⟨(by repeat (first | exact trivial | refine ⟨rfl, ?_⟩)), j + 1, (by repeat (first | exact trivial | refine ⟨rfl, ?_⟩)), ⟨by omega, okT_step hjl hok (by rw [← hx]; omega) (by rw [← hx]; omega) (fun _ => by rw [← hx, ← hy]; omega), H.sx⟩, by omega⟩
        · (first | (refine H.wg ?_; clear H; intros; rename_i w H; constructor) | refine wk ?_)
          exact ⟨(by repeat (first | exact trivial | refine ⟨rfl, ?_⟩)), j + 1, (by repeat (first | exact trivial | refine ⟨rfl, ?_⟩)), ⟨by omega, okT_step hjl hok (by rw [← hx]; omega) (by rw [← hx]; omega) (fun h => absurd h h3), H.sx⟩, by omega⟩
      · rw [List.take_of_length_le (by omega)] at hok
        rw [hgood hok]
        (first | (refine H.wg ?_; clear H; intros; rename_i w H; constructor) | refine wk ?_)
        exact H.less (Sub.refl _) hV2
    · (first | (refine H.wg ?_; clear H; intros; rename_i w H; constructor) | refine wk ?_)
      refine loop_inv (S := Nat) tabOk [0, 3, 4, 5, 9, 31] (fun j => [(6, iv j)]) (fun j w' => j ≤ z.length ∧ okT (z.take j) ∧ Rel W V [] V2 w') (fun j _ => z.length - j) 0 ?_
      (conv => whnf)
      refine ⟨(by repeat (first | exact trivial | refine ⟨rfl, ?_⟩)), ⟨by omega, okT_nil, H⟩, ?_⟩
      clear H
      rintro j w ⟨hj, hok, H⟩
      by_cases hjl : j < z.length
      · obtain ⟨p0, c0⟩ := hz.at1 (g := iv) (fun _ => rfl) hjl
        obtain ⟨x, hx⟩ : ∃ x, x = z[j] := ⟨_, rfl⟩
        rw [← hx] at c0
        have hno : (x < 0 ∨ 1000 < x ∨ ∃ h : 0 < j, x ≤ z[j - 1]) → ¬ okT z := fun h => okT_bad hjl (by rw [← hx]; exact h)
        (first | (refine H.wg ?_; clear H; intros; rename_i w H; constructor) | refine wk ?_)
        ((first | refine draw_vc (id := 9) tabOk mixed [] [0, 1, 2, 3, 4, 5, 6, 7, 8, 9, 10, 11, 12, 13, 14, 15, 16, 17, 18, 19, 20, 21] (by kernel_rfl) ?_); intro w hdw; replace H := Rel.ext H hdw.ext)
        (first | (refine H.wg ?_; clear H; intros; rename_i w H; constructor) | refine wk ?_)
        refine (in_ref x 0 1000 _).use ?_
        rintro q w' ⟨rfl, rfl⟩
        by_cases h12 : x < 0 ∨ 1000 < x
        · rw [decide_eq_false (show ¬ (0 ≤ x ∧ x ≤ 1000) by omega), hbad (hno (by rcases h12 with h | h <;> simp [h]))]
          (first | (refine H.wg ?_; clear H; intros; rename_i w H; constructor) | refine wk ?_)
          exact H.less (Sub.refl _) hV2
        rw [decide_eq_true (show 0 ≤ x ∧ x ≤ 1000 by omega)]
        by_cases h3 : 0 < j
        · obtain ⟨_, c1⟩ := hz.at1 (g := iv) (i := j - 1) (fun _ => rfl) (by omega)
          obtain ⟨y, hy⟩ : ∃ y, y = z[j - 1]'(by omega) := ⟨_, rfl⟩
          rw [← hy, show j - 1 = (((j : Nat) : Int) - 1).toNat by omega] at c1
          by_cases h4 : x ≤ y
          · rw [hbad (hno (.inr (.inr ⟨h3, by rw [← hy]; exact h4⟩)))]
            (first | (refine H.wg ?_; clear H; intros; rename_i w H; constructor) | refine wk ?_)
            exact H.less (Sub.refl _) hV2
          · (first | (refine H.wg ?_; clear H; intros; rename_i w H; constructor) | refine wk ?_)
            exact ⟨(by repeat (first | exact trivial | refine ⟨rfl, ?_⟩)), j + 1, (by repeat (first | exact trivial | refine ⟨rfl, ?_⟩)), ⟨by omega, okT_step hjl hok (by rw [← hx]; omega) (by rw [← hx]; omega) (fun _ => by rw [← hx, ← hy]; omega), H.sx⟩, by omega⟩
        · (first | (refine H.wg ?_; clear H; intros; rename_i w H; constructor) | refine wk ?_)
          exact ⟨(by repeat (first | exact trivial | refine ⟨rfl, ?_⟩)), j + 1, (by repeat (first | exact trivial | refine ⟨rfl, ?_⟩)), ⟨by omega, okT_step hjl hok (by rw [← hx]; omega) (by rw [← hx]; omega) (fun h => absurd h h3), H.sx⟩, by omega⟩
      · rw [List.take_of_length_le (by omega)] at hok
        rw [hgood hok]
        (first | (refine H.wg ?_; clear H; intros; rename_i w H; constructor) | refine wk ?_)
        exact H.less (Sub.refl _) hV2
end
end Go.Proofs.YtkfcdjomkcmkeaaGreatDoor
