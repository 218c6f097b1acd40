/-
  Files of tables: suitable, find.
-/
import Derived.Test.YtkfcdjomkcmkeaaGreatDoorTblB
namespace Go.Proofs.YtkfcdjomkcmkeaaGreatDoor
open Go Go.RowKit

theorem tblFrom_hit {l : List UInt8} {x : List (List Cel) × Bool} : ∀ {n i : Nat}, n ≤ 6 → 6 - n ≤ i → i < 6 → (∀ j, 6 - n ≤ j → j < i → tblOne j l = none) → tblOne i l = some x → tblFrom l n = some (i, x)
  | 0, i, _, h1, h2, _, _ => by omega
  | n + 1, i, hn, h1, h2, h3, h4 => by
    unfold tblFrom
    by_cases e : i = 5 - n
    · rw [← e, h4]
    · rw [h3 (5 - n) (by omega) (by omega)]
      exact tblFrom_hit (by omega) (by omega) h2 (fun j h5 h6 => h3 j (by omega) h6) h4
theorem tblFrom_no {l : List UInt8} : ∀ {n : Nat}, n ≤ 6 → (∀ j, 6 - n ≤ j → j < 6 → tblOne j l = none) → tblFrom l n = none
  | 0, _, _ => rfl
  | n + 1, hn, h => by
    unfold tblFrom
    rw [h (5 - n) (by omega) (by omega)]
    exact tblFrom_no (by omega) fun j h1 h2 => h j (by omega) h2
section
variable {V W : World}
theorem suitable_tbl (hV : Sub V W) (n : Nat) (k o : Bool) {rs qs : Sl} {R : List (List Cel)} (hs : TblAt V rs (tblOf R)) (hl : R.length ≤ 100000) : Ret Tryz.prog 38 [.agg (fileC n k rs qs o).toArray].toArray W fun v w' => v = .bool (suitT k R o) ∧ Rel W V [] V w' := by
  have H := Rel.start hV
  have hlen := hs.len
  rw [List.length_map] at hlen
  refine cal_of_vc tabOk Tryz.func38 rfl (by kernel_rfl) 32 rfl (by simp) [0, 1, 2] ?_
  cases R with
  | nil =>
    have hl0 : rs.len = 0 := hlen
    rw [show suitT k [] o = false by simp [suitT]]
    clear hl hs hlen
    (first | (refine H.wh ?_; clear H; intros; rename_i w H; constructor) | refine wk ?_)
    ((first | refine Rel.nwD H ?_ | refine Rel.nw H ?_); clear H; intro w b1 H)
    (conv => whnf)
    refine H.ce ?_
    (conv => whnf)
    refine cF ?_
    (conv => whnf)
    exact ⟨rfl, H.sx⟩
  | cons r R =>
    rw [List.length_cons] at hlen hl
    obtain ⟨xs, h1, h2⟩ := hs
    have h2l := h2.len
    rw [List.length_map, List.length_cons] at h2l
    obtain ⟨p0, c0⟩ := h1.at1 (g := fun x : Sl => x.v) (fun _ => rfl) (i := 0) (by omega)
    obtain ⟨gs, g1, g2⟩ := h2.all 0 (xs[0]'(by omega)) (r.map Prod.fst) (List.getElem?_eq_getElem _) rfl
    have g1l := g1.len
    have g2l := g2.len
    rw [List.length_map] at g2l
    obtain ⟨x, hx⟩ : ∃ x, x = xs[0]'(by omega) := ⟨_, rfl⟩
    rw [← hx] at c0 g1l
    have e : suitT k (r :: R) o = (decide (2 ≤ r.length) && (!k || decide (1 < (r :: R).length) || !o)) := by simp [suitT]
    rw [e, List.length_cons]
    by_cases hr : 2 ≤ r.length
    · rw [decide_eq_true hr, Bool.true_and]
      cases k with
      | false =>
        (first | (refine H.wh ?_; clear H; intros; rename_i w H; constructor) | refine wk ?_)
        ((first | refine Rel.nwD H ?_ | refine Rel.nw H ?_); clear H; intro w b1 H)
        (first | (refine H.wg ?_; clear H; intros; rename_i w H; constructor) | refine wk ?_)
        first | exact H.sx | exact ⟨rfl, H.sx⟩
      | true =>
        by_cases hR : 1 < R.length + 1
        · rw [decide_eq_true hR]
          (first | (refine H.wh ?_; clear H; intros; rename_i w H; constructor) | refine wk ?_)
          ((first | refine Rel.nwD H ?_ | refine Rel.nw H ?_); clear H; intro w b1 H)
          (first | (refine H.wg ?_; clear H; intros; rename_i w H; constructor) | refine wk ?_)
          first | exact H.sx | exact ⟨rfl, H.sx⟩
        · rw [decide_eq_false hR]
          cases o with
          | true =>
            (first | (refine H.wh ?_; clear H; intros; rename_i w H; constructor) | refine wk ?_)
            ((first | refine Rel.nwD H ?_ | refine Rel.nw H ?_); clear H; intro w b1 H)
            (first | (refine H.wg ?_; clear H; intros; rename_i w H; constructor) | refine wk ?_)
            first | exact H.sx | exact ⟨rfl, H.sx⟩
          | false =>
            (first | (refine H.wh ?_; clear H; intros; rename_i w H; constructor) | refine wk ?_)
            ((first | refine Rel.nwD H ?_ | refine Rel.nw H ?_); clear H; intro w b1 H)
            (first | (refine H.wg ?_; clear H; intros; rename_i w H; constructor) | refine wk ?_)
            first | exact H.sx | exact ⟨rfl, H.sx⟩
    · rw [decide_eq_false hr, Bool.false_and]
      (first | (refine H.wh ?_; clear H; intros; rename_i w H; constructor) | refine wk ?_)
      ((first | refine Rel.nwD H ?_ | refine Rel.nw H ?_); clear H; intro w b1 H)
      (first | (refine H.wg ?_; clear H; intros; rename_i w H; constructor) | refine wk ?_)
      first | exact H.sx | exact ⟨rfl, H.sx⟩
/-- what find returns -/
structure FindH (W V : World) (x : Option (Nat × List (List Cel) × Bool)) (v : Value) (w' : World) : Prop where
  ex : ∃ (V' : World) (m : Nat) (j : Bool) (rs qs : Sl) (o g : Bool), Sub V V' ∧ Rel W V [] V' w' ∧ v = .tuple #[.agg (fileC m j rs qs o).toArray, .bool g] ∧ (match x with
    | none => g = false ∧ rs = ⟨none, 0, 0⟩
    | some y => g = true ∧ m = y.1 / 2 ∧ j = crT y.1 ∧ o = y.2.2 ∧ TblAt V' rs (tblOf y.2.1) ∧ SlF itC V' qs (nz (qn (sepB (y.1 / 2)) 0 y.2.1.flatten)))
set_option maxRecDepth 100000 in
set_option maxHeartbeats 2000000 in
theorem find_tbl (hV : Sub V W) (hT : Tabs V) (hM : MaxB V) {s : Sl} {l : List UInt8} (hs : Byt V s l) (hl : l.length ≤ 1000) : Ret Tryz.prog 17 [s.v].toArray W (FindH W V (tblFind l)) := by
  have H := Rel.start hV
  refine cal_of_vc tabOk Tryz.func17 rfl (by kernel_rfl) 35 rfl (by simp) [0, 2, 3, 4, 6, 7, 8, 9, 10, 12, 13, 14, 15, 30] ?_
  (first | (refine H.wh ?_; clear H; intros; rename_i w H; constructor) | refine wk ?_)
  ((first | refine Rel.nwD H ?_ | refine Rel.nw H ?_); clear H; intro w b2 H)
  (first | (refine H.wg ?_; clear H; intros; rename_i w H; constructor) | refine wk ?_)
  refine loop_inv (S := Nat) tabOk [0, 2] (fun sp => [(9, iv sp)]) (fun sp w' => sp ≤ 3 ∧ (∀ j, j < 2 * sp → tblOne j l = none) ∧ ∃ V2, Sub V V2 ∧ Rel W V [.blk b2 (fileC 0 false ⟨none, 0, 0⟩ ⟨none, 0, 0⟩ false) 52] V2 w') (fun sp _ => 3 - sp) 0 ?_
  (conv => whnf)
  refine ⟨(by repeat (first | exact trivial | refine ⟨rfl, ?_⟩)), ⟨by omega, fun j h => by omega, V, Sub.refl _, H⟩, ?_⟩
  clear H
  rintro sp w ⟨hsp3, hno, V2, hV2, H⟩
  by_cases hsp : sp < 3
  rotate_left
  · have e : tblFind l = none := tblFrom_no (Nat.le_refl _) fun j _ h => hno j (by omega)
    rw [e]
    (first | (refine H.wg ?_; clear H; intros; rename_i w H; constructor) | refine wk ?_)
    exact ⟨V2, 0, false, ⟨none, 0, 0⟩, ⟨none, 0, 0⟩, false, false, hV2, H.sx, rfl, rfl, rfl⟩
  (first | (refine H.wh ?_; clear H; intros; rename_i w H; constructor) | refine wk ?_)
  ((first | refine Rel.nwD H ?_ | refine Rel.nw H ?_); clear H; intro w b12 H)
  obtain ⟨V4, hV4, H2, hb⟩ := H.freezeBlk
  clear H
  have H := H2
  clear H2
  have hB : ∀ {V' : World}, Sub V4 V' → Blk V' b12 [.bool false, .bool true] 4 := fun h => h.cel _ _ _ _ hb
  (first | (refine H.wg ?_; clear H; intros; rename_i w H; constructor) | refine wk ?_)
  refine loop_inv (S := Nat) tabOk [0, 2, 4, 9, 10, 12, 13] (fun j => [(14, iv j)]) (fun j w' => j ≤ 2 ∧ (∀ i, i < 2 * sp + j → tblOne i l = none) ∧ ∃ V2, Sub V V2 ∧ Sub V4 V2 ∧ Rel W V [.blk b2 (fileC 0 false ⟨none, 0, 0⟩ ⟨none, 0, 0⟩ false) 52] V2 w') (fun j _ => 2 - j) 0 ?_
  (conv => whnf)
  refine ⟨(by repeat (first | exact trivial | refine ⟨rfl, ?_⟩)), ⟨by omega, fun i h => hno i (by omega), V4, hV2.trans hV4, Sub.refl _, H⟩, ?_⟩
  clear H hV2 hno hV4 V2
  rintro j w ⟨hj, hno, V2, hV2, hV42, H⟩
  have hb2 := hB hV42
  have cb0 := hb2.cel (i := 0) rfl
  have cb1 := hb2.cel (i := 1) rfl
  obtain rfl | rfl | rfl : j = 0 ∨ j = 1 ∨ j = 2 := by omega
  · have d2 : (2 * sp) / 2 = sp := by omega
    have d3 : crT (2 * sp) = false := by unfold crT; exact decide_eq_false (by omega)
    (first | (refine H.wg ?_; clear H; intros; rename_i w H; constructor) | refine wk ?_)
    refine (read_tbl H.data (tabs_up' hT hV2) (hM.up hV2) (n := sp) hsp false (hs.up hV2) hl).use ?_
    rintro v w ⟨V3, m, jj, rs, qs, o, g, hV3, K, rfl, hres⟩
    (have hKb := K.base; replace H := Rel.call H K)
    simp only [List.nil_append] at H
    have hV23 := hV2.trans hV3
    (first | (refine H.wh ?_; clear H; intros; rename_i w H; constructor) | refine wk ?_)
    ((first | refine Rel.nwD H ?_ | refine Rel.nw H ?_); clear H; intro w b7 H)
    cases hr : rdFile (sepB sp) (tEnd false) l with
    | none =>
      rw [hr] at hres
      obtain rfl := hres
      have hone : tblOne (2 * sp) l = none := by unfold tblOne; rw [d2, d3, hr]
      (first | (refine H.wg ?_; clear H; intros; rename_i w H; constructor) | refine wk ?_)
      exact ⟨(by repeat (first | exact trivial | refine ⟨rfl, ?_⟩)), 1, (by repeat (first | exact trivial | refine ⟨rfl, ?_⟩)), ⟨by omega, fun i h => if e : i = 2 * sp then e ▸ hone else hno i (by omega), V3, hV23, hV42.trans hV3, H.sx⟩, by omega⟩
    | some y =>
      obtain ⟨R, op⟩ := y
      rw [hr] at hres
      obtain ⟨rfl, hm, rfl, rfl, hrs, hqs⟩ := hres
      obtain rfl : sp = m := hm.symm
      obtain ⟨q1, q2, q3⟩ := fileB_len (s := sepB sp) (tEnd_ne false) o R
      rw [← (rdFile_some hr).1] at q1 q3
      (first | (refine H.wg ?_; clear H; intros; rename_i w H; constructor) | refine wk ?_)
      refine (suitable_tbl H.data sp false o (qs := qs) hrs (by omega)).use ?_
      rintro v w ⟨rfl, K⟩
      (have hKb := K.base; replace H := Rel.call H K)
      simp only [List.nil_append] at H
      cases hsu : suitT false R o with
      | true =>
        have hone : tblOne (2 * sp) l = some (R, o) := by unfold tblOne; rw [d2, d3, hr]; simp only; rw [if_pos hsu]
        have e : tblFind l = some (2 * sp, R, o) := tblFrom_hit (by omega) (by omega) (by omega) (fun j _ h => hno j (by omega)) hone
        rw [e]
        (first | (refine H.wg ?_; clear H; intros; rename_i w H; constructor) | refine wk ?_)
        exact ⟨V3, sp, false, rs, qs, o, true, hV23, H.sx, rfl, rfl, by rw [d2], by rw [d3], rfl, hrs, by rw [d2]; exact hqs⟩
      | false =>
        have hone : tblOne (2 * sp) l = none := by unfold tblOne; rw [d2, d3, hr]; simp only; rw [if_neg (by rw [hsu]; decide)]
        (first | (refine H.wg ?_; clear H; intros; rename_i w H; constructor) | refine wk ?_)
        exact ⟨(by repeat (first | exact trivial | refine ⟨rfl, ?_⟩)), 1, (by repeat (first | exact trivial | refine ⟨rfl, ?_⟩)), ⟨by omega, fun i h => if e : i = 2 * sp then e ▸ hone else hno i (by omega), V3, hV23, hV42.trans hV3, H.sx⟩, by omega⟩
  · have d2 : (2 * sp + 1) / 2 = sp := by omega
    have d3 : crT (2 * sp + 1) = true := by unfold crT; exact decide_eq_true (by omega)
    (first | (refine H.wg ?_; clear H; intros; rename_i w H; constructor) | refine wk ?_)
    refine (read_tbl H.data (tabs_up' hT hV2) (hM.up hV2) (n := sp) hsp true (hs.up hV2) hl).use ?_
    rintro v w ⟨V3, m, jj, rs, qs, o, g, hV3, K, rfl, hres⟩
    (have hKb := K.base; replace H := Rel.call H K)
    simp only [List.nil_append] at H
    have hV23 := hV2.trans hV3
    (first | (refine H.wh ?_; clear H; intros; rename_i w H; constructor) | refine wk ?_)
    ((first | refine Rel.nwD H ?_ | refine Rel.nw H ?_); clear H; intro w b7 H)
    cases hr : rdFile (sepB sp) (tEnd true) l with
    | none =>
      rw [hr] at hres
      obtain rfl := hres
      have hone : tblOne (2 * sp + 1) l = none := by unfold tblOne; rw [d2, d3, hr]
      (first | (refine H.wg ?_; clear H; intros; rename_i w H; constructor) | refine wk ?_)
      exact ⟨(by repeat (first | exact trivial | refine ⟨rfl, ?_⟩)), 2, (by repeat (first | exact trivial | refine ⟨rfl, ?_⟩)), ⟨by omega, fun i h => if e : i = 2 * sp + 1 then e ▸ hone else hno i (by omega), V3, hV23, hV42.trans hV3, H.sx⟩, by omega⟩
    | some y =>
      obtain ⟨R, op⟩ := y
      rw [hr] at hres
      obtain ⟨rfl, hm, rfl, rfl, hrs, hqs⟩ := hres
      obtain rfl : sp = m := hm.symm
      obtain ⟨q1, q2, q3⟩ := fileB_len (s := sepB sp) (tEnd_ne true) o R
      rw [← (rdFile_some hr).1] at q1 q3
      (first | (refine H.wg ?_; clear H; intros; rename_i w H; constructor) | refine wk ?_)
      refine (suitable_tbl H.data sp true o (qs := qs) hrs (by omega)).use ?_
      rintro v w ⟨rfl, K⟩
      (have hKb := K.base; replace H := Rel.call H K)
      simp only [List.nil_append] at H
      cases hsu : suitT true R o with
      | true =>
        have hone : tblOne (2 * sp + 1) l = some (R, o) := by unfold tblOne; rw [d2, d3, hr]; simp only; rw [if_pos hsu]
        have e : tblFind l = some (2 * sp + 1, R, o) := tblFrom_hit (by omega) (by omega) (by omega) (fun j _ h => hno j (by omega)) hone
        rw [e]
        (first | (refine H.wg ?_; clear H; intros; rename_i w H; constructor) | refine wk ?_)
        exact ⟨V3, sp, true, rs, qs, o, true, hV23, H.sx, rfl, rfl, by rw [d2], by rw [d3], rfl, hrs, by rw [d2]; exact hqs⟩
      | false =>
        have hone : tblOne (2 * sp + 1) l = none := by unfold tblOne; rw [d2, d3, hr]; simp only; rw [if_neg (by rw [hsu]; decide)]
        (first | (refine H.wg ?_; clear H; intros; rename_i w H; constructor) | refine wk ?_)
        exact ⟨(by repeat (first | exact trivial | refine ⟨rfl, ?_⟩)), 2, (by repeat (first | exact trivial | refine ⟨rfl, ?_⟩)), ⟨by omega, fun i h => if e : i = 2 * sp + 1 then e ▸ hone else hno i (by omega), V3, hV23, hV42.trans hV3, H.sx⟩, by omega⟩
  · (first | (refine H.wg ?_; clear H; intros; rename_i w H; constructor) | refine wk ?_)
    exact ⟨(by repeat (first | exact trivial | refine ⟨rfl, ?_⟩)), sp + 1, (by repeat (first | exact trivial | refine ⟨rfl, ?_⟩)), ⟨by omega, fun i h => hno i (by omega), V2, hV2, H.sx⟩, by omega⟩
end
end Go.Proofs.YtkfcdjomkcmkeaaGreatDoor
