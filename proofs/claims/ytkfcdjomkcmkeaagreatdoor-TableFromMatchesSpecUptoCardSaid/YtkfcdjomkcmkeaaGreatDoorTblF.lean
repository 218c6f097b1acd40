/-
  Files of tables: readResidue, From, Explain.
-/
import Derived.Test.YtkfcdjomkcmkeaaGreatDoorTblE
import Derived.Test.YtkfcdjomkcmkeaaGreatDoorValQ
import Derived.Test.YtkfcdjomkcmkeaaGreatDoorLibB
namespace Go.Proofs.YtkfcdjomkcmkeaaGreatDoor
open Go Go.RowKit

structure ResH (W V : World) (o : Option (Nat × List Nat)) (v : Value) (w' : World) : Prop where
  ex : ∃ (V' : World) (n : Nat) (k : Bool) (qs : Sl) (p g : Bool), Sub V V' ∧ Rel W V [] V' w' ∧ v = .tuple #[.agg (fileC n k ⟨none, 0, 0⟩ qs p).toArray, .bool g] ∧ (match o with
    | none => g = false
    | some x => g = true ∧ n = x.1 % 3 ∧ k = decide (x.1 / 3 % 2 = 1) ∧ p = decide (6 ≤ x.1) ∧ SlF itC V' qs (nz x.2))
section
variable {V W : World}
set_option maxRecDepth 100000 in
set_option maxHeartbeats 2000000 in
theorem readResidue_tbl (hV : Sub V W) {s : Sl} {b : List UInt8} (hs : Byt V s b) (hl : b.length ≤ 1099511627776) : Ret Tryz.prog 26 [s.v].toArray W (ResH W V (tblRd b)) := by
  have H := Rel.start hV
  have hlen := hs.len
  refine cal_of_vc tabOk Tryz.func26 rfl (by kernel_rfl) 99 rfl (by simp) [0, 2, 3, 4, 5, 6, 7, 8, 9, 10, 13, 31, 57, 59, 60, 61, 62, 84] ?_
  (first | (refine H.wh ?_; clear H; intros; rename_i w H; constructor) | refine wk ?_)
  ((first | refine Rel.nwD H ?_ | refine Rel.nw H ?_); clear H; intro w b2 H)
  by_cases h0 : b.length = 0
  · have hb : b = [] := List.eq_nil_of_length_eq_zero h0
    have e : tblRd b = some (0, []) := by rw [hb]; exact tblRd_nil
    rw [e]
    (first | (refine H.wg ?_; clear H; intros; rename_i w H; constructor) | refine wk ?_)
    exact ⟨V, 0, false, ⟨none, 0, 0⟩, false, true, Sub.refl _, H.sx, rfl, rfl, rfl, rfl, rfl, SlF.nil _ _⟩
  have hb : b ≠ [] := fun h => h0 (by rw [h]; rfl)
  have hrd : tblRd b = match tRaw b with
    | none => none
    | some (c, z) => if (0 ≤ c ∧ c < 12) ∧ ¬ (c = 0 ∧ z = []) ∧ okT z then some (c.toNat, z.map Int.toNat) else none := by
    unfold tblRd
    rw [if_neg hb]
    cases tRaw b <;> rfl
  rw [hrd]
  (first | (refine H.wg ?_; clear H; intros; rename_i w H; constructor) | refine wk ?_)
  refine (readNumber_spec (p := 0) H.data hs hl (Nat.zero_le _)).use ?_
  rintro v w ⟨rfl, K⟩
  (have hKb := K.base; replace H := Rel.call H K)
  simp only [List.nil_append] at H
  cases hn : numAt b 0 with
  | bad c i =>
    have hc0 := numAt_ne hn
    have e : tRaw b = none := by unfold tRaw; rw [hn]
    rw [e]
    (first | (refine H.wh ?_; clear H; intros; rename_i w H; constructor) | refine wk ?_)
    ((first | refine Rel.nwD H ?_ | refine Rel.nw H ?_); clear H; intro w b6 H)
    (first | (refine H.wg ?_; clear H; intros; rename_i w H; constructor) | refine wk ?_)
    exact ⟨V, 0, false, ⟨none, 0, 0⟩, false, false, Sub.refl _, H.sx, rfl, rfl⟩
  | ok c q =>
    obtain ⟨g1, g2, g3, g4, g5⟩ := numAt_ok (Nat.zero_le _) hn
    have hraw : tRaw b = match listAt b (numAt b) 1000 q with
      | .bad _ _ => none
      | .ok z q => if q = b.length then some (c, z) else none := by
      unfold tRaw
      rw [hn]
      simp only
      cases listAt b (numAt b) 1000 q <;> rfl
    (first | (refine H.wh ?_; clear H; intros; rename_i w H; constructor) | refine wk ?_)
    ((first | refine Rel.nwD H ?_ | refine Rel.nw H ?_); clear H; intro w b6 H)
    by_cases hc : c < 0 ∨ 12 ≤ c
    · have e : (match tRaw b with
        | none => none
        | some (c, z) => if (0 ≤ c ∧ c < 12) ∧ ¬ (c = 0 ∧ z = []) ∧ okT z then some (c.toNat, z.map Int.toNat) else none) = none := by
        rw [hraw]
        cases listAt b (numAt b) 1000 q with
        | bad _ _ => rfl
        | ok z q' =>
          simp only
          by_cases hq : q' = b.length
          · rw [if_pos hq]; simp only; rw [if_neg (by omega)]
          · rw [if_neg hq]
      rw [e]
      by_cases hcn : c < 0
      all_goals
        (first | (refine H.wg ?_; clear H; intros; rename_i w H; constructor) | refine wk ?_)
        exact ⟨V, 0, false, ⟨none, 0, 0⟩, false, false, Sub.refl _, H.sx, rfl, rfl⟩
    obtain ⟨C, rfl⟩ : ∃ C : Nat, c = C := ⟨c.toNat, by omega⟩
    (first | (refine H.wg ?_; clear H; intros; rename_i w H; constructor) | refine wk ?_)
    refine (readSlice_ints (m := 1000) H.data hs hl g2 (by constructor <;> omega) (fun p hp V1 W1 h1 h2 => Ret.mono (readNumber_spec h2 (hs.up h1) hl hp) fun v w' ⟨hv, hR⟩ => ?_) (fun p x p' hp h => (numAt_ok hp h).2.1)).use ?_
    · cases hnp : numAt b p with
      | bad c i =>
        rw [hnp] at hv
        exact ⟨V1, 0, 0, c, i, Sub.refl _, hR, hv, rfl, rfl, numAt_ne hnp⟩
      | ok x q =>
        rw [hnp] at hv
        exact ⟨V1, x, q, 0, 0, Sub.refl _, hR, hv, rfl, rfl, rfl, rfl⟩
    rintro v w ⟨V2, x, n, c, i, hV2, K, rfl, hres⟩
    (have hKb := K.base; replace H := Rel.call H K)
    simp only [List.nil_append] at H
    cases hli : listAt b (numAt b) 1000 q with
    | bad c' i' =>
      rw [hli] at hres hraw
      obtain ⟨rfl, rfl, hc0⟩ := hres
      rw [hraw]
      (first | (refine H.wg ?_; clear H; intros; rename_i w H; constructor) | refine wk ?_)
      exact ⟨V2, 0, false, ⟨none, 0, 0⟩, false, false, hV2, H.sx, rfl, rfl⟩
    | ok z q' =>
      rw [hli] at hres hraw
      obtain ⟨rfl, rfl, rfl, hns⟩ := hres
      obtain ⟨ps, hps, hpw⟩ := hns
      obtain rfl := pw_eq hpw
      have hxl := hps.len
      have hn1000 := listAt_len hli
      simp only at hraw
      by_cases hq : q' = b.length
      rotate_left
      · rw [if_neg hq] at hraw
        rw [hraw]
        (first | (refine H.wg ?_; clear H; intros; rename_i w H; constructor) | refine wk ?_)
        exact ⟨V2, 0, false, ⟨none, 0, 0⟩, false, false, hV2, H.sx, rfl, rfl⟩
      rw [if_pos hq] at hraw
      rw [hraw]
      simp only
      by_cases h2 : C = 0 ∧ ps = []
      · rw [if_neg (fun h => h.2.1 ⟨by omega, h2.2⟩)]
        have h3 : ps.length = 0 := by rw [h2.2]; rfl
        obtain ⟨rfl, _⟩ := h2
        (first | (refine H.wg ?_; clear H; intros; rename_i w H; constructor) | refine wk ?_)
        exact ⟨V2, 0, false, ⟨none, 0, 0⟩, false, false, hV2, H.sx, rfl, rfl⟩
      have hnn : C = 0 → ps.length ≠ 0 := fun h h3 => h2 ⟨h, List.eq_nil_of_length_eq_zero h3⟩
      have hfin : (if (0 ≤ (C : Int) ∧ (C : Int) < 12) ∧ ¬ ((C : Int) = 0 ∧ ps = []) ∧ okT ps then some ((C : Int).toNat, ps.map Int.toNat) else none) = if okT ps then some (C, ps.map Int.toNat) else none := by
        by_cases hz : okT ps
        · rw [if_pos hz, if_pos ⟨by omega, fun h => h2 ⟨by omega, h.2⟩, hz⟩]; rfl
        · rw [if_neg hz, if_neg fun h => hz h.2.2]
      rw [hfin]
      by_cases hC : C = 0
      · have hnn1 := hnn hC
        (first | (refine H.wg ?_; clear H; intros; rename_i w H; constructor) | refine wk ?_)
        refine loop_inv (S := Nat) tabOk [0, 2, 4, 5, 6, 7, 10, 13, 31, 57, 59, 60] (fun j => [(61, iv j)]) (fun j w' => j ≤ ps.length ∧ okT (ps.take j) ∧ ∃ b, Rel W V [.blk b [iv 0, iv 0] 29, .blk b2 (fileC 0 false ⟨none, 0, 0⟩ ⟨none, 0, 0⟩ false) 52] V2 w') (fun j _ => ps.length - j) 0 ?_
        (conv => whnf)
        refine ⟨(by repeat (first | exact trivial | refine ⟨rfl, ?_⟩)), ⟨by omega, okT_nil, _, H⟩, ?_⟩
        clear H
        rintro j w ⟨hj, hok, b6', H⟩
        by_cases hjl : j < ps.length
        · obtain ⟨p0, c0⟩ := hps.at1 (g := iv) (fun _ => rfl) hjl
          obtain ⟨z, hz⟩ : ∃ z, z = ps[j] := ⟨_, rfl⟩
          rw [← hz] at c0
          have hno : (z < 0 ∨ 1000 < z ∨ ∃ h : 0 < j, z ≤ ps[j - 1]) → ¬ okT ps := fun h => okT_bad hjl (by rw [← hz]; exact h)
          by_cases h1 : z < 0
          · rw [if_neg (hno (.inl h1))]
            (first | (refine H.wg ?_; clear H; intros; rename_i w H; constructor) | refine wk ?_)
            exact ⟨V2, 0, false, ⟨none, 0, 0⟩, false, false, hV2, H.sx, rfl, rfl⟩
          by_cases h2 : 1000 < z
          · rw [if_neg (hno (.inr (.inl h2)))]
            (first | (refine H.wg ?_; clear H; intros; rename_i w H; constructor) | refine wk ?_)
            exact ⟨V2, 0, false, ⟨none, 0, 0⟩, false, false, hV2, H.sx, rfl, rfl⟩
          by_cases h3 : 0 < j
          · obtain ⟨_, c1⟩ := hps.at1 (g := iv) (i := j - 1) (fun _ => rfl) (by omega)
            obtain ⟨y, hy⟩ : ∃ y, y = ps[j - 1]'(by omega) := ⟨_, rfl⟩
            rw [← hy, show j - 1 = (((j : Nat) : Int) - 1).toNat by omega] at c1
            by_cases h4 : z ≤ y
            · rw [if_neg (hno (.inr (.inr ⟨h3, by rw [← hy]; exact h4⟩)))]
              (first | (refine H.wg ?_; clear H; intros; rename_i w H; constructor) | refine wk ?_)
              exact ⟨V2, 0, false, ⟨none, 0, 0⟩, false, false, hV2, H.sx, rfl, rfl⟩
            · (first | (refine H.wg ?_; clear H; intros; rename_i w H; constructor) | refine wk ?_)
              exact ⟨(by repeat (first | exact trivial | refine ⟨rfl, ?_⟩)), j + 1, (by repeat (first | exact trivial | refine ⟨rfl, ?_⟩)), ⟨by omega, okT_step hjl hok (by rw [← hz]; omega) (by rw [← hz]; omega) (fun _ => by rw [← hz, ← hy]; omega), _, H.sx⟩, by omega⟩
          · (first | (refine H.wg ?_; clear H; intros; rename_i w H; constructor) | refine wk ?_)
            exact ⟨(by repeat (first | exact trivial | refine ⟨rfl, ?_⟩)), j + 1, (by repeat (first | exact trivial | refine ⟨rfl, ?_⟩)), ⟨by omega, okT_step hjl hok (by rw [← hz]; omega) (by rw [← hz]; omega) (fun h => absurd h h3), _, H.sx⟩, by omega⟩
        · rw [List.take_of_length_le (by omega)] at hok
          rw [if_pos hok]
          have hnn : nz (ps.map Int.toNat) = ps := by
            unfold nz
            rw [List.map_map]
            conv => rhs; rw [← List.map_id ps]
            refine List.map_congr_left fun x hx => ?_
            have := (hok.1 x hx).1
            show ((x.toNat : Nat) : Int) = x
            omega
          (first | (refine H.wg ?_; clear H; intros; rename_i w H; constructor) | refine wk ?_)
          rw [show decide (((C : Nat) : Int) / 3 % 2 = 1) = decide (C / 3 % 2 = 1) from decide_eq_decide.2 (by omega), show decide (6 ≤ ((C : Nat) : Int)) = decide (6 ≤ C) from decide_eq_decide.2 (by omega)]
          exact ⟨V2, C % 3, _, x, _, true, hV2, H.sx, rfl, rfl, rfl, rfl, rfl, by rw [hnn]; exact hps⟩
      · (first | (refine H.wg ?_; clear H; intros; rename_i w H; constructor) | refine wk ?_)
        refine loop_inv (S := Nat) tabOk [0, 2, 4, 5, 6, 7, 10, 13, 31, 57, 59, 60] (fun j => [(61, iv j)]) (fun j w' => j ≤ ps.length ∧ okT (ps.take j) ∧ ∃ b, Rel W V [.blk b [iv 0, iv 0] 29, .blk b2 (fileC 0 false ⟨none, 0, 0⟩ ⟨none, 0, 0⟩ false) 52] V2 w') (fun j _ => ps.length - j) 0 ?_
        (conv => whnf)
        refine ⟨(by repeat (first | exact trivial | refine ⟨rfl, ?_⟩)), ⟨by omega, okT_nil, _, H⟩, ?_⟩
        clear H
        rintro j w ⟨hj, hok, b6', H⟩
        by_cases hjl : j < ps.length
        · obtain ⟨p0, c0⟩ := hps.at1 (g := iv) (fun _ => rfl) hjl
          obtain ⟨z, hz⟩ : ∃ z, z = ps[j] := ⟨_, rfl⟩
          rw [← hz] at c0
          have hno : (z < 0 ∨ 1000 < z ∨ ∃ h : 0 < j, z ≤ ps[j - 1]) → ¬ okT ps := fun h => okT_bad hjl (by rw [← hz]; exact h)
          by_cases h1 : z < 0
          · rw [if_neg (hno (.inl h1))]
            (first | (refine H.wg ?_; clear H; intros; rename_i w H; constructor) | refine wk ?_)
            exact ⟨V2, 0, false, ⟨none, 0, 0⟩, false, false, hV2, H.sx, rfl, rfl⟩
          by_cases h2 : 1000 < z
          · rw [if_neg (hno (.inr (.inl h2)))]
            (first | (refine H.wg ?_; clear H; intros; rename_i w H; constructor) | refine wk ?_)
            exact ⟨V2, 0, false, ⟨none, 0, 0⟩, false, false, hV2, H.sx, rfl, rfl⟩
          by_cases h3 : 0 < j
          · obtain ⟨_, c1⟩ := hps.at1 (g := iv) (i := j - 1) (fun _ => rfl) (by omega)
            obtain ⟨y, hy⟩ : ∃ y, y = ps[j - 1]'(by omega) := ⟨_, rfl⟩
            rw [← hy, show j - 1 = (((j : Nat) : Int) - 1).toNat by omega] at c1
            by_cases h4 : z ≤ y
            · rw [if_neg (hno (.inr (.inr ⟨h3, by rw [← hy]; exact h4⟩)))]
              (first | (refine H.wg ?_; clear H; intros; rename_i w H; constructor) | refine wk ?_)
              exact ⟨V2, 0, false, ⟨none, 0, 0⟩, false, false, hV2, H.sx, rfl, rfl⟩
            · (first | (refine H.wg ?_; clear H; intros; rename_i w H; constructor) | refine wk ?_)
              exact ⟨(by repeat (first | exact trivial | refine ⟨rfl, ?_⟩)), j + 1, (by repeat (first | exact trivial | refine ⟨rfl, ?_⟩)), ⟨by omega, okT_step hjl hok (by rw [← hz]; omega) (by rw [← hz]; omega) (fun _ => by rw [← hz, ← hy]; omega), _, H.sx⟩, by omega⟩
          · (first | (refine H.wg ?_; clear H; intros; rename_i w H; constructor) | refine wk ?_)
            exact ⟨(by repeat (first | exact trivial | refine ⟨rfl, ?_⟩)), j + 1, (by repeat (first | exact trivial | refine ⟨rfl, ?_⟩)), ⟨by omega, okT_step hjl hok (by rw [← hz]; omega) (by rw [← hz]; omega) (fun h => absurd h h3), _, H.sx⟩, by omega⟩
        · rw [List.take_of_length_le (by omega)] at hok
          rw [if_pos hok]
          have hnn : nz (ps.map Int.toNat) = ps := by
            unfold nz
            rw [List.map_map]
            conv => rhs; rw [← List.map_id ps]
            refine List.map_congr_left fun x hx => ?_
            have := (hok.1 x hx).1
            show ((x.toNat : Nat) : Int) = x
            omega
          (first | (refine H.wg ?_; clear H; intros; rename_i w H; constructor) | refine wk ?_)
          rw [show decide (((C : Nat) : Int) / 3 % 2 = 1) = decide (C / 3 % 2 = 1) from decide_eq_decide.2 (by omega), show decide (6 ≤ ((C : Nat) : Int)) = decide (6 ≤ C) from decide_eq_decide.2 (by omega)]
          exact ⟨V2, C % 3, _, x, _, true, hV2, H.sx, rfl, rfl, rfl, rfl, rfl, by rw [hnn]; exact hps⟩
end
theorem shape_small {v : Val} (hB : VB 1048576 v) (hf : (vfault v).1 = 0) {T : Tbl} (h : tblShape v = some T) : T.length ≤ 600 ∧ ∀ r ∈ T, r.length ≤ 600 ∧ ∀ x ∈ r, x.length ≤ 1048576 := by
  have hcnt := valid_count hf
  have hnode := (valid_node hf).2
  unfold tblShape at h
  split at h
  · obtain ⟨h1, h2⟩ := allM_some h
    refine ⟨by omega, fun r hr => ?_⟩
    obtain ⟨i, hi⟩ := List.mem_iff_getElem?.1 hr
    have hil := (List.getElem?_eq_some_iff.1 hi).1
    have hp : v.parts[i]? = some (v.parts[i]'(by omega)) := List.getElem?_eq_getElem _
    have hro := h2 i _ _ hp hi
    have hpm : v.parts[i]'(by omega) ∈ v.parts := List.getElem_mem _
    generalize v.parts[i]'(by omega) = p at hro hpm
    have hpc := (nodeCode_zero (hnode p hpm)).2.2.1
    have hpB := hB.part p hpm
    unfold rowOfV at hro
    split at hro
    · obtain ⟨h3, h4⟩ := allM_some hro
      refine ⟨by omega, fun x hx => ?_⟩
      obtain ⟨j, hj⟩ := List.mem_iff_getElem?.1 hx
      have hjl := (List.getElem?_eq_some_iff.1 hj).1
      have hq : p.parts[j]? = some (p.parts[j]'(by omega)) := List.getElem?_eq_getElem _
      have hce := h4 j _ _ hq hj
      have hqm : p.parts[j]'(by omega) ∈ p.parts := List.getElem_mem _
      generalize p.parts[j]'(by omega) = c at hce hqm
      unfold cellOf at hce
      split at hce
      · cases hce
        exact (hpB.part c hqm).bytes
      · cases hce
    · cases hro
  · cases h
section
variable {V W : World}
set_option maxRecDepth 100000 in
set_option maxHeartbeats 2000000 in
theorem from_tbl (hV : Sub V W) (hT : Tabs V) (hM : MaxB V) {h : VH} {v : Val} (hv : ValAt V h v) (hB : VB 1048576 v) {s : Sl} {b : List UInt8} (hs : Byt V s b) (hl : b.length ≤ 1099511627776) : Ret Tryz.prog 11 [valV h, s.v].toArray W (FrR W V (frRes v (tblShape v).isSome (tblMake v b))) := by
  have H := Rel.start hV
  have hv0 := hv
  have hpl := hv.plen
  obtain ⟨k, n, bs, ss, pl⟩ := h
  dsimp only at hpl
  change Ret Tryz.prog 11 [.agg [iv k, iv n, bs.v, ss.v, pl.v].toArray, s.v].toArray W _
  refine cal_of_vc tabOk Tryz.func11 rfl (by kernel_rfl) 72 rfl (by simp) [0, 1, 2, 4, 5, 6, 7, 8, 9, 10, 11, 12, 13, 14, 15, 20, 28, 36, 55, 68] ?_
  (first | (refine H.wh ?_; clear H; intros; rename_i w H; constructor) | refine wk ?_)
  ((first | refine Rel.nwD H ?_ | refine Rel.nw H ?_); clear H; intro w b2 H)
  (first | (refine H.wh ?_; clear H; intros; rename_i w H; constructor) | refine wk ?_)
  ((first | refine Rel.nwD H ?_ | refine Rel.nw H ?_); clear H; intro w b5 H)
  (first | (refine H.wg ?_; clear H; intros; rename_i w H; constructor) | refine wk ?_)
  refine (validate_value H.data hv0 hB).use ?_
  rintro q w ⟨rfl, K⟩
  (have hKb := K.base; replace H := Rel.call H K)
  simp only [List.nil_append] at H
  (first | (refine H.wh ?_; clear H; intros; rename_i w H; constructor) | refine wk ?_)
  ((first | refine Rel.nwD H ?_ | refine Rel.nw H ?_); clear H; intro w b6 H)
  by_cases hvf : (vfault v).1 = 0
  rotate_left
  · have e : frRes v (tblShape v).isSome (tblMake v b) = ([], vfault v) := by unfold frRes; rw [if_pos hvf]
    rw [e]
    (first | (refine H.wg ?_; clear H; intros; rename_i w H; constructor) | refine wk ?_)
    first
      | (refine (fault_tbl H.data 6 (-2)).use ?_
         rintro q w ⟨rfl, K⟩
         (have hKb := K.base; replace H := Rel.call H K)
         simp only [List.nil_append] at H
         (first | (refine H.wg ?_; clear H; intros; rename_i w H; constructor) | refine wk ?_)
         exact ⟨V, ⟨none, 0, 0⟩, Sub.refl _, H.sx, rfl, SlF.nil _ _⟩)
      | (((first | refine draw_vc (id := 3) tabOk mixed [] [0, 1, 2] (by kernel_rfl) ?_); intro w hdw; replace H := Rel.ext H hdw.ext)
         (first | (refine H.wg ?_; clear H; intros; rename_i w H; constructor) | refine wk ?_)
         exact ⟨V, ⟨none, 0, 0⟩, Sub.refl _, H.sx, rfl, SlF.nil _ _⟩)
  have hzz := vfault_zz hvf
  rw [hzz]
  (first | (refine H.wg ?_; clear H; intros; rename_i w H; constructor) | refine wk ?_)
  refine (rowsOf_tbl H.data hv0 hB).use ?_
  rintro q w ⟨V2, rs, g, hV2, K, rfl, hres⟩
  (have hKb := K.base; replace H := Rel.call H K)
  simp only [List.nil_append] at H
  cases hsh : tblShape v with
  | none =>
    rw [hsh] at hres
    dsimp only at hres
    subst hres
    have e : frRes v (none : Option Tbl).isSome (tblMake v b) = ([], 13, 0) := by unfold frRes; rw [if_neg (fun h => h hvf)]; rfl
    rw [e]
    (first | (refine H.wg ?_; clear H; intros; rename_i w H; constructor) | refine wk ?_)
    refine (fault_tbl H.data 13 0).use ?_
    rintro q w ⟨rfl, K⟩
    (have hKb := K.base; replace H := Rel.call H K)
    simp only [List.nil_append] at H
    (first | (refine H.wg ?_; clear H; intros; rename_i w H; constructor) | refine wk ?_)
    exact ⟨V2, ⟨none, 0, 0⟩, hV2, H.sx, rfl, SlF.nil _ _⟩
  | some T =>
    rw [hsh] at hres
    obtain ⟨rfl, hrs⟩ := hres
    obtain ⟨hTl, hrl⟩ := shape_small hB hvf hsh
    have badE : tblMake v b = none → frRes v (some T).isSome (tblMake v b) = ([], 6, -2) := fun h => by
      rw [h]
      unfold frRes
      rw [if_neg (fun h => h hvf)]
      rfl
    (first | (refine H.wg ?_; clear H; intros; rename_i w H; constructor) | refine wk ?_)
    refine (readResidue_tbl H.data (hs.up hV2) hl).use ?_
    rintro q w ⟨V3, m, kk, qs, p, g3, hV3, K, rfl, hres⟩
    (have hKb := K.base; replace H := Rel.call H K)
    simp only [List.nil_append] at H
    have hV23 := hV2.trans hV3
    (first | (refine H.wh ?_; clear H; intros; rename_i w H; constructor) | refine wk ?_)
    ((first | refine Rel.nwD H ?_ | refine Rel.nw H ?_); clear H; intro w b9 H)
    cases hr : tblRd b with
    | none =>
      rw [hr] at hres
      obtain rfl := hres
      have e := badE (tblMake_bad hsh hr)
      rw [e]
      (first | (refine H.wg ?_; clear H; intros; rename_i w H; constructor) | refine wk ?_)
      first
        | (refine (fault_tbl H.data 6 (-2)).use ?_
           rintro q w ⟨rfl, K⟩
           (have hKb := K.base; replace H := Rel.call H K)
           simp only [List.nil_append] at H
           (first | (refine H.wg ?_; clear H; intros; rename_i w H; constructor) | refine wk ?_)
           exact ⟨V3, ⟨none, 0, 0⟩, hV23, H.sx, rfl, SlF.nil _ _⟩)
        | (((first | refine draw_vc (id := 3) tabOk mixed [] [0, 1, 2] (by kernel_rfl) ?_); intro w hdw; replace H := Rel.ext H hdw.ext)
           (first | (refine H.wg ?_; clear H; intros; rename_i w H; constructor) | refine wk ?_)
           exact ⟨V3, ⟨none, 0, 0⟩, hV23, H.sx, rfl, SlF.nil _ _⟩)
    | some x =>
      obtain ⟨fl, Z⟩ := x
      rw [hr] at hres
      obtain ⟨rfl, rfl, rfl, rfl, hz⟩ := hres
      obtain ⟨hf, hZl, hZ, _⟩ := tblRd_some hr
      dsimp only at hz ⊢
      (first | (refine H.wg ?_; clear H; intros; rename_i w H; constructor) | refine wk ?_)
      refine (write_tbl H.data (tabs_up' hT hV23) (hM.up hV23) (by omega) (decide (fl / 3 % 2 = 1)) (decide (6 ≤ fl)) (hrs.up hV3) hz hZl hTl hrl).use ?_
      rintro q w ⟨V4, ro, hV4, K, rfl, hOb, hOl⟩
      (have hKb := K.base; replace H := Rel.call H K)
      simp only [List.nil_append] at H
      have hV24 := hV23.trans hV4
      obtain ⟨O, hO⟩ : ∃ O, O = tblOut fl Z T := ⟨_, rfl⟩
      rw [show fileB (sepB (fl % 3)) (tEnd (decide (fl / 3 % 2 = 1))) (decide (6 ≤ fl)) (markF (sepB (fl % 3)) Z 0 T) = O from hO.symm] at hOb hOl
      have hmk : (O.length ≤ 1000 → tblTo O ≠ some (v, b)) → frRes v (some T).isSome (tblMake v b) = ([], 6, -2) := fun q => badE (tblMake_no hsh hr (by rw [← hO]; exact q))
      (first | (refine H.wg ?_; clear H; intros; rename_i w H; constructor) | refine wk ?_)
      refine (to_tbl H.data (tabs_up' hT hV24) (hM.up hV24) hOb hOl).use ?_
      rintro q w ⟨V5, hh, rr, hV5, K, rfl, hvv, hrr⟩
      (have hKb := K.base; replace H := Rel.call H K)
      simp only [List.nil_append] at H
      have hV25 := hV24.trans hV5
      by_cases hO1 : 1000 < O.length
      · have et : toRes (tblTo O) O.length = ⟨zeroV, [], 3, -1⟩ := by unfold toRes; rw [if_pos hO1]
        rw [et]
        have e := hmk fun h => by omega
        obtain ⟨hk, hn, hbs, hss, hpl2⟩ := hh
        (first | (refine H.wh ?_; clear H; intros; rename_i w H; constructor) | refine wk ?_)
        ((first | refine Rel.nwD H ?_ | refine Rel.nw H ?_); clear H; intro w b11 H)
        (first | (refine H.wh ?_; clear H; intros; rename_i w H; constructor) | refine wk ?_)
        ((first | refine Rel.nwD H ?_ | refine Rel.nw H ?_); clear H; intro w b13 H)
        rw [e]
        (first | (refine H.wg ?_; clear H; intros; rename_i w H; constructor) | refine wk ?_)
        first
          | (refine (fault_tbl H.data 6 (-2)).use ?_
             rintro q w ⟨rfl, K⟩
             (have hKb := K.base; replace H := Rel.call H K)
             simp only [List.nil_append] at H
             (first | (refine H.wg ?_; clear H; intros; rename_i w H; constructor) | refine wk ?_)
             exact ⟨V5, ⟨none, 0, 0⟩, hV25, H.sx, rfl, SlF.nil _ _⟩)
          | (((first | refine draw_vc (id := 3) tabOk mixed [] [0, 1, 2] (by kernel_rfl) ?_); intro w hdw; replace H := Rel.ext H hdw.ext)
             (first | (refine H.wg ?_; clear H; intros; rename_i w H; constructor) | refine wk ?_)
             exact ⟨V5, ⟨none, 0, 0⟩, hV25, H.sx, rfl, SlF.nil _ _⟩)
      cases hto : tblTo O with
      | none =>
        have et : toRes none O.length = ⟨zeroV, [], 21, -1⟩ := by unfold toRes; rw [if_neg hO1]
        rw [et]
        have e := hmk fun _ h => by rw [hto] at h; cases h
        obtain ⟨hk, hn, hbs, hss, hpl2⟩ := hh
        (first | (refine H.wh ?_; clear H; intros; rename_i w H; constructor) | refine wk ?_)
        ((first | refine Rel.nwD H ?_ | refine Rel.nw H ?_); clear H; intro w b11 H)
        (first | (refine H.wh ?_; clear H; intros; rename_i w H; constructor) | refine wk ?_)
        ((first | refine Rel.nwD H ?_ | refine Rel.nw H ?_); clear H; intro w b13 H)
        rw [e]
        (first | (refine H.wg ?_; clear H; intros; rename_i w H; constructor) | refine wk ?_)
        first
          | (refine (fault_tbl H.data 6 (-2)).use ?_
             rintro q w ⟨rfl, K⟩
             (have hKb := K.base; replace H := Rel.call H K)
             simp only [List.nil_append] at H
             (first | (refine H.wg ?_; clear H; intros; rename_i w H; constructor) | refine wk ?_)
             exact ⟨V5, ⟨none, 0, 0⟩, hV25, H.sx, rfl, SlF.nil _ _⟩)
          | (((first | refine draw_vc (id := 3) tabOk mixed [] [0, 1, 2] (by kernel_rfl) ?_); intro w hdw; replace H := Rel.ext H hdw.ext)
             (first | (refine H.wg ?_; clear H; intros; rename_i w H; constructor) | refine wk ?_)
             exact ⟨V5, ⟨none, 0, 0⟩, hV25, H.sx, rfl, SlF.nil _ _⟩)
      | some y =>
        obtain ⟨u, ur⟩ := y
        have et : toRes (some (u, ur)) O.length = ⟨u, ur, 0, 0⟩ := by unfold toRes; rw [if_neg hO1]
        rw [hto, et] at hvv hrr
        rw [et]
        dsimp only at hvv hrr ⊢
        obtain ⟨uB, uF, _⟩ := tbl_valid (show O.length ≤ 1000 by omega) hto
        have hvv0 := hvv
        obtain ⟨hk, hn, hbs, hss, hpl2⟩ := hh
        (first | (refine H.wh ?_; clear H; intros; rename_i w H; constructor) | refine wk ?_)
        ((first | refine Rel.nwD H ?_ | refine Rel.nw H ?_); clear H; intro w b11 H)
        (first | (refine H.wh ?_; clear H; intros; rename_i w H; constructor) | refine wk ?_)
        ((first | refine Rel.nwD H ?_ | refine Rel.nw H ?_); clear H; intro w b13 H)
        (first | (refine H.wg ?_; clear H; intros; rename_i w H; constructor) | refine wk ?_)
        refine (equal_bytes H.data hrr (hs.up hV25)).use ?_
        rintro q w ⟨rfl, K⟩
        (have hKb := K.base; replace H := Rel.call H K)
        simp only [List.nil_append] at H
        by_cases hc1 : ur = b
        rotate_left
        · rw [decide_eq_false hc1]
          have e := hmk fun _ h => hc1 (by rw [hto] at h; cases h; rfl)
          rw [e]
          (first | (refine H.wg ?_; clear H; intros; rename_i w H; constructor) | refine wk ?_)
          first
            | (refine (fault_tbl H.data 6 (-2)).use ?_
               rintro q w ⟨rfl, K⟩
               (have hKb := K.base; replace H := Rel.call H K)
               simp only [List.nil_append] at H
               (first | (refine H.wg ?_; clear H; intros; rename_i w H; constructor) | refine wk ?_)
               exact ⟨V5, ⟨none, 0, 0⟩, hV25, H.sx, rfl, SlF.nil _ _⟩)
            | (((first | refine draw_vc (id := 3) tabOk mixed [] [0, 1, 2] (by kernel_rfl) ?_); intro w hdw; replace H := Rel.ext H hdw.ext)
               (first | (refine H.wg ?_; clear H; intros; rename_i w H; constructor) | refine wk ?_)
               exact ⟨V5, ⟨none, 0, 0⟩, hV25, H.sx, rfl, SlF.nil _ _⟩)
        rw [decide_eq_true hc1]
        (first | (refine H.wg ?_; clear H; intros; rename_i w H; constructor) | refine wk ?_)
        refine (compare_value H.data (hv0.up hV25) hvv0 hB uB hvf uF).use ?_
        rintro q w ⟨V6, cc, hV6, K, rfl, hcc⟩
        (have hKb := K.base; replace H := Rel.call H K)
        simp only [List.nil_append] at H
        have hV26 := hV25.trans hV6
        (first | (refine H.wh ?_; clear H; intros; rename_i w H; constructor) | refine wk ?_)
        ((first | refine Rel.nwD H ?_ | refine Rel.nw H ?_); clear H; intro w b15 H)
        by_cases hc2 : cc = 0
        rotate_left
        · have e := hmk fun _ h => hc2 (hcc.2 (by rw [hto] at h; cases h; rfl))
          rw [e]
          (first | (refine H.wg ?_; clear H; intros; rename_i w H; constructor) | refine wk ?_)
          first
            | (refine (fault_tbl H.data 6 (-2)).use ?_
               rintro q w ⟨rfl, K⟩
               (have hKb := K.base; replace H := Rel.call H K)
               simp only [List.nil_append] at H
               (first | (refine H.wg ?_; clear H; intros; rename_i w H; constructor) | refine wk ?_)
               exact ⟨V6, ⟨none, 0, 0⟩, hV26, H.sx, rfl, SlF.nil _ _⟩)
            | (((first | refine draw_vc (id := 3) tabOk mixed [] [0, 1, 2] (by kernel_rfl) ?_); intro w hdw; replace H := Rel.ext H hdw.ext)
               (first | (refine H.wg ?_; clear H; intros; rename_i w H; constructor) | refine wk ?_)
               exact ⟨V6, ⟨none, 0, 0⟩, hV26, H.sx, rfl, SlF.nil _ _⟩)
        have e : frRes v (some T).isSome (tblMake v b) = (O, 0, 0) := by
          rw [tblMake_yes hsh hr (by rw [← hO]; omega) (by rw [← hO, hto, hc1, hcc.1 hc2]), ← hO]
          unfold frRes
          rw [if_neg (fun h => h hvf)]
          rfl
        rw [e]
        (first | (refine H.wg ?_; clear H; intros; rename_i w H; constructor) | refine wk ?_)
        exact ⟨V6, ro, hV26, H.sx, rfl, hOb.up (hV5.trans hV6)⟩
end
end Go.Proofs.YtkfcdjomkcmkeaaGreatDoor
