/-
  Files of tables: the plain table, the residue, To.
-/
import Derived.Test.YtkfcdjomkcmkeaaGreatDoorTblC
import Derived.Test.YtkfcdjomkcmkeaaGreatDoorLibI
import Derived.Test.YtkfcdjomkcmkeaaGreatDoorValE
namespace Go.Proofs.YtkfcdjomkcmkeaaGreatDoor
open Go Go.RowKit

theorem pw_last {l : List Int} (h : l.Pairwise (· < ·)) (hne : l ≠ []) : ∀ a ∈ l, a ≤ l.getLast hne := by
  intro a ha
  obtain ⟨i, x, rfl⟩ := last_of (l := l) fun h => hne (List.eq_nil_of_length_eq_zero h)
  rw [List.pairwise_append] at h
  have e : (i ++ [x]).getLast hne = x := by simp
  rw [e]
  rcases List.mem_append.1 ha with ha | ha
  · have := h.2.2 a ha x (by simp)
    omega
  · rw [List.mem_singleton.1 ha]
    exact Int.le_refl _
theorem okT_nil : okT [] := ⟨by simp, List.Pairwise.nil⟩
theorem okT_step {l : List Int} {i : Nat} (hi : i < l.length) (h : okT (l.take i)) (h0 : 0 ≤ l[i]) (h1 : l[i] ≤ 1000) (h2 : ∀ h : 0 < i, l[i - 1] < l[i]) : okT (l.take (i + 1)) := by
  obtain ⟨g1, g2⟩ := h
  rw [List.take_succ_eq_append_getElem hi]
  refine ⟨fun n hn => ?_, List.pairwise_append.2 ⟨g2, List.pairwise_singleton _ _, fun a ha b hb => ?_⟩⟩
  · rcases List.mem_append.1 hn with hn | hn
    · exact g1 n hn
    · rw [List.mem_singleton.1 hn]
      exact ⟨h0, h1⟩
  · rw [List.mem_singleton.1 hb]
    have hne : l.take i ≠ [] := List.ne_nil_of_mem ha
    have hi0 : 0 < i := by
      rcases Nat.eq_zero_or_pos i with rfl | h
      · exact absurd rfl hne
      · exact h
    have := pw_last g2 hne a ha
    rw [List.getLast_eq_getElem] at this
    simp only [List.length_take, List.getElem_take] at this
    have h3 := h2 hi0
    have e : min i l.length - 1 = i - 1 := by omega
    simp only [e] at this
    omega
theorem okT_bad {l : List Int} {i : Nat} (hi : i < l.length) (h : l[i] < 0 ∨ 1000 < l[i] ∨ ∃ h : 0 < i, l[i] ≤ l[i - 1]) : ¬ okT l := by
  rintro ⟨h1, h2⟩
  have := h1 l[i] (List.getElem_mem hi)
  rcases h with h | h | ⟨h0, h⟩
  · omega
  · omega
  · have := List.pairwise_iff_getElem.1 h2 (i - 1) i (by omega) hi (by omega)
    omega
abbrev RowV (V : World) (h : VH) (r : List (List UInt8)) : Prop := ValAt V h (rowV r)
theorem rowV_up : ∀ (V V' : World) (x : VH) (y : List (List UInt8)), Sub V V' → RowV V x y → RowV V' x y := fun _ _ _ _ k h => h.up k
theorem rowV_at {V : World} {s : Sl} {gs : List Sl} {r : List (List UInt8)} (h1 : SlF valC V s (gs.map bytH)) (h2 : Pw BytR V gs r) : RowV V ⟨3, 0, ⟨none, 0, 0⟩, ⟨none, 0, 0⟩, s⟩ r :=
  .mk (gs.map bytH) rfl rfl (SlF.nil _ _) (SlF.nil _ _) h1 (by show (gs.map bytH).length = (r.map cellV).length; rw [List.length_map, List.length_map, h2.len]) fun i x p hx hp => by
    have hp : (r.map cellV)[i]? = some p := hp
    rw [List.getElem?_map] at hx hp
    cases hg : gs[i]? with
    | none => rw [hg] at hx; cases hx
    | some g =>
      cases hr : r[i]? with
      | none => rw [hr] at hp; cases hp
      | some y =>
        rw [hg] at hx
        rw [hr] at hp
        cases hx
        cases hp
        exact valAt_byt (h2.all i g y hg hr)
theorem tblV_at {V : World} {s : Sl} {hs : List VH} {T : Tbl} (h1 : SlF valC V s hs) (h2 : Pw RowV V hs T) : ValAt V ⟨3, 0, ⟨none, 0, 0⟩, ⟨none, 0, 0⟩, s⟩ (tblVal T) :=
  .mk hs rfl rfl (SlF.nil _ _) (SlF.nil _ _) h1 (by show hs.length = (T.map rowV).length; rw [h2.len, List.length_map]) fun i x p hx hp => by
    have hp : (T.map rowV)[i]? = some p := hp
    rw [List.getElem?_map] at hp
    cases hT : T[i]? with
    | none => rw [hT] at hp; cases hp
    | some y =>
      rw [hT] at hp
      cases hp
      exact h2.all i x y hx hT
section
variable {V W : World}
set_option maxRecDepth 100000 in
set_option maxHeartbeats 2000000 in
theorem plain_tbl (hV : Sub V W) (n : Nat) (k o : Bool) {rs qs : Sl} {T : Tbl} (hs : TblAt V rs T) (hl : T.length ≤ 100000) (hrl : ∀ r ∈ T, r.length ≤ 100000) : Ret Tryz.prog 18 [.agg (fileC n k rs qs o).toArray].toArray W fun v w' => ∃ (V' : World) (h : VH), Sub V V' ∧ Rel W V [] V' w' ∧ v = valV h ∧ ValAt V' h (tblVal T) := by
  have H := Rel.start hV
  have hlen := hs.len
  obtain ⟨xs, h1, h2⟩ := hs
  have h2l := h2.len
  refine cal_of_vc tabOk Tryz.func18 rfl (by kernel_rfl) 40 rfl (by simp) [0, 1, 2, 3, 5, 6, 8, 11, 12, 13, 14, 18, 19, 20, 21] ?_
  (first | (refine H.wh ?_; clear H; intros; rename_i w H; constructor) | refine wk ?_)
  ((first | refine Rel.nwD H ?_ | refine Rel.nw H ?_); clear H; intro w b1 H)
  (first | (refine H.wh ?_; clear H; intros; rename_i w H; constructor) | refine wk ?_)
  ((first | refine Rel.nwD H ?_ | refine Rel.nw H ?_); clear H; intro w b2 H)
  (first | (refine H.wh ?_; clear H; intros; rename_i w H; constructor) | refine wk ?_)
  ((first | refine Rel.nwD H ?_ | refine Rel.nw H ?_); clear H; intro w b3 H)
  (first | (refine H.wg ?_; clear H; intros; rename_i w H; constructor) | refine wk ?_)
  replace H := H.rowNil 27 5
  have H0 : Rel W V [.row ⟨none, 0, 0⟩ 27 5 [], .blk b3 [iv 3, iv 0, .slice none 0 0, .slice none 0 0, .slice none 0 0] 27, .blk b2 (valC zeroH) 27, .blk b1 (fileC n k rs qs o) 52] V w := H.pick
  clear H
  have H := H0
  clear H0
  refine loop_inv (S := Nat × Sl × List VH) tabOk [0, 1, 2, 3, 11, 12] (fun z => [(13, iv z.1)]) (fun z w' => z.1 ≤ T.length ∧ ∃ V2, Sub V V2 ∧ Pw RowV V2 z.2.2 (T.take z.1) ∧ Rel W V [.row z.2.1 27 5 (z.2.2.flatMap valC), .blk b3 [iv 3, iv 0, .slice none 0 0, .slice none 0 0, z.2.1.v] 27, .blk b2 (valC zeroH) 27, .blk b1 (fileC n k rs qs o) 52] V2 w') (fun z _ => T.length - z.1) (0, ⟨none, 0, 0⟩, []) ?_
  (conv => whnf)
  refine ⟨(by repeat (first | exact trivial | refine ⟨rfl, ?_⟩)), ⟨by omega, V, Sub.refl _, Pw.nil, H⟩, ?_⟩
  clear H
  rintro ⟨i, pr, hh⟩ w ⟨hi, V2, hV2, hP, H⟩
  dsimp only at hi hP H ⊢
  have hPl := hP.len
  rw [List.length_take] at hPl
  by_cases hlt : i < T.length
  rotate_left
  · obtain rfl : i = T.length := by omega
    rw [List.take_length] at hP
    (first | (refine H.wg ?_; clear H; intros; rename_i w H; constructor) | refine wk ?_)
    obtain ⟨V3, hV3, H, hr⟩ := Rel.freezeF H (fun _ => rfl) (by decide)
    exact ⟨V3, ⟨3, 0, ⟨none, 0, 0⟩, ⟨none, 0, 0⟩, pr⟩, hV2.trans hV3, H.sx, rfl, tblV_at hr (hP.up rowV_up hV3)⟩
  obtain ⟨p0, c0⟩ := (h1.up hV2).at1 (g := fun x : Sl => x.v) (fun _ => rfl) (i := i) (by omega)
  obtain ⟨gs, g1, g2⟩ := h2.all i (xs[i]'(by omega)) T[i] (List.getElem?_eq_getElem _) (List.getElem?_eq_getElem _)
  have ht := List.take_succ_eq_append_getElem hlt
  obtain ⟨r, hr⟩ : ∃ r, r = T[i] := ⟨_, rfl⟩
  obtain ⟨x, hx⟩ : ∃ x, x = xs[i]'(by omega) := ⟨_, rfl⟩
  have hrl2 := hrl r (by rw [hr]; exact List.getElem_mem hlt)
  rw [← hr] at g2 ht
  rw [← hx] at c0 g1
  have g1l := g1.len
  have g2l := g2.len
  (first | (refine H.wh ?_; clear H; intros; rename_i w H; constructor) | refine wk ?_)
  ((first | refine Rel.nwD H ?_ | refine Rel.nw H ?_); clear H; intro w b6 H)
  (first | (refine H.wg ?_; clear H; intros; rename_i w H; constructor) | refine wk ?_)
  replace H := H.rowNil 27 5
  refine loop_inv (S := Nat × Sl) tabOk [0, 1, 2, 3, 5, 6, 11, 12, 13, 14, 18, 19] (fun z => [(20, iv z.1)]) (fun z w' => z.1 ≤ r.length ∧ Rel W V [.row z.2 27 5 (((gs.take z.1).map bytH).flatMap valC), .blk b6 [iv 3, iv 0, .slice none 0 0, .slice none 0 0, z.2.v] 27, .row pr 27 5 (hh.flatMap valC), .blk b3 [iv 3, iv 0, .slice none 0 0, .slice none 0 0, pr.v] 27, .blk b2 (valC zeroH) 27, .blk b1 (fileC n k rs qs o) 52] V2 w') (fun z _ => r.length - z.1) (0, ⟨none, 0, 0⟩) ?_
  (conv => whnf)
  refine ⟨(by repeat (first | exact trivial | refine ⟨rfl, ?_⟩)), ⟨by omega, H⟩, ?_⟩
  clear H
  rintro ⟨j, p2⟩ w ⟨hj, H⟩
  dsimp only at hj H ⊢
  by_cases hjl : j < r.length
  · obtain ⟨p1, c1⟩ := (g1.up hV2).at1 (g := fun x : Sl => x.v) (fun _ => rfl) (i := j) (by omega)
    obtain ⟨g, hg⟩ : ∃ g, g = gs[j]'(by omega) := ⟨_, rfl⟩
    have hgt := List.take_succ_eq_append_getElem (l := gs) (i := j) (by omega)
    rw [← hg] at c1 hgt
    have hml : ((gs.take j).map bytH).length = j := by rw [List.length_map, List.length_take]; omega
    (first | (refine H.wh ?_; clear H; intros; rename_i w H; constructor) | refine wk ?_)
    ((first | refine Rel.nwD H ?_ | refine Rel.nw H ?_); clear H; intro w b28 H)
    (first | (refine H.wg ?_; clear H; intros; rename_i w H; constructor) | refine wk ?_)
    refine Rel.app1_0 (f := valC) (s := p2) (l := (gs.take j).map bytH) (x := bytH g) tabOk rfl rfl rfl rfl rfl (by decide) (fun _ => rfl) (by simp [Value.oneCell']) H (by rw [hml]; show (j + 1) * 88 ≤ _; omega) (by rw [hml]; omega) ?_
    clear H
    intro p3 w H
    rw [show (gs.take j).map bytH ++ [bytH g] = (gs.take (j + 1)).map bytH by rw [hgt, List.map_append]; rfl] at H
    (first | (refine H.wg ?_; clear H; intros; rename_i w H; constructor) | refine wk ?_)
    exact ⟨(by repeat (first | exact trivial | refine ⟨rfl, ?_⟩)), (j + 1, p3), (by repeat (first | exact trivial | refine ⟨rfl, ?_⟩)), ⟨by dsimp only; omega, H⟩, by dsimp only; omega⟩
  · rw [List.take_of_length_le (by omega)] at H
    obtain ⟨V3, hV3, H, hp2⟩ := Rel.freezeF H (fun _ => rfl) (by decide)
    (first | (refine H.wh ?_; clear H; intros; rename_i w H; constructor) | refine wk ?_)
    ((first | refine Rel.nwD H ?_ | refine Rel.nw H ?_); clear H; intro w b35 H)
    (first | (refine H.wg ?_; clear H; intros; rename_i w H; constructor) | refine wk ?_)
    refine Rel.app1_1 (f := valC) (s := pr) (l := hh) (x := ⟨3, 0, ⟨none, 0, 0⟩, ⟨none, 0, 0⟩, p2⟩) tabOk rfl rfl rfl rfl rfl (by decide) (fun _ => rfl) (by simp [Value.oneCell']) H (by show (hh.length + 1) * 88 ≤ _; omega) (by omega) ?_
    clear H
    intro pr2 w H
    (first | (refine H.wg ?_; clear H; intros; rename_i w H; constructor) | refine wk ?_)
    refine ⟨(by repeat (first | exact trivial | refine ⟨rfl, ?_⟩)), (i + 1, pr2, hh ++ [⟨3, 0, ⟨none, 0, 0⟩, ⟨none, 0, 0⟩, p2⟩]), (by repeat (first | exact trivial | refine ⟨rfl, ?_⟩)), ⟨by dsimp only; omega, V3, hV2.trans hV3, ?_, H.sx⟩, by dsimp only; omega⟩
    dsimp only
    rw [ht]
    exact (hP.up rowV_up hV3).snoc (rowV_at hp2 (g2.up (fun _ _ _ _ k h => h.up k) (hV2.trans hV3)))
theorem flags_tbl (hV : Sub V W) {n : Nat} (hn : n < 3) (k o : Bool) (rs qs : Sl) : Ret Tryz.prog 40 [.agg (fileC n k rs qs o).toArray].toArray W fun v w' => v = iv (tFlags n k o : Nat) ∧ Rel W V [] V w' := by
  have H := Rel.start hV
  refine cal_of_vc tabOk Tryz.func40 rfl (by kernel_rfl) 17 rfl (by simp) [0, 1, 2, 3, 9, 13] ?_
  cases k <;> cases o
  all_goals
    (first | (refine H.wh ?_; clear H; intros; rename_i w H; constructor) | refine wk ?_)
    ((first | refine Rel.nwD H ?_ | refine Rel.nw H ?_); clear H; intro w b1 H)
    (first | (refine H.wg ?_; clear H; intros; rename_i w H; constructor) | refine wk ?_)
    first | exact H.sx | exact ⟨rfl, H.sx⟩
set_option maxRecDepth 100000 in
set_option maxHeartbeats 1000000 in
theorem residue_tbl (hV : Sub V W) {n : Nat} (hn : n < 3) (k o : Bool) (rs : Sl) {qs : Sl} {Z : List Nat} (hqs : SlF itC V qs (nz Z)) (hZl : Z.length ≤ 1000) (hZ : ∀ n ∈ Z, n ≤ 1000) : Ret Tryz.prog 20 [.agg (fileC n k rs qs o).toArray].toArray W fun v w' => ∃ (V' : World) (r : Sl), Sub V V' ∧ Rel W V [] V' w' ∧ v = r.v ∧ Byt V' r (tRes (tFlags n k o) Z) := by
  have H := Rel.start hV
  have hql := hqs.len
  rw [List.length_map] at hql
  obtain ⟨f1, _⟩ := tFlags_lt (n := n) (by omega) k o
  refine cal_of_vc tabOk Tryz.func20 rfl (by kernel_rfl) 19 rfl (by simp) [0, 1, 2, 11] ?_
  (first | (refine H.wh ?_; clear H; intros; rename_i w H; constructor) | refine wk ?_)
  ((first | refine Rel.nwD H ?_ | refine Rel.nw H ?_); clear H; intro w b1 H)
  (first | (refine H.wg ?_; clear H; intros; rename_i w H; constructor) | refine wk ?_)
  refine (flags_tbl H.data hn k o rs qs).use ?_
  rintro v w ⟨rfl, K⟩
  (have hKb := K.base; replace H := Rel.call H K)
  simp only [List.nil_append] at H
  by_cases h0 : tFlags n k o = 0 ∧ Z = []
  · have e : tRes (tFlags n k o) Z = [] := by unfold tRes; rw [if_pos h0]
    obtain ⟨h1, h2⟩ := h0
    have h3 : Z.length = 0 := by rw [h2]; rfl
    rw [e]
    (first | (refine H.wg ?_; clear H; intros; rename_i w H; constructor) | refine wk ?_)
    exact ⟨V, ⟨none, 0, 0⟩, Sub.refl _, H.sx, rfl, SlF.nil _ _⟩
  have e : tRes (tFlags n k o) Z = putN (tFlags n k o : Nat) ++ putL putN (nz Z) := by unfold tRes; rw [if_neg h0]
  rw [e]
  have hpl := putL_nz_len (Z := Z) hZl hZ
  have hpn := putN_len (n := ((tFlags n k o : Nat) : Int)) (by omega) (by omega)
  by_cases h1 : tFlags n k o = 0
  · have h3 : Z.length ≠ 0 := fun q => h0 ⟨h1, List.eq_nil_of_length_eq_zero q⟩
    (first | (refine H.wg ?_; clear H; intros; rename_i w H; constructor) | refine wk ?_)
    ((first | refine draw_vc (id := 3) tabOk mixed [1, 2] [0, 3, 4, 1, 2, 5, 6, 7] (by kernel_rfl) ?_); intro w hdw; replace H := Rel.ext H hdw.ext)
    (first | (refine H.wg ?_; clear H; intros; rename_i w H; constructor) | refine wk ?_)
    refine (flags_tbl H.data hn k o rs qs).use ?_
    rintro v w ⟨rfl, K⟩
    (have hKb := K.base; replace H := Rel.call H K)
    simp only [List.nil_append] at H
    (first | (refine H.wg ?_; clear H; intros; rename_i w H; constructor) | refine wk ?_)
    refine (number_spec (n := ((tFlags n k o : Nat) : Int)) H.data (by constructor <;> omega)).use ?_
    rintro v w ⟨r1, rfl, K⟩
    (have hKb := K.base; replace H := Rel.call H K)
    simp only [List.cons_append, List.nil_append] at H
    (first | (refine H.wg ?_; clear H; intros; rename_i w H; constructor) | refine wk ?_)
    refine (slice_ints (l := nz Z) (enc := putN) H.data hqs (fun z hz => one_int z ?_) (by rw [List.length_map]; omega) (by omega)).use ?_
    · obtain ⟨m, hm, rfl⟩ := List.mem_map.1 hz
      have := hZ m hm
      constructor <;> omega
    rintro v w ⟨r2, rfl, K⟩
    (have hKb := K.base; replace H := Rel.call H K)
    simp only [List.cons_append, List.nil_append] at H
    (first | (refine H.wg ?_; clear H; intros; rename_i w H; constructor) | refine wk ?_)
    refine Rel.appB H (i := 0) rfl (by omega) ?_
    clear H
    intro rn w H
    simp only [List.set_cons_zero] at H
    obtain ⟨V3, hV3, H, hr3⟩ := Rel.freezeF H (fun _ => rfl) (by decide)
    (first | (refine H.wg ?_; clear H; intros; rename_i w H; constructor) | refine wk ?_)
    exact ⟨V3, rn, hV3, H.sx, rfl, hr3⟩
  · (first | (refine H.wg ?_; clear H; intros; rename_i w H; constructor) | refine wk ?_)
    ((first | refine draw_vc (id := 3) tabOk mixed [1, 2] [0, 3, 4, 1, 2, 5, 6, 7] (by kernel_rfl) ?_); intro w hdw; replace H := Rel.ext H hdw.ext)
    (first | (refine H.wg ?_; clear H; intros; rename_i w H; constructor) | refine wk ?_)
    refine (flags_tbl H.data hn k o rs qs).use ?_
    rintro v w ⟨rfl, K⟩
    (have hKb := K.base; replace H := Rel.call H K)
    simp only [List.nil_append] at H
    (first | (refine H.wg ?_; clear H; intros; rename_i w H; constructor) | refine wk ?_)
    refine (number_spec (n := ((tFlags n k o : Nat) : Int)) H.data (by constructor <;> omega)).use ?_
    rintro v w ⟨r1, rfl, K⟩
    (have hKb := K.base; replace H := Rel.call H K)
    simp only [List.cons_append, List.nil_append] at H
    (first | (refine H.wg ?_; clear H; intros; rename_i w H; constructor) | refine wk ?_)
    refine (slice_ints (l := nz Z) (enc := putN) H.data hqs (fun z hz => one_int z ?_) (by rw [List.length_map]; omega) (by omega)).use ?_
    · obtain ⟨m, hm, rfl⟩ := List.mem_map.1 hz
      have := hZ m hm
      constructor <;> omega
    rintro v w ⟨r2, rfl, K⟩
    (have hKb := K.base; replace H := Rel.call H K)
    simp only [List.cons_append, List.nil_append] at H
    (first | (refine H.wg ?_; clear H; intros; rename_i w H; constructor) | refine wk ?_)
    refine Rel.appB H (i := 0) rfl (by omega) ?_
    clear H
    intro rn w H
    simp only [List.set_cons_zero] at H
    obtain ⟨V3, hV3, H, hr3⟩ := Rel.freezeF H (fun _ => rfl) (by decide)
    (first | (refine H.wg ?_; clear H; intros; rename_i w H; constructor) | refine wk ?_)
    exact ⟨V3, rn, hV3, H.sx, rfl, hr3⟩
set_option maxRecDepth 100000 in
set_option maxHeartbeats 2000000 in
theorem to_tbl (hV : Sub V W) (hT : Tabs V) (hM : MaxB V) {s : Sl} {l : List UInt8} (hs : Byt V s l) (hl : l.length ≤ 1099511627776) : Ret Tryz.prog 6 [s.v].toArray W (ToR W V (toRes (tblTo l) l.length)) := by
  have H := Rel.start hV
  have hlen := hs.len
  refine cal_of_vc tabOk Tryz.func6 rfl (by kernel_rfl) 34 rfl (by simp) [0, 2, 3, 4, 5, 6, 7, 10, 27] ?_
  (first | (refine H.wh ?_; clear H; intros; rename_i w H; constructor) | refine wk ?_)
  ((first | refine Rel.nwD H ?_ | refine Rel.nw H ?_); clear H; intro w b2 H)
  (first | (refine H.wh ?_; clear H; intros; rename_i w H; constructor) | refine wk ?_)
  ((first | refine Rel.nwD H ?_ | refine Rel.nw H ?_); clear H; intro w b4 H)
  by_cases hbig : 1000 < l.length
  · have e : toRes (tblTo l) l.length = ⟨zeroV, [], 3, -1⟩ := by unfold toRes; rw [if_pos hbig]
    rw [e]
    (first | (refine H.wg ?_; clear H; intros; rename_i w H; constructor) | refine wk ?_)
    refine (fault_tbl H.data 3 (-1)).use ?_
    rintro v w ⟨rfl, K⟩
    (have hKb := K.base; replace H := Rel.call H K)
    simp only [List.nil_append] at H
    (first | (refine H.wg ?_; clear H; intros; rename_i w H; constructor) | refine wk ?_)
    exact ⟨V, zeroH, ⟨none, 0, 0⟩, Sub.refl _, H.sx, rfl, valAt_zero _, SlF.nil _ _⟩
  (first | (refine H.wg ?_; clear H; intros; rename_i w H; constructor) | refine wk ?_)
  refine (find_tbl H.data hT hM hs (by omega)).use ?_
  rintro v w ⟨V2, m, j, rs, qs, o, g, hV2, K, rfl, hres⟩
  (have hKb := K.base; replace H := Rel.call H K)
  simp only [List.nil_append] at H
  (first | (refine H.wh ?_; clear H; intros; rename_i w H; constructor) | refine wk ?_)
  ((first | refine Rel.nwD H ?_ | refine Rel.nw H ?_); clear H; intro w b5 H)
  cases hf : tblFind l with
  | none =>
    rw [hf] at hres
    obtain ⟨rfl, rfl⟩ := hres
    have e : toRes (tblTo l) l.length = ⟨zeroV, [], 21, -1⟩ := by unfold toRes; rw [if_neg hbig, tblTo, hf]
    rw [e]
    (first | (refine H.wg ?_; clear H; intros; rename_i w H; constructor) | refine wk ?_)
    refine (plain_tbl H.data m j o (qs := qs) (TblAt.nil _) (by simp) (by simp)).use ?_
    rintro v w ⟨V3, h, hV3, K, rfl, hv⟩
    (have hKb := K.base; replace H := Rel.call H K)
    simp only [List.nil_append] at H
    (first | (refine H.wh ?_; clear H; intros; rename_i w H; constructor) | refine wk ?_)
    ((first | refine Rel.nwD H ?_ | refine Rel.nw H ?_); clear H; intro w b7 H)
    (first | (refine H.wg ?_; clear H; intros; rename_i w H; constructor) | refine wk ?_)
    refine (fault_tbl H.data 21 (-1)).use ?_
    rintro v w ⟨rfl, K⟩
    (have hKb := K.base; replace H := Rel.call H K)
    simp only [List.nil_append] at H
    (first | (refine H.wg ?_; clear H; intros; rename_i w H; constructor) | refine wk ?_)
    exact ⟨V3, zeroH, ⟨none, 0, 0⟩, hV2.trans hV3, H.sx, rfl, valAt_zero _, SlF.nil _ _⟩
  | some y =>
    obtain ⟨i, R, op⟩ := y
    rw [hf] at hres
    obtain ⟨rfl, rfl, rfl, rfl, hrs, hqs⟩ := hres
    dsimp only at hrs hqs ⊢
    have F := tblFind_some hf
    have hi := F.lt
    obtain ⟨q1, q2, q3⟩ := fileB_len (s := sepB (i / 2)) (tEnd_ne (crT i)) o R
    rw [← F.eq] at q1 q2 q3
    have hrl : ∀ r ∈ tblOf R, r.length ≤ 100000 := fun r hr => by
      obtain ⟨x, hx, rfl⟩ := List.mem_map.1 hr
      have := mem_flat_len hx
      rw [List.length_map]
      omega
    have hVB : VB 1048576 (tblVal (tblOf R)) := vb_tbl (by simp; omega) fun a ha => ⟨Nat.le_trans (hrl a ha) (by decide), fun y hy => by
      obtain ⟨x, hx, rfl⟩ := List.mem_map.1 ha
      obtain ⟨c, hc, rfl⟩ := List.mem_map.1 hy
      have := q2 x hx c hc
      omega⟩
    have hto : tblTo l = tblAns i R o := by unfold tblTo; rw [hf]
    (first | (refine H.wg ?_; clear H; intros; rename_i w H; constructor) | refine wk ?_)
    refine (plain_tbl H.data (i / 2) (crT i) o (qs := qs) hrs (by simp; omega) hrl).use ?_
    rintro v w ⟨V3, h, hV3, K, rfl, hv⟩
    (have hKb := K.base; replace H := Rel.call H K)
    simp only [List.nil_append] at H
    (first | (refine H.wh ?_; clear H; intros; rename_i w H; constructor) | refine wk ?_)
    ((first | refine Rel.nwD H ?_ | refine Rel.nw H ?_); clear H; intro w b7 H)
    (first | (refine H.wg ?_; clear H; intros; rename_i w H; constructor) | refine wk ?_)
    refine (validate_value H.data hv hVB).use ?_
    rintro q w ⟨rfl, K⟩
    (have hKb := K.base; replace H := Rel.call H K)
    simp only [List.nil_append] at H
    by_cases hvf : (vfault (tblVal (tblOf R))).1 = 0
    rotate_left
    · have e : toRes (tblTo l) l.length = ⟨zeroV, [], 21, -1⟩ := by unfold toRes; rw [if_neg hbig, hto]; unfold tblAns; rw [if_neg hvf]
      rw [e]
      (first | (refine H.wg ?_; clear H; intros; rename_i w H; constructor) | refine wk ?_)
      refine (fault_tbl H.data 21 (-1)).use ?_
      rintro v w ⟨rfl, K⟩
      (have hKb := K.base; replace H := Rel.call H K)
      simp only [List.nil_append] at H
      (first | (refine H.wg ?_; clear H; intros; rename_i w H; constructor) | refine wk ?_)
      exact ⟨V3, zeroH, ⟨none, 0, 0⟩, hV2.trans hV3, H.sx, rfl, valAt_zero _, SlF.nil _ _⟩
    have e : toRes (tblTo l) l.length = ⟨tblVal (tblOf R), tRes (tFlags (i / 2) (crT i) o) (qn (sepB (i / 2)) 0 R.flatten), 0, 0⟩ := by unfold toRes; rw [if_neg hbig, hto]; unfold tblAns; rw [if_pos hvf]
    rw [e, vfault_zz hvf]
    have hqf := qn_file (s := sepB (i / 2)) (e := tEnd (crT i)) o R 0
    rw [← F.eq] at hqf
    have hok := okT_qn (s := sepB (i / 2)) (cs := R.flatten) (by omega)
    (first | (refine H.wg ?_; clear H; intros; rename_i w H; constructor) | refine wk ?_)
    ((first | refine draw_vc (id := 7) tabOk mixed [2] [0, 1, 3, 2, 4, 5, 6] (by kernel_rfl) ?_); intro w hdw; replace H := Rel.ext H hdw.ext)
    (first | (refine H.wg ?_; clear H; intros; rename_i w H; constructor) | refine wk ?_)
    refine (residue_tbl H.data (by omega) (crT i) o rs (hqs.up hV3) (by omega) (fun n hn => ?_)).use ?_
    · have := hok.1 (n : Int) (List.mem_map.2 ⟨n, hn, rfl⟩)
      omega
    rintro v w ⟨V4, r2, hV4, K, rfl, hr2⟩
    (have hKb := K.base; replace H := Rel.call H K)
    simp only [List.nil_append] at H
    (first | (refine H.wg ?_; clear H; intros; rename_i w H; constructor) | refine wk ?_)
    exact ⟨V4, _, r2, (hV2.trans hV3).trans hV4, H.sx, rfl, hv.up hV4, hr2⟩
end
end Go.Proofs.YtkfcdjomkcmkeaaGreatDoor
