/-
  Plain values: Nodes and ValueFault of the reference.
-/
import Derived.Test.YtffaffojkfalhaaGreatDoorValG
import Derived.Test.YtffaffojkfalhaaGreatDoorWirC
namespace Go.Proofs.YtffaffojkfalhaaGreatDoor
open Go Go.RowKit

abbrev VP := VH × Sl
abbrev nodC (p : VP) : List Value := [iv p.1.k, iv p.1.n, p.1.bs.v, p.1.ss.v, p.1.pl.v, p.2.v]
abbrev nodV (p : VP) : List Value := valC p.1
abbrev nodP (p : VP) : List Value := [p.2.v]
/-- a node with its path -/
structure NodeAt (V : World) (p : VP) (q : Val × Nat) : Prop where
  val : ValAt V p.1 q.1
  path : ∃ l : List Int, SlF itC V p.2 l ∧ l.length = q.2
theorem NodeAt.up (V V' : World) (x : VP) (y : Val × Nat) (hs : Sub V V') (h : NodeAt V x y) : NodeAt V' x y := by
  obtain ⟨l, h1, h2⟩ := h.path
  exact ⟨h.val.up hs, l, h1.up hs, h2⟩
abbrev preP (p : Val × Nat) : List (Val × Nat) := pre p.2 p.1
theorem Pw.last {α β : Type} {R : World → β → α → Prop} {V : World} {xs : List β} {ys : List α} {x : β} {y : α} (h : Pw R V (xs ++ [x]) (ys ++ [y])) : Pw R V xs ys ∧ R V x y := by
  have hl : xs.length = ys.length := by simpa using h.len
  refine ⟨⟨hl, fun k a b h1 h2 => ?_⟩, ?_⟩
  · have g1 := (List.getElem?_eq_some_iff.1 h1).1
    exact h.all k a b (by rw [List.getElem?_append_left g1]; exact h1) (by rw [List.getElem?_append_left (by omega)]; exact h2)
  · exact h.all xs.length x y (by simp) (by rw [hl]; simp)
theorem last_of {α : Type} {l : List α} (h : l.length ≠ 0) : ∃ i x, l = i ++ [x] := by
  rcases List.eq_nil_or_concat l with rfl | ⟨i, x, rfl⟩
  · simp at h
  · exact ⟨i, x, by simp⟩
/-- the parts of a node, pushed in reverse -/
def pushed (ps : List Val) (d t : Nat) : List (Val × Nat) := (ps.drop t).reverse.map fun p => (p, d + 1)
theorem pushed_step {ps : List Val} {d t : Nat} (ht : t < ps.length) : pushed ps d t = pushed ps d (t + 1) ++ [(ps[t], d + 1)] := by
  unfold pushed
  rw [List.drop_eq_getElem_cons ht]
  simp only [List.reverse_cons, List.map_append, List.map_cons, List.map_nil]
theorem pushed_pre (ps : List Val) (d : Nat) : (pushed ps d 0).reverse.flatMap preP = ps.flatMap (pre (d + 1)) := by
  unfold pushed
  rw [List.drop_zero, ← List.map_reverse, List.reverse_reverse, List.flatMap_map]
section
variable {V W : World}
set_option maxRecDepth 100000 in
set_option maxHeartbeats 2000000 in
theorem nodes_ref (hV : Sub V W) {h : VH} {v : Val} (hv : ValAt V h v) (hB : VB 1048576 v) : Ret Tryz.prog 39 [valV h, iv 601].toArray W fun q w' => ∃ (V' : World) (r r' : Sl) (os : List VP), Sub V V' ∧ Rel W V [] V' w' ∧ q = .tuple #[r.v, r'.v] ∧ SlF nodV V' r os ∧ SlF nodP V' r' os ∧ Pw NodeAt V' os ((pre 0 v).take 601) := by
  have H := Rel.start hV
  refine cal_of_vc tabOk Tryz.func39 rfl (by kernel_rfl) 84 rfl (by simp) [0, 1, 2, 4, 5, 6, 7, 8, 9, 10, 11, 12, 24, 49, 56, 61] ?_
  (first | (refine H.wh ?_; clear H; intros; rename_i w H; constructor) | refine wk ?_)
  ((first | refine Rel.nwD H ?_ | refine Rel.nw H ?_); clear H; intro w b2 H)
  (first | (refine H.wh ?_; clear H; intros; rename_i w H; constructor) | refine wk ?_)
  ((first | refine Rel.nwD H ?_ | refine Rel.nw H ?_); clear H; intro w b6 H)
  replace H : Rel W V [.blk b6 (nodC (h, ⟨none, 0, 0⟩)) 109] V w := H.sx
  have H2 := H.toRow (n := 1) (sz := 6) rfl (by decide)
  replace H : Rel W V [.row ⟨some ⟨b6, 0, none⟩, 1, 1⟩ 109 6 (([(h, ⟨none, 0, 0⟩)] : List VP).flatMap nodC)] V w := H2
  clear H2
  replace H := H.rowNil 80 1
  replace H := H.rowNil 27 5
  (first | (refine H.wg ?_; clear H; intros; rename_i w H; constructor) | refine wk ?_)
  have hp0 : SlF itC V ⟨none, 0, 0⟩ ([] : List Int) := SlF.nil _ _
  refine loop_inv (S := Sl × Sl × Sl × List VP × List (Val × Nat) × List VP × List (Val × Nat)) tabOk [0, 1, 2, 4, 5] (fun k => [(6, k.1.v), (7, k.2.1.v), (8, k.2.2.1.v)]) (fun k w' => k.2.2.2.2.2.2 ++ k.2.2.2.2.1.reverse.flatMap preP = pre 0 v ∧ k.2.2.2.2.2.2.length ≤ 601 ∧ k.2.2.2.2.1.length ≤ 1 + k.2.2.2.2.2.2.length * 601 ∧ (∀ p ∈ k.2.2.2.2.1, VB 1048576 p.1) ∧ ∃ V1, Sub V V1 ∧ Pw NodeAt V1 k.2.2.2.1 k.2.2.2.2.1 ∧ Pw NodeAt V1 k.2.2.2.2.2.1 k.2.2.2.2.2.2 ∧ Rel W V [.row k.2.1 27 5 (k.2.2.2.2.2.1.flatMap nodV), .row k.2.2.1 80 1 (k.2.2.2.2.2.1.flatMap nodP), .row k.1 109 6 (k.2.2.2.1.flatMap nodC)] V1 w') (fun k _ => 601 - k.2.2.2.2.2.2.length) (⟨some ⟨b6, 0, none⟩, 1, 1⟩, ⟨none, 0, 0⟩, ⟨none, 0, 0⟩, [(h, ⟨none, 0, 0⟩)], [(v, 0)], [], []) ?_
  (conv => whnf)
  refine ⟨(by repeat (first | exact trivial | refine ⟨rfl, ?_⟩)), ⟨by simp, by simp, by simp, by simpa using hB, V, Sub.refl _, ⟨rfl, fun k x y h1 h2 => ?_⟩, Pw.nil, H⟩, ?_⟩
  · cases k with
    | zero => cases h1; cases h2; exact ⟨hv, [], hp0, rfl⟩
    | succ k => simp at h1
  clear H
  rintro ⟨r6, r7, r8, stk, sv, os, ov⟩ w ⟨hpre, hol, hsl, hvb, V1, hV1, hps, hpo, H⟩
  dsimp only at hpre hol hsl hvb hps hpo H ⊢
  have hs6 := H.slfAt (i := 2) rfl (fun _ => rfl) (by decide)
  have hs7 := H.slfAt (i := 0) rfl (fun _ => rfl) (by decide)
  have hl6 := hs6.len
  have hcap6 := hs6.cap
  have hl7 := hs7.len
  have hlp := hps.len
  have hlo := hpo.len
  have fin : (stk = [] ∨ 601 ≤ ov.length) → (pre 0 v).take 601 = ov := by
    intro hc
    rw [← hpre]
    rcases hc with rfl | hc
    · have : sv = [] := List.eq_nil_of_length_eq_zero (by rw [← hlp]; rfl)
      subst this
      simp only [List.reverse_nil, List.flatMap_nil, List.append_nil]
      exact List.take_of_length_le hol
    · exact List.take_left' (by omega)
  by_cases hst : stk.length = 0
  · have hnil : stk = [] := List.eq_nil_of_length_eq_zero hst
    (first | (refine H.wg ?_; clear H; intros; rename_i w H; constructor) | refine wk ?_)
    obtain ⟨V2, hV2, H, h7⟩ := Rel.freezeF H (fun _ => rfl) (by decide)
    obtain ⟨V3, hV3, H, h8⟩ := Rel.freezeF H (fun _ => rfl) (by decide)
    (first | (refine H.wg ?_; clear H; intros; rename_i w H; constructor) | refine wk ?_)
    exact ⟨V3, r7, r8, os, hV1.trans (hV2.trans hV3), H.sx, rfl, h7.up hV3, h8, by rw [fin (.inl hnil)]; exact hpo.up NodeAt.up (hV2.trans hV3)⟩
  by_cases hov : 601 ≤ ov.length
  · (first | (refine H.wg ?_; clear H; intros; rename_i w H; constructor) | refine wk ?_)
    obtain ⟨V2, hV2, H, h7⟩ := Rel.freezeF H (fun _ => rfl) (by decide)
    obtain ⟨V3, hV3, H, h8⟩ := Rel.freezeF H (fun _ => rfl) (by decide)
    (first | (refine H.wg ?_; clear H; intros; rename_i w H; constructor) | refine wk ?_)
    exact ⟨V3, r7, r8, os, hV1.trans (hV2.trans hV3), H.sx, rfl, h7.up hV3, h8, by rw [fin (.inr hov)]; exact hpo.up NodeAt.up (hV2.trans hV3)⟩
  obtain ⟨si, p, rfl⟩ := last_of hst
  obtain ⟨svi, q, rfl⟩ := last_of (l := sv) (by rw [← hlp]; exact hst)
  obtain ⟨hpi, hpq⟩ := hps.last
  clear fin
  obtain ⟨x, path⟩ := p
  obtain ⟨u, d⟩ := q
  obtain ⟨hx, pl, hpl1, hpl2⟩ := hpq
  dsimp only at hx hpl1 hpl2
  have hub : VB 1048576 u := hvb (u, d) (by simp)
  have hpls := hpl1.len
  have hul := hub.parts
  have hplen := hx.plen
  simp only [List.length_append, List.length_cons, List.length_nil] at hl6 hlp hsl
  have hlast : (si ++ [(x, path)])[r6.len - 1]'(by simp; omega) = (x, path) := by
    have : r6.len - 1 = si.length := by omega
    simp only [this, List.getElem_append_right (Nat.le_refl _), Nat.sub_self, List.getElem_cons_zero]
  obtain ⟨g1, g2⟩ := hs6.get (n := 6) (fun _ => rfl) (by omega) (i := r6.len - 1) (by simp; omega)
  rw [hlast] at g2
  have ei : ((r6.len : Int) - 1).toNat = r6.len - 1 := by omega
  rw [← ei] at g2
  have q0 := g2 0 _ rfl
  have q1 := g2 1 _ rfl
  have q2 := g2 2 _ rfl
  have q3 := g2 3 _ rfl
  have q4 := g2 4 _ rfl
  have q5 := g2 5 _ rfl
  (first | (refine H.wh ?_; clear H; intros; rename_i w H; constructor) | refine wk ?_)
  ((first | refine Rel.nwD H ?_ | refine Rel.nw H ?_); clear H; intro w b9 H)
  (first | (refine H.wh ?_; clear H; intros; rename_i w H; constructor) | refine wk ?_)
  have hsh := H.shrinkAt (i := 3) rfl (k := ((r6.len : Int) - 1).toNat) (by omega)
  rw [show (si ++ [(x, path)]).flatMap nodC = si.flatMap nodC ++ nodC (x, path) by simp] at hsh
  rw [List.take_left' (by rw [flat_len (n := 6) (fun _ => rfl)]; congr 1; omega)] at hsh
  replace H : Rel W V [.blk b9 [iv x.k, iv x.n, x.bs.v, x.ss.v, x.pl.v, path.v] 109, .row r7 27 5 (os.flatMap nodV), .row r8 80 1 (os.flatMap nodP), .row ⟨subA r6.a 0 r6.cap 6, ((r6.len : Int) - 1).toNat - 0, r6.cap - 0⟩ 109 6 (si.flatMap nodC)] V1 w := hsh
  clear hsh
  have hpre2 : (ov ++ [(u, d)]) ++ ((if 10 < d then [] else (u.parts.take 601).flatMap (pre (d + 1))) ++ svi.reverse.flatMap preP) = pre 0 v := by
    rw [← hpre, List.reverse_append, List.flatMap_append]
    simp only [List.reverse_cons, List.reverse_nil, List.nil_append, List.flatMap_cons, List.flatMap_nil, List.append_nil, preP]
    rw [pre_eq d u]
    simp
  have hvb2 : ∀ p ∈ svi, VB 1048576 p.1 := fun p hp => hvb p (by simp [hp])
  have hpo2 := hpo.snoc (x := (x, path)) (y := (u, d)) ⟨hx, pl, hpl1, hpl2⟩
  (first | (refine H.wh ?_; clear H; intros; rename_i w H; constructor) | refine wk ?_)
  ((first | refine Rel.nwD H ?_ | refine Rel.nw H ?_); clear H; intro w bt H)
  (first | (refine H.wh ?_; clear H; intros; rename_i w H; constructor) | refine wk ?_)
  refine Rel.app1_1 (f := nodV) (l := os) (x := (x, path)) tabOk rfl rfl rfl rfl rfl (by decide) (fun _ => rfl) (List.all_eq_true.1 rfl) H (by simp; omega) (by omega) ?_
  clear H
  intro rn7 w H
  (first | (refine H.wh ?_; clear H; intros; rename_i w H; constructor) | refine wk ?_)
  ((first | refine Rel.nwD H ?_ | refine Rel.nw H ?_); clear H; intro w bt2 H)
  (first | (refine H.wh ?_; clear H; intros; rename_i w H; constructor) | refine wk ?_)
  refine Rel.app1_2 (f := nodP) (l := os) (x := (x, path)) tabOk rfl rfl rfl rfl rfl (by decide) (fun _ => rfl) (List.all_eq_true.1 rfl) H (by simp; omega) (by omega) ?_
  clear H
  intro rn8 w H
  by_cases hd : 10 < d
  · rw [if_pos hd, List.nil_append] at hpre2
    (first | (refine H.wh ?_; clear H; intros; rename_i w H; constructor) | refine wk ?_)
    refine ⟨(by repeat (first | exact trivial | refine ⟨rfl, ?_⟩)), (⟨subA r6.a 0 r6.cap 6, ((r6.len : Int) - 1).toNat - 0, r6.cap - 0⟩, rn7, rn8, si, svi, os ++ [(x, path)], ov ++ [(u, d)]), ?_, ⟨hpre2, by simp; omega, by simp; omega, hvb2, V1, hV1, hpi, hpo2, H.sx⟩, by simp; omega⟩
    exact ⟨rfl, rfl, rfl, trivial⟩
  rw [if_neg hd] at hpre2
  obtain ⟨ps, hps_⟩ : ∃ ps, ps = u.parts.take 601 := ⟨_, rfl⟩
  have hpsl : ps.length = min u.parts.length 601 := by rw [hps_, List.length_take]; omega
  rw [← hps_] at hpre2
  have hel : ∀ t (ht : t < ps.length), ∃ h2 : t < u.parts.length, ps[t] = u.parts[t] := fun t ht => ⟨by omega, by subst hps_; simp⟩
  by_cases h601 : 601 < u.parts.length
  · (first | (refine H.wh ?_; clear H; intros; rename_i w H; constructor) | refine wk ?_)
    refine loop_inv (S := Nat × Sl × List VP) tabOk [0, 1, 2, 4, 5, 7, 8, 9, 10, 24, 49, 56] (fun k => [(6, k.2.1.v), (11, .int .i64 ((k.1 : Int) - 1))]) (fun k w' => k.1 ≤ ps.length ∧ ∃ V2, Sub V1 V2 ∧ Pw NodeAt V2 k.2.2 (svi ++ pushed ps d k.1) ∧ Rel W V [.blk b9 [iv x.k, iv x.n, x.bs.v, x.ss.v, x.pl.v, path.v] 109, .row rn7 27 5 ((os ++ [(x, path)]).flatMap nodV), .row rn8 80 1 ((os ++ [(x, path)]).flatMap nodP), .row k.2.1 109 6 (k.2.2.flatMap nodC)] V2 w') (fun k _ => k.1) (ps.length, ⟨subA r6.a 0 r6.cap 6, ((r6.len : Int) - 1).toNat - 0, r6.cap - 0⟩, si) ?_
    (conv => whnf)
    refine ⟨⟨rfl, ?_, trivial⟩, ⟨Nat.le_refl _, V1, Sub.refl _, ?_, H.sx⟩, ?_⟩
    · exact congrArg (fun z => some (Value.int .i64 z)) (by dsimp only; omega)
    · have : pushed ps d ps.length = [] := by simp [pushed]
      rw [this, List.append_nil]
      exact hpi
    clear H
    rintro ⟨t, r, stk⟩ w ⟨ht, V2, hV2, hpk, H⟩
    dsimp only at ht hpk H
    by_cases ht0 : t = 0
    · subst ht0
      (first | (refine H.wh ?_; clear H; intros; rename_i w H; constructor) | refine wk ?_)
      refine ⟨(by repeat (first | exact trivial | refine ⟨rfl, ?_⟩)), (r, rn7, rn8, stk, svi ++ pushed ps d 0, os ++ [(x, path)], ov ++ [(u, d)]), (by repeat (first | exact trivial | refine ⟨rfl, ?_⟩)), ⟨?_, by simp; omega, ?_, ?_, V2, hV1.trans hV2, hpk, hpo2.up NodeAt.up hV2, H.sx⟩, by simp; omega⟩
      · rw [List.reverse_append, List.flatMap_append, pushed_pre]
        exact hpre2
      · simp only [List.length_append, pushed, List.length_map, List.length_reverse, List.length_drop, List.length_cons, List.length_nil]
        omega
      · intro p hp
        rcases List.mem_append.1 hp with hp | hp
        · exact hvb2 p hp
        · simp only [pushed, List.drop_zero, List.mem_map, List.mem_reverse] at hp
          obtain ⟨y, hy, rfl⟩ := hp
          exact hub.part y (by rw [hps_] at hy; exact List.mem_of_mem_take hy)
    obtain ⟨t, rfl⟩ : ∃ t', t = t' + 1 := ⟨t - 1, by omega⟩
    obtain ⟨ht2, hte⟩ := hel t (by omega)
    have hsk := H.slfAt (i := 3) rfl (fun _ => rfl) (by decide)
    have hskl := hsk.len
    have hpkl := hpk.len
    have hpul : (pushed ps d (t + 1)).length = ps.length - (t + 1) := by simp [pushed]
    rw [List.length_append, hpul] at hpkl
    obtain ⟨hp, y, hy, z0, z1, z2, z3, z4⟩ := (hx.up hV2).part5 ht2
    have hpl3 := hpl1.up hV2
    have et : (((t + 1 : Nat) : Int) - 1) = (t : Int) := by omega
    rw [et]
    (first | (refine H.wh ?_; clear H; intros; rename_i w H; constructor) | refine wk ?_)
    replace H := H.rowNil 3 1
    refine Rel.appI (s := ⟨none, 0, 0⟩) (x := path) (xs := []) (ys := pl) H (i := 0) rfl hpl3 (by simp; omega) ?_
    clear H
    intro rp w H
    (first | (refine H.wh ?_; clear H; intros; rename_i w H; constructor) | refine wk ?_)
    ((first | refine draw_vcX (id := 18) tabOk mixed (Sav (rowX rp)) (fun _ _ _ => Sav.trans) [9, 10] [3, 6] [0, 1, 2, 3, 4, 5, 6, 7, 8, 9, 10, 11, 12, 13, 14] (by kernel_rfl) ?_); intro w hdw; replace H := Rel.ext H hdw.ext)
    (first | (refine H.wh ?_; clear H; intros; rename_i w H; constructor) | refine wk ?_)
    (refine And.intro (fun w1 hsv => ?_) ?_; focus (obtain ⟨_, H1⟩ := Rel.savRow H (i := 0) rfl hsv; clear H; have H := H1; clear H1; ((repeat ((conv => whnf); first | refine an ?_ | ((first | refine H.nwD ?_ | refine H.nw ?_); clear H; intro w _ H) | refine H.ce ?_ | refine H.db ?_ | refine ea ?_ | refine ol ?_ | (refine H.st ?_; (conv => whnf); clear H; intro w H) | refine cT ?_ | refine cF ?_ | refine cN ?_ | refine cM ?_ | refine H.lw ?_ | refine H.ll ?_)); (conv => whnf)); try exact ⟨rfl, rfl⟩))
    (first | (refine H.wh ?_; clear H; intros; rename_i w H; constructor) | refine wk ?_)
    (refine And.intro (fun w1 hsv => ?_) ?_; focus (obtain ⟨_, H1⟩ := Rel.savRow H (i := 0) rfl hsv; clear H; have H := H1; clear H1; ((repeat ((conv => whnf); first | refine an ?_ | ((first | refine H.nwD ?_ | refine H.nw ?_); clear H; intro w _ H) | refine H.ce ?_ | refine H.db ?_ | refine ea ?_ | refine ol ?_ | (refine H.st ?_; (conv => whnf); clear H; intro w H) | refine cT ?_ | refine cF ?_ | refine cN ?_ | refine cM ?_ | refine H.lw ?_ | refine H.ll ?_)); (conv => whnf)); try exact ⟨rfl, rfl⟩))
    (first | (refine H.wh ?_; clear H; intros; rename_i w H; constructor) | refine wk ?_)
    (refine Rel.nwX H ?_; clear H; intro w bi H)
    (first | (refine H.wh ?_; clear H; intros; rename_i w H; constructor) | refine wk ?_)
    refine Rel.app1X (f := itC) (l := [] ++ pl) (x := (t : Int)) tabOk rfl rfl rfl rfl rfl (by decide) (fun _ => rfl) (List.all_eq_true.1 rfl) H (i := 0) rfl (by simp; omega) (by simp; omega) ?_
    clear H
    intro rp2 w H
    obtain ⟨V3, hV3, H, hrp⟩ := Rel.freezeF H (fun _ => rfl) (by decide)
    (first | (refine H.wh ?_; clear H; intros; rename_i w H; constructor) | refine wk ?_)
    ((first | refine Rel.nwD H ?_ | refine Rel.nw H ?_); clear H; intro w bn H)
    (first | (refine H.wh ?_; clear H; intros; rename_i w H; constructor) | refine wk ?_)
    refine Rel.app1_3 (f := nodC) (l := stk) (x := (y, rp2)) tabOk rfl rfl rfl rfl rfl (by decide) (fun _ => rfl) (List.all_eq_true.1 rfl) H (by simp; omega) (by omega) ?_
    clear H
    intro rk w H
    (first | (refine H.wh ?_; clear H; intros; rename_i w H; constructor) | refine wk ?_)
    refine ⟨(by repeat (first | exact trivial | refine ⟨rfl, ?_⟩)), (t, rk, stk ++ [(y, rp2)]), ?_, ⟨by omega, V3, hV2.trans hV3, ?_, H.sx⟩, by omega⟩
    · exact ⟨rfl, rfl, trivial⟩
    · dsimp only
      rw [pushed_step (by omega), ← List.append_assoc]
      exact (hpk.up NodeAt.up hV3).snoc ⟨by rw [hte]; exact hy.up hV3, _, hrp, by simp; omega⟩
  · (first | (refine H.wh ?_; clear H; intros; rename_i w H; constructor) | refine wk ?_)
    refine loop_inv (S := Nat × Sl × List VP) tabOk [0, 1, 2, 4, 5, 7, 8, 9, 10, 24, 49, 56] (fun k => [(6, k.2.1.v), (11, .int .i64 ((k.1 : Int) - 1))]) (fun k w' => k.1 ≤ ps.length ∧ ∃ V2, Sub V1 V2 ∧ Pw NodeAt V2 k.2.2 (svi ++ pushed ps d k.1) ∧ Rel W V [.blk b9 [iv x.k, iv x.n, x.bs.v, x.ss.v, x.pl.v, path.v] 109, .row rn7 27 5 ((os ++ [(x, path)]).flatMap nodV), .row rn8 80 1 ((os ++ [(x, path)]).flatMap nodP), .row k.2.1 109 6 (k.2.2.flatMap nodC)] V2 w') (fun k _ => k.1) (ps.length, ⟨subA r6.a 0 r6.cap 6, ((r6.len : Int) - 1).toNat - 0, r6.cap - 0⟩, si) ?_
    (conv => whnf)
    refine ⟨⟨rfl, ?_, trivial⟩, ⟨Nat.le_refl _, V1, Sub.refl _, ?_, H.sx⟩, ?_⟩
    · exact congrArg (fun z => some (Value.int .i64 z)) (by dsimp only; omega)
    · have : pushed ps d ps.length = [] := by simp [pushed]
      rw [this, List.append_nil]
      exact hpi
    clear H
    rintro ⟨t, r, stk⟩ w ⟨ht, V2, hV2, hpk, H⟩
    dsimp only at ht hpk H
    by_cases ht0 : t = 0
    · subst ht0
      (first | (refine H.wh ?_; clear H; intros; rename_i w H; constructor) | refine wk ?_)
      refine ⟨(by repeat (first | exact trivial | refine ⟨rfl, ?_⟩)), (r, rn7, rn8, stk, svi ++ pushed ps d 0, os ++ [(x, path)], ov ++ [(u, d)]), (by repeat (first | exact trivial | refine ⟨rfl, ?_⟩)), ⟨?_, by simp; omega, ?_, ?_, V2, hV1.trans hV2, hpk, hpo2.up NodeAt.up hV2, H.sx⟩, by simp; omega⟩
      · rw [List.reverse_append, List.flatMap_append, pushed_pre]
        exact hpre2
      · simp only [List.length_append, pushed, List.length_map, List.length_reverse, List.length_drop, List.length_cons, List.length_nil]
        omega
      · intro p hp
        rcases List.mem_append.1 hp with hp | hp
        · exact hvb2 p hp
        · simp only [pushed, List.drop_zero, List.mem_map, List.mem_reverse] at hp
          obtain ⟨y, hy, rfl⟩ := hp
          exact hub.part y (by rw [hps_] at hy; exact List.mem_of_mem_take hy)
    obtain ⟨t, rfl⟩ : ∃ t', t = t' + 1 := ⟨t - 1, by omega⟩
    obtain ⟨ht2, hte⟩ := hel t (by omega)
    have hsk := H.slfAt (i := 3) rfl (fun _ => rfl) (by decide)
    have hskl := hsk.len
    have hpkl := hpk.len
    have hpul : (pushed ps d (t + 1)).length = ps.length - (t + 1) := by simp [pushed]
    rw [List.length_append, hpul] at hpkl
    obtain ⟨hp, y, hy, z0, z1, z2, z3, z4⟩ := (hx.up hV2).part5 ht2
    have hpl3 := hpl1.up hV2
    have et : (((t + 1 : Nat) : Int) - 1) = (t : Int) := by omega
    rw [et]
    (first | (refine H.wh ?_; clear H; intros; rename_i w H; constructor) | refine wk ?_)
    replace H := H.rowNil 3 1
    refine Rel.appI (s := ⟨none, 0, 0⟩) (x := path) (xs := []) (ys := pl) H (i := 0) rfl hpl3 (by simp; omega) ?_
    clear H
    intro rp w H
    (first | (refine H.wh ?_; clear H; intros; rename_i w H; constructor) | refine wk ?_)
    ((first | refine draw_vcX (id := 18) tabOk mixed (Sav (rowX rp)) (fun _ _ _ => Sav.trans) [9, 10] [3, 6] [0, 1, 2, 3, 4, 5, 6, 7, 8, 9, 10, 11, 12, 13, 14] (by kernel_rfl) ?_); intro w hdw; replace H := Rel.ext H hdw.ext)
    (first | (refine H.wh ?_; clear H; intros; rename_i w H; constructor) | refine wk ?_)
    (refine And.intro (fun w1 hsv => ?_) ?_; focus (obtain ⟨_, H1⟩ := Rel.savRow H (i := 0) rfl hsv; clear H; have H := H1; clear H1; ((repeat ((conv => whnf); first | refine an ?_ | ((first | refine H.nwD ?_ | refine H.nw ?_); clear H; intro w _ H) | refine H.ce ?_ | refine H.db ?_ | refine ea ?_ | refine ol ?_ | (refine H.st ?_; (conv => whnf); clear H; intro w H) | refine cT ?_ | refine cF ?_ | refine cN ?_ | refine cM ?_ | refine H.lw ?_ | refine H.ll ?_)); (conv => whnf)); try exact ⟨rfl, rfl⟩))
    (first | (refine H.wh ?_; clear H; intros; rename_i w H; constructor) | refine wk ?_)
    (refine And.intro (fun w1 hsv => ?_) ?_; focus (obtain ⟨_, H1⟩ := Rel.savRow H (i := 0) rfl hsv; clear H; have H := H1; clear H1; ((repeat ((conv => whnf); first | refine an ?_ | ((first | refine H.nwD ?_ | refine H.nw ?_); clear H; intro w _ H) | refine H.ce ?_ | refine H.db ?_ | refine ea ?_ | refine ol ?_ | (refine H.st ?_; (conv => whnf); clear H; intro w H) | refine cT ?_ | refine cF ?_ | refine cN ?_ | refine cM ?_ | refine H.lw ?_ | refine H.ll ?_)); (conv => whnf)); try exact ⟨rfl, rfl⟩))
    (first | (refine H.wh ?_; clear H; intros; rename_i w H; constructor) | refine wk ?_)
    (refine Rel.nwX H ?_; clear H; intro w bi H)
    (first | (refine H.wh ?_; clear H; intros; rename_i w H; constructor) | refine wk ?_)
    refine Rel.app1X (f := itC) (l := [] ++ pl) (x := (t : Int)) tabOk rfl rfl rfl rfl rfl (by decide) (fun _ => rfl) (List.all_eq_true.1 rfl) H (i := 0) rfl (by simp; omega) (by simp; omega) ?_
    clear H
    intro rp2 w H
    obtain ⟨V3, hV3, H, hrp⟩ := Rel.freezeF H (fun _ => rfl) (by decide)
    (first | (refine H.wh ?_; clear H; intros; rename_i w H; constructor) | refine wk ?_)
    ((first | refine Rel.nwD H ?_ | refine Rel.nw H ?_); clear H; intro w bn H)
    (first | (refine H.wh ?_; clear H; intros; rename_i w H; constructor) | refine wk ?_)
    refine Rel.app1_3 (f := nodC) (l := stk) (x := (y, rp2)) tabOk rfl rfl rfl rfl rfl (by decide) (fun _ => rfl) (List.all_eq_true.1 rfl) H (by simp; omega) (by omega) ?_
    clear H
    intro rk w H
    (first | (refine H.wh ?_; clear H; intros; rename_i w H; constructor) | refine wk ?_)
    refine ⟨(by repeat (first | exact trivial | refine ⟨rfl, ?_⟩)), (t, rk, stk ++ [(y, rp2)]), ?_, ⟨by omega, V3, hV2.trans hV3, ?_, H.sx⟩, by omega⟩
    · exact ⟨rfl, rfl, trivial⟩
    · dsimp only
      rw [pushed_step (by omega), ← List.append_assoc]
      exact (hpk.up NodeAt.up hV3).snoc ⟨by rw [hte]; exact hy.up hV3, _, hrp, by simp; omega⟩
end
end Go.Proofs.YtffaffojkfalhaaGreatDoor
namespace Go.Proofs.YtffaffojkfalhaaGreatDoor
open Go Go.RowKit

theorem scan_hit {L : List (Val × Nat)} {i d : Nat} {u : Val} (h : scan (L.take i) 0 = .ok i) (hi : L[i]? = some (u, d)) (hc : atCode u i d ≠ 0) : scan L 0 = .error (atCode u i d, (i : Int)) := by
  have hlt := (List.getElem?_eq_some_iff.1 hi).1
  have he := (List.getElem?_eq_some_iff.1 hi).2
  conv => lhs; rw [← List.take_append_drop i L, scan_append, h]
  rw [List.drop_eq_getElem_cons hlt, he]
  simp only [scan]
  rw [if_pos hc]
theorem scan_go {L : List (Val × Nat)} {i d : Nat} {u : Val} (h : scan (L.take i) 0 = .ok i) (hi : L[i]? = some (u, d)) (hc : atCode u i d = 0) : scan (L.take (i + 1)) 0 = .ok (i + 1) := by
  have hlt := (List.getElem?_eq_some_iff.1 hi).1
  have he := (List.getElem?_eq_some_iff.1 hi).2
  rw [List.take_succ_eq_append_getElem hlt, scan_append, h, he]
  simp only [scan]
  rw [if_neg (fun h => h hc)]
theorem vfault_hit {v : Val} {i d : Nat} {u : Val} (h : scan (((pre 0 v).take 601).take i) 0 = .ok i) (hi : ((pre 0 v).take 601)[i]? = some (u, d)) (hc : atCode u i d ≠ 0) : vfault v = (atCode u i d, (i : Int)) := by
  have := scan_hit h hi hc
  rw [scan_take] at this
  unfold vfault chk
  rw [this]
theorem vfault_ok {v : Val} (h : scan ((pre 0 v).take 601) 0 = .ok ((pre 0 v).take 601).length) : (pre 0 v).take 601 = pre 0 v ∧ vfault v = (if 4000 < sz (pre 0 v) then (14, -1) else (0, 0)) ∧ ∀ (i : Nat) u d, (pre 0 v)[i]? = some (u, d) → nodeCode u = 0 := by
  rw [scan_take] at h
  have hb := scan_bounds _ _ _ h
  have hub := chk_ub (v := v) (d := 0) (n := 0) h
  have hlen : (pre 0 v).length ≤ 600 := by omega
  refine ⟨List.take_of_length_le (by omega), ?_, fun i u d hi => ?_⟩
  · have hc : chk 0 v 0 = .ok ((pre 0 v).take 601).length := h
    unfold vfault
    rw [hc]
    simp only
    rw [enc_len v hc]
    by_cases hs : 4000 < sz (pre 0 v)
    · rw [if_pos hs, if_pos ((sz_iff _).1 hs)]
    · rw [if_neg hs, if_neg (fun h => hs ((sz_iff _).2 h))]
  · have := hb.2 i u d hi
    unfold atCode at this
    split at this
    · cases this
    · exact this
theorem sz_take (L : List (Val × Nat)) (i : Nat) : sz (L.take i) ≤ sz L := by
  conv => rhs; rw [← List.take_append_drop i L]
  simp only [sz, List.map_append, List.sum_append]
  omega
theorem sz_succ {L : List (Val × Nat)} {i d : Nat} {u : Val} (hi : L[i]? = some (u, d)) : sz (L.take (i + 1)) = sz (L.take i) + nodeSz u := by
  have hlt := (List.getElem?_eq_some_iff.1 hi).1
  have he := (List.getElem?_eq_some_iff.1 hi).2
  rw [List.take_succ_eq_append_getElem hlt, he]
  simp [sz]
set_option maxRecDepth 100000 in
set_option maxHeartbeats 1000000 in
theorem valueFault_ref {V W : World} (hV : Sub V W) {h : VH} {v : Val} (hv : ValAt V h v) (hB : VB 1048576 v) : Ret Tryz.prog 16 [valV h].toArray W fun q w' => q = faultV (vfault v).1 (vfault v).2 ∧ Rel W V [] V w' := by
  have H := Rel.start hV
  refine cal_of_sem tabOk Tryz.func16 rfl (by kernel_rfl) 59 rfl (by simp) [0, 1, 2, 3, 4, 5, 6, 7, 8, 17, 29, 38, 45, 56] ?_
  refine SemC.seqGo tabOk ?_
  (first | (refine H.wh ?_; clear H; intros; rename_i w H; constructor) | refine wk ?_)
  ((first | refine Rel.nwD H ?_ | refine Rel.nw H ?_); clear H; intro w b1 H)
  (first | (refine H.wh ?_; clear H; intros; rename_i w H; constructor) | refine wk ?_)
  ((first | refine Rel.nwD H ?_ | refine Rel.nw H ?_); clear H; intro w b2 H)
  (first | (refine H.wg ?_; clear H; intros; rename_i w H; constructor) | refine wk ?_)
  refine SemC.seqGo tabOk ?_
  (first | (refine H.wg ?_; clear H; intros; rename_i w H; constructor) | refine wk ?_)
  refine (nodes_ref H.data hv hB).use ?_
  rintro q w ⟨V1, r, r', os, hV1, K, rfl, h7, h8, hpo⟩
  (have hKb := K.base; replace H := H.call0 K)
  replace hv := hv.up hV1
  have hl7 := h7.len
  have hl8 := h8.len
  have hpl := hpo.len
  have hL601 : ((pre 0 v).take 601).length ≤ 601 := by rw [List.length_take]; omega
  have hnb : ∀ (i : Nat) u d, ((pre 0 v).take 601)[i]? = some (u, d) → VB 1048576 u := fun i u d hi => pre_VB v hB (u, d) (List.mem_of_mem_take (List.mem_of_getElem? hi))
  obtain ⟨L, hL⟩ : ∃ L, L = (pre 0 v).take 601 := ⟨_, rfl⟩
  rw [← hL] at hpo hpl hL601 hnb
  (first | (refine H.wg ?_; clear H; intros; rename_i w H; constructor) | refine wk ?_)
  refine SemC.seqCut tabOk (fun _ : Unit => [(3, r.v), (4, r'.v), (1, .pointer (some ⟨b1, 0, none⟩)), (2, .pointer (some ⟨b2, 0, none⟩))]) (fun _ w' => scan L 0 = .ok L.length ∧ Rel W V [.blk b2 [iv 0, iv 0] 29] V1 w') ?_ ?_
  · (first | (refine H.wg ?_; clear H; intros; rename_i w H; constructor) | refine wk ?_)
    refine loop_inv (S := Nat) tabOk [0, 1, 2, 3, 4, 7, 8, 45, 56] (fun k => [(5, iv k)]) (fun k w' => k ≤ L.length ∧ scan (L.take k) 0 = .ok k ∧ Rel W V [.blk b2 [iv 0, iv 0] 29] V1 w') (fun k _ => L.length - k) 0 ?_
    (conv => whnf)
    refine ⟨(by repeat (first | exact trivial | refine ⟨rfl, ?_⟩)), ⟨by omega, rfl, H.sx⟩, ?_⟩
    clear H
    rintro k w ⟨hk, hsc, H⟩
    by_cases hlt : k < L.length
    rotate_left
    · obtain rfl : k = L.length := by omega
      rw [List.take_length] at hsc
      (first | (refine H.wg ?_; clear H; intros; rename_i w H; constructor) | refine wk ?_)
      exact ⟨(), (by repeat (first | exact trivial | refine ⟨rfl, ?_⟩)), hsc, H.sx⟩
    have hko : k < os.length := by omega
    obtain ⟨g1, g2⟩ := h7.get (n := 5) (fun _ => rfl) (by omega) hko
    obtain ⟨g3, g4⟩ := h8.get1 (g := fun p : VP => p.2.v) (fun _ => rfl) hko
    obtain ⟨u, d, hud⟩ : ∃ u d, L[k] = (u, d) := ⟨_, _, rfl⟩
    have hLk : L[k]? = some (u, d) := by rw [List.getElem?_eq_getElem hlt, hud]
    obtain ⟨hxv, pl, hp1, hp2⟩ := hpo.all k os[k] (u, d) (List.getElem?_eq_getElem hko) hLk
    generalize os[k] = x at *
    obtain ⟨x, path⟩ := x
    dsimp only at g2 g4 hxv hp1 hp2
    have z0 := g2 0 _ rfl
    have z1 := g2 1 _ rfl
    have z2 := g2 2 _ rfl
    have z3 := g2 3 _ rfl
    have z4 := g2 4 _ rfl
    have hpl2 := hp1.len
    have hub := hnb k u d hLk
    by_cases hbad : 600 ≤ k ∨ 10 ≤ d
    · have e1 : atCode u k d = 2 := by rw [atCode, if_pos hbad]
      have e2 : vfault v = (2, (k : Int)) := by
        rw [hL] at hsc hLk
        rw [vfault_hit hsc hLk (by rw [e1]; decide), e1]
      by_cases h6 : 600 ≤ k
      all_goals
        (first | (refine H.wg ?_; clear H; intros; rename_i w H; constructor) | refine wk ?_)
        refine (at_ref H.data 2 k).use ?_
        rintro q w ⟨rfl, K⟩
        (have hKb := K.base; replace H := H.call0 K)
        (first | (refine H.wg ?_; clear H; intros; rename_i w H; constructor) | refine wk ?_)
        rw [e2]
        exact ⟨rfl, Rel.back H.sx⟩
    have e1 : atCode u k d = nodeCode u := by rw [atCode, if_neg hbad]
    (first | (refine H.wg ?_; clear H; intros; rename_i w H; constructor) | refine wk ?_)
    refine (nodeCode_ref H.data hxv (hub.mono (by omega))).use ?_
    rintro q w ⟨rfl, K⟩
    (have hKb := K.base; replace H := H.call0 K)
    by_cases hz : nodeCode u = 0
    · (first | (refine H.wg ?_; clear H; intros; rename_i w H; constructor) | refine wk ?_)
      exact ⟨(by repeat (first | exact trivial | refine ⟨rfl, ?_⟩)), k + 1, (by repeat (first | exact trivial | refine ⟨rfl, ?_⟩)), ⟨by omega, scan_go hsc hLk (by rw [e1]; exact hz), H.sx⟩, by omega⟩
    · have e2 : vfault v = (nodeCode u, (k : Int)) := by
        rw [hL] at hsc hLk
        rw [vfault_hit hsc hLk (by rw [e1]; exact hz), e1]
      (first | (refine H.wg ?_; clear H; intros; rename_i w H; constructor) | refine wk ?_)
      refine (at_ref H.data (nodeCode u) k).use ?_
      rintro q w ⟨rfl, K⟩
      (have hKb := K.base; replace H := H.call0 K)
      (first | (refine H.wg ?_; clear H; intros; rename_i w H; constructor) | refine wk ?_)
      rw [e2]
      exact ⟨rfl, Rel.back H.sx⟩
  clear H
  rintro _ w ⟨hsc, H⟩
  rw [hL] at hsc
  obtain ⟨hLe, hvf, hnz⟩ := vfault_ok hsc
  rw [hLe] at hL
  rw [← hL] at hvf hnz
  refine SemC.seqGo tabOk ?_
  (first | (refine H.wg ?_; clear H; intros; rename_i w H; constructor) | refine wk ?_)
  refine SemC.seqGo tabOk ?_
  (first | (refine H.wg ?_; clear H; intros; rename_i w H; constructor) | refine wk ?_)
  refine loop_inv (S := Nat × Nat) tabOk [0, 1, 2, 3, 4, 5, 6, 17, 29, 38] (fun k => [(7, iv k.2), (8, iv k.1)]) (fun k w' => k.1 ≤ L.length ∧ k.2 = sz (L.take k.1) ∧ k.2 ≤ 4000 ∧ Rel W V [.blk b2 [iv 0, iv 0] 29] V1 w') (fun k _ => L.length - k.1) (0, 0) ?_
  (conv => whnf)
  refine ⟨(by repeat (first | exact trivial | refine ⟨rfl, ?_⟩)), ⟨by omega, rfl, by omega, H.sx⟩, ?_⟩
  clear H
  rintro ⟨k, n⟩ w ⟨hk, hn, hn4, H⟩
  dsimp only at hk hn hn4 H
  by_cases hlt : k < L.length
  rotate_left
  · rw [List.take_of_length_le (by omega)] at hn
    rw [if_neg (by omega)] at hvf
    (first | (refine H.wg ?_; clear H; intros; rename_i w H; constructor) | refine wk ?_)
    refine SemC.go tabOk ?_
    (first | (refine H.wg ?_; clear H; intros; rename_i w H; constructor) | refine wk ?_)
    rw [hvf]
    exact ⟨rfl, Rel.back H.sx⟩
  have hko : k < os.length := by omega
  obtain ⟨g1, g2⟩ := h7.get (n := 5) (fun _ => rfl) (by omega) hko
  obtain ⟨u, d, hud⟩ : ∃ u d, L[k] = (u, d) := ⟨_, _, rfl⟩
  have hLk : L[k]? = some (u, d) := by rw [List.getElem?_eq_getElem hlt, hud]
  obtain ⟨hxv, pl, hp1, hp2⟩ := hpo.all k os[k] (u, d) (List.getElem?_eq_getElem hko) hLk
  generalize os[k] = x at *
  obtain ⟨x, path⟩ := x
  dsimp only at g2 hxv
  have z0 := g2 0 _ rfl
  have z1 := g2 1 _ rfl
  have z2 := g2 2 _ rfl
  have z3 := g2 3 _ rfl
  have z4 := g2 4 _ rfl
  have hub := hnb k u d hLk
  have hss := sz_succ hLk
  have hsl := sz_take L (k + 1)
  have hns := nodeSzX_le hub (hnz k u d hLk)
  have hn5 : nodeSz u ≤ 1100000 := by
    rcases nodeSz_eq u with h | h
    · omega
    · have : nodeSz u ≤ nodeSzX u ∨ nodeSz u = 4001 := by
        unfold nodeSz nodeSzX
        split
        · exact .inl (Nat.le_refl _)
        · split
          · split
            · exact .inr rfl
            · exact .inl (Nat.le_refl _)
          · exact .inl (Nat.le_refl _)
      omega
  (first | (refine H.wg ?_; clear H; intros; rename_i w H; constructor) | refine wk ?_)
  refine (nodeSize_ref H.data hxv hub (hnz k u d hLk)).use ?_
  rintro q w ⟨rfl, K⟩
  (have hKb := K.base; replace H := H.call0 K)
  by_cases h4 : 4000 < n + nodeSz u
  · rw [if_pos (by omega)] at hvf
    (first | (refine H.wg ?_; clear H; intros; rename_i w H; constructor) | refine wk ?_)
    refine (at_ref H.data 14 (-1)).use ?_
    rintro q w ⟨rfl, K⟩
    (have hKb := K.base; replace H := H.call0 K)
    (first | (refine H.wg ?_; clear H; intros; rename_i w H; constructor) | refine wk ?_)
    rw [hvf]
    exact ⟨rfl, Rel.back H.sx⟩
  · (first | (refine H.wg ?_; clear H; intros; rename_i w H; constructor) | refine wk ?_)
    exact ⟨(by repeat (first | exact trivial | refine ⟨rfl, ?_⟩)), (k + 1, n + nodeSz u), ⟨rfl, rfl, trivial⟩, ⟨by omega, by dsimp only; omega, by dsimp only; omega, H.sx⟩, by dsimp only; omega⟩
end Go.Proofs.YtffaffojkfalhaaGreatDoor
