/-
  Text files: join.
-/
import Derived.Test.YtgnaojphgdaalaaDoorTxtI
namespace Go.Proofs.YtgnaojphgdaalaaDoor
open Go Go.RowKit

theorem unl_other {c : Nat} (h : c ≠ 10) (r ks : List Nat) : unlines (c :: r) ks = (unlines r ks).map (c :: ·) := by simp only [unlines]; rw [if_neg h]
theorem unl_lf (r : List Nat) (k : Nat) (ks : List Nat) : unlines (10 :: r) (k :: ks) = (unlines r ks).map (endC k ++ ·) := by simp only [unlines, if_true]
theorem unl_none (r : List Nat) : unlines (10 :: r) [] = none := by simp only [unlines, if_true]
theorem runsK_cons (k n : Nat) (rs : List Run) : runsK ((k, n + 1) :: rs) = k :: runsK ((k, n) :: rs) := rfl
theorem runsK_zero (k : Nat) (rs : List Run) : runsK ((k, 0) :: rs) = runsK rs := rfl
theorem runs_dec (ds : List Run) (k n : Nat) (rs : List Run) : ((runsI (ds ++ (k, n + 1) :: rs)).flatMap rnC).set (ds.length * 2 + 1) (iv (n : Int)) = (runsI (ds ++ (k, n) :: rs)).flatMap rnC := by
  have hl : ((runsI ds).flatMap rnC).length = ds.length * 2 := by rw [flat_len (n := 2) (fun _ => rfl)]; simp [runsI]
  unfold runsI
  rw [List.map_append, List.flatMap_append, List.map_append, List.flatMap_append]
  unfold runsI at hl
  rw [List.set_append_right _ _ (by omega), hl, show ds.length * 2 + 1 - ds.length * 2 = 1 by omega]
  rfl
theorem subA_eqT {a : Option Addr} (h : Plain a) {l m n : Nat} (hm : m ≠ l) : subA a l m n = some ⟨ablk a, aoff a + l * n, none⟩ := by
  have := subA_plain h (l := l) (m := m) (size := n)
  rw [Plain, subA_blk, subA_off h hm] at this
  exact this
theorem flat_oneT {α : Type} {f : α → List Value} {l : List α} (h : ∀ x, (f x).all Value.oneCell' = true) : ∀ u ∈ l.flatMap f, u.oneCell' = true := by
  intro u hu
  obtain ⟨x, _, hx⟩ := List.mem_flatMap.1 hu
  exact List.all_eq_true.1 (h x) u hx
/-- what is left of the runs, behind those that are done -/
structure RestAt (rc r7 : Sl) (d : Nat) (rs : List Run) : Prop where
  len : r7.len = rs.length
  cap : r7.len ≤ r7.cap
  at_ : rs ≠ [] → r7.a = some ⟨ablk rc.a, aoff rc.a + d * 2, none⟩
section
variable {V W : World}
theorem clone_own (hV : Sub V W) {s : Sl} {l : List RunI} (hs : SlF rnC V s l) (hl : l.length ≤ 1000000000) : Ret Tryd.prog 66 [s.v].toArray W fun v w' => ∃ t : Sl, v = t.v ∧ Rel W V [.row t 97 2 (l.flatMap rnC)] V w' := by
  have H := Rel.start hV
  have hlen := hs.len
  refine cal_of_vc tabOk Tryd.func66 rfl (by kernel_rfl) 8 rfl (by simp) [0, 2, 4] ?_
  rcases s with ⟨_ | p, n, c⟩
  · have hl0 : l = [] := by
      rcases l with _ | ⟨b, l⟩
      · rfl
      · have := hs.cells.1 (by simp [rnC])
        simp [Plain] at this
    subst hl0
    (first | (refine H.wg ?_; clear H; intros; rename_i w H; constructor) | refine wk ?_)
    exact ⟨⟨none, 0, 0⟩, rfl, H.rowNil _ _⟩
  · (first | (refine H.wh ?_; clear H; intros; rename_i w H; constructor) | refine wk ?_)
    ((first | refine Rel.nwD H ?_ | refine Rel.nw H ?_); clear H; intro w b5 H)
    (first | (refine H.wg ?_; clear H; intros; rename_i w H; constructor) | refine wk ?_)
    replace H := H.toRow (n := 0) (e := 97) (sz := 2) rfl (by simp [maxLen])
    refine Rel.app_0 (s := ⟨some ⟨b5, 0, none⟩, 0, 0⟩) (x := ⟨some p, n, c⟩) tabOk rfl rfl rfl rfl rfl (by decide) H (hs.up H.data).cells (flat_len (n := 2) (fun _ => rfl) l |>.trans (by rw [← hlen])) (flat_oneT (fun _ => rfl)) (by simp; dsimp only at hlen; omega) (by simp; dsimp only at hlen; omega) ?_
    clear H
    intro rn w H hrn
    (first | (refine H.wg ?_; clear H; intros; rename_i w H; constructor) | refine wk ?_)
    exact ⟨rn, rfl, H⟩
set_option maxRecDepth 100000 in
set_option maxHeartbeats 1000000 in
theorem join_txt (hV : Sub V W) {s : Sl} {t : List UInt8} (hs : Byt V s t) (htl : t.length ≤ 1048576) {l : List Nat} (hc : chars t = some l) {e : Nat} {q : Sl} {rs : List Run} (hq : SlF rnC V q (runsI rs)) (hrl : rs.length ≤ 1000) (hr1 : ∀ r ∈ rs, r.1 < 3 ∧ 1 ≤ r.2 ∧ r.2 ≤ 1000) (htr : txtTriv e (runsK rs) = true → rs = []) :
    Ret Tryd.prog 37 [s.v, .agg (resC e q).toArray].toArray W (RunesR W V (if txtTriv e (runsK rs) = true then some l else unlines l (runsK rs))) := by
  have H := Rel.start hV
  have hlen := hs.len
  have hil : (runsI rs).length = rs.length := by simp [runsI]
  have hsz : (ByteArray.mk t.toArray).size = t.length := rfl
  refine cal_of_vc tabOk Tryd.func37 rfl (by kernel_rfl) 69 rfl (by simp) [0, 1, 3, 4, 5, 6, 7, 9, 15, 16, 17, 24, 31, 35, 36, 41, 46, 62] ?_
  (first | (refine H.wh ?_; clear H; intros; rename_i w H; constructor) | refine wk ?_)
  ((first | refine Rel.nwD H ?_ | refine Rel.nw H ?_); clear H; intro w b3 H)
  (first | (refine H.wg ?_; clear H; intros; rename_i w H; constructor) | refine wk ?_)
  refine (clone_own H.data hq (by omega)).use ?_
  rintro v w ⟨rc, rfl, K⟩
  (have hKb := K.base; replace H := Rel.call H K)
  simp only [List.cons_append, List.nil_append] at H
  have hcx : Cells w s.a (t.map bv) := byC_map t ▸ (hs.up H.data).cells
  have hrcl := H.rowLen (i := 0) rfl (fun _ => rfl) (by decide)
  (first | (refine H.wg ?_; clear H; intros; rename_i w H; constructor) | refine wk ?_)
  replace H := H.rowNil 21 1
  refine Rel.range tabOk rfl rfl H ?_
  clear H
  intro w bi H
  (first | (refine H.wg ?_; clear H; intros; rename_i w H; constructor) | refine wk ?_)
  cases ht : txtTriv e (runsK rs) with
  | true =>
    have hrs := htr ht
    rw [if_pos rfl]
    refine loop_inv (S := Nat × Sl × List Nat) tabOk [0, 1, 3, 15] (fun q => [(6, q.2.1.v), (7, rc.v)]) (fun q' w' => q'.1 ≤ t.length ∧ (chars (t.drop q'.1)).isSome = true ∧ chars t = (chars (t.drop q'.1)).map (q'.2.2 ++ ·) ∧ q'.2.2.length ≤ q'.1 ∧ Rel W V [.obj bi (.stringIter ⟨t.toArray⟩ q'.1), .row q'.2.1 21 1 (q'.2.2.flatMap ruC), .blk b3 (resC e q) 62] V w') (fun q _ => t.length - q.1) (0, ⟨none, 0, 0⟩, []) ?_
    (conv => whnf)
    refine ⟨(by repeat (first | exact trivial | refine ⟨rfl, ?_⟩)), ⟨by omega, by rw [List.drop_zero, hc]; rfl, by simp, Nat.le_refl _, H.sx⟩, ?_⟩
    clear H
    rintro ⟨p, r6, out⟩ w ⟨hp, his, heq, hol, H⟩
    dsimp only at hp his heq hol H ⊢
    (conv => whnf)
    refine Rel.next H (fun hlt w H => ?_) (fun hlt => ?_)
    · have hlt2 : p < t.length := hlt
      obtain ⟨c, n, hcc, hic, hn1, hn2, hst⟩ := chars_at his hlt2
      rw [decode_str hcc] at H ⊢
      dsimp only at H ⊢
      have his2 : (chars (t.drop (p + n))).isSome = true := by
        rw [hst] at his
        cases hq : chars (t.drop (p + n)) with
        | none => rw [hq] at his; cases his
        | some _ => rfl
      by_cases h10 : c = 10
      · (first | (refine H.wg ?_; clear H; intros; rename_i w H; constructor) | refine wk ?_)
        refine (trivial_spec H.data e hq (by omega) (fun r hr => (hr1 r hr).2.1)).use ?_
        rintro v w ⟨rfl, K⟩
        (have hKb := K.base; replace H := H.call0 K)
        rw [ht]
        (first | (refine H.wg ?_; clear H; intros; rename_i w H; constructor) | refine wk ?_)
        refine Rel.app1_1 (f := ruC) (l := out) (x := c) tabOk rfl rfl rfl rfl rfl (by decide) (fun _ => rfl) (List.all_eq_true.1 rfl) H (by show (out.length + 1) * 4 ≤ _; omega) (by omega) ?_
        clear H
        intro rn w H
        (first | (refine H.wg ?_; clear H; intros; rename_i w H; constructor) | refine wk ?_)
        refine ⟨(by repeat (first | exact trivial | refine ⟨rfl, ?_⟩)), (p + n, rn, out ++ [c]), (by repeat (first | exact trivial | refine ⟨rfl, ?_⟩)), ⟨by dsimp only; omega, by dsimp only; exact his2, ?_, by dsimp only; rw [List.length_append, List.length_singleton]; omega, H.sx⟩, by dsimp only; omega⟩
        dsimp only
        rw [heq, hst]
        exact map_two out [c] _
      · (first | (refine H.wg ?_; clear H; intros; rename_i w H; constructor) | refine wk ?_)
        refine Rel.app1_1 (f := ruC) (l := out) (x := c) tabOk rfl rfl rfl rfl rfl (by decide) (fun _ => rfl) (List.all_eq_true.1 rfl) H (by show (out.length + 1) * 4 ≤ _; omega) (by omega) ?_
        clear H
        intro rn w H
        (first | (refine H.wg ?_; clear H; intros; rename_i w H; constructor) | refine wk ?_)
        refine ⟨(by repeat (first | exact trivial | refine ⟨rfl, ?_⟩)), (p + n, rn, out ++ [c]), (by repeat (first | exact trivial | refine ⟨rfl, ?_⟩)), ⟨by dsimp only; omega, by dsimp only; exact his2, ?_, by dsimp only; rw [List.length_append, List.length_singleton]; omega, H.sx⟩, by dsimp only; omega⟩
        dsimp only
        rw [heq, hst]
        exact map_two out [c] _
    · have hlt2 : ¬ p < t.length := hlt
      rw [List.drop_of_length_le (by omega), chars_nil, hc] at heq
      have hod : out = l := by simpa using heq.symm
      rw [hod] at H
      have H0 : Rel W V [.row r6 21 1 (l.flatMap ruC)] V w := H.sx
      clear H
      obtain ⟨V3, hV3, H, hr⟩ := Rel.freezeF H0 (fun _ => rfl) (by decide)
      clear H0
      have hz : rc.len = 0 := by rw [hrcl, hil, hrs]; rfl
      (first | (refine H.wg ?_; clear H; intros; rename_i w H; constructor) | refine wk ?_)
      exact ⟨V3, r6, hV3, H.sx, by rw [decide_eq_true (by omega)], hr⟩
  | false =>
    rw [if_neg (by simp)]
    refine loop_inv (S := Nat × Sl × List Nat × Sl × List Run × List Run) tabOk [0, 1, 3, 15] (fun q => [(6, q.2.1.v), (7, q.2.2.2.1.v)]) (fun z w' => z.1 ≤ t.length ∧ (chars (t.drop z.1)).isSome = true ∧ (∀ r, chars (t.drop z.1) = some r → unlines l (runsK rs) = (unlines r (runsK z.2.2.2.2.2)).map (z.2.2.1 ++ ·)) ∧ z.2.2.1.length ≤ 2 * z.1 ∧ RestAt rc z.2.2.2.1 z.2.2.2.2.1.length z.2.2.2.2.2 ∧ (∀ r ∈ z.2.2.2.2.2, r.1 < 3 ∧ 1 ≤ r.2 ∧ r.2 ≤ 1000) ∧ Rel W V [.obj bi (.stringIter ⟨t.toArray⟩ z.1), .row z.2.1 21 1 (z.2.2.1.flatMap ruC), .row rc 97 2 ((runsI (z.2.2.2.2.1 ++ z.2.2.2.2.2)).flatMap rnC), .blk b3 (resC e q) 62] V w') (fun q _ => t.length - q.1) (0, ⟨none, 0, 0⟩, [], rc, [], rs) ?_
    (conv => whnf)
    refine ⟨(by repeat (first | exact trivial | refine ⟨rfl, ?_⟩)), ⟨by omega, by rw [List.drop_zero, hc]; rfl, fun r hr => ?_, Nat.le_refl _, ⟨by dsimp only; omega, ?_, fun hne => ?_⟩, hr1, H⟩, ?_⟩
    · dsimp only at hr ⊢
      rw [List.drop_zero, hc] at hr
      cases hr
      simp
    · exact (H.slfAt (i := 2) rfl (fun _ => rfl) (by decide)).cap
    · have hp := (H.slfAt (i := 2) rfl (fun _ => rfl) (by decide)).cells.1 (by
        cases rs with
        | nil => exact absurd rfl hne
        | cons r rs => simp [runsI])
      dsimp only [List.length_nil]
      rw [Nat.zero_mul, Nat.add_zero]
      exact hp
    clear H
    rintro ⟨p, r6, out, r7, ds, rs'⟩ w ⟨hp, his, hu, hol, hR, hrs1, H⟩
    dsimp only at hp his hu hol hR hrs1 H ⊢
    have hr6 := H.rowLen (i := 1) rfl (fun _ => rfl) (by decide)
    have hrcl := H.rowLen (i := 2) rfl (fun _ => rfl) (by decide)
    have hil2 : (runsI (ds ++ rs')).length = ds.length + rs'.length := by simp [runsI]
    have hRl := hR.len
    have hRc := hR.cap
    (conv => whnf)
    refine Rel.next H (fun hlt w H => ?_) (fun hlt => ?_)
    · have hlt2 : p < t.length := hlt
      obtain ⟨c, n, hcc, hic, hn1, hn2, hst⟩ := chars_at his hlt2
      rw [decode_str hcc] at H ⊢
      dsimp only at H ⊢
      have his2 : (chars (t.drop (p + n))).isSome = true := by
        rw [hst] at his
        cases hq : chars (t.drop (p + n)) with
        | none => rw [hq] at his; cases his
        | some _ => rfl
      obtain ⟨X, hX⟩ : ∃ X, chars (t.drop (p + n)) = some X := Option.isSome_iff_exists.1 his2
      have hu2 := hu (c :: X) (by rw [hst, hX]; rfl)
      by_cases h10 : c = 10
      rotate_left
      · rw [unl_other h10] at hu2
        (first | (refine H.wg ?_; clear H; intros; rename_i w H; constructor) | refine wk ?_)
        refine Rel.app1_1 (f := ruC) (l := out) (x := c) tabOk rfl rfl rfl rfl rfl (by decide) (fun _ => rfl) (List.all_eq_true.1 rfl) H (by show (out.length + 1) * 4 ≤ _; omega) (by omega) ?_
        clear H
        intro rn w H
        (first | (refine H.wg ?_; clear H; intros; rename_i w H; constructor) | refine wk ?_)
        refine ⟨(by repeat (first | exact trivial | refine ⟨rfl, ?_⟩)), (p + n, rn, out ++ [c], r7, ds, rs'), (by repeat (first | exact trivial | refine ⟨rfl, ?_⟩)), ⟨by dsimp only; omega, by dsimp only; exact his2, ?_, by dsimp only; rw [List.length_append, List.length_singleton]; omega, hR, hrs1, H.sx⟩, by dsimp only; omega⟩
        intro r hr
        dsimp only at hr ⊢
        rw [hX] at hr
        cases hr
        rw [hu2]
        exact map_two out [c] _
      rw [h10] at hu2
      (first | (refine H.wg ?_; clear H; intros; rename_i w H; constructor) | refine wk ?_)
      refine (trivial_spec H.data e hq (by omega) (fun r hr => (hr1 r hr).2.1)).use ?_
      rintro v w ⟨rfl, K⟩
      (have hKb := K.base; replace H := H.call0 K)
      rw [ht]
      cases rs' with
      | nil =>
        rw [show runsK [] = [] from rfl, unl_none] at hu2
        rw [hu2]
        simp only [List.length_nil] at hRl
        (first | (refine H.wg ?_; clear H; intros; rename_i w H; constructor) | refine wk ?_)
        exact ⟨V, ⟨none, 0, 0⟩, Sub.refl _, H.sx, rfl⟩
      | cons x rs2 =>
        obtain ⟨k, m⟩ := x
        obtain ⟨hk3, hm1, hm2⟩ := hrs1 (k, m) (by simp)
        dsimp only at hk3 hm1 hm2
        obtain ⟨m, rfl⟩ : ∃ j, m = j + 1 := ⟨m - 1, by omega⟩
        rw [runsK_cons, unl_lf] at hu2
        have hat := hR.at_ (by simp)
        have hp7 : Plain r7.a := by rw [hat]; rfl
        have hb7 : ablk r7.a = ablk rc.a := by rw [hat]; rfl
        have ho7 : aoff r7.a = aoff rc.a + ds.length * 2 := by rw [hat]; rfl
        simp only [List.length_cons] at hRl hil2
        have S1 := H.slfAt (i := 2) rfl (fun _ => rfl) (by decide)
        obtain ⟨_, u1, _⟩ := S1.at2 (g := fun r : RunI => iv r.1) (g' := fun r : RunI => iv r.2) (fun _ => rfl) (i := ds.length) (by omega)
        have hget : ∀ j, (runsI (ds ++ (k, j) :: rs2))[ds.length]'(by simp [runsI]) = runI (k, j) := fun j => by simp [runsI]
        rw [hget, ← hb7, ← ho7] at u1
        dsimp only [runI] at u1
        have hkk : k = 0 ∨ k = 1 ∨ k = 2 := by omega
        rcases hkk with rfl | rfl | rfl
        · (first | (refine H.wh ?_; clear H; intros; rename_i w H; constructor) | refine wk ?_)
          ((first | refine Rel.nwD H ?_ | refine Rel.nw H ?_); clear H; intro w bq H)
          (first | (refine H.wg ?_; clear H; intros; rename_i w H; constructor) | refine wk ?_)
          refine Rel.app_2 (s := r6) (x := ⟨some ⟨bq, 0, none⟩, 1, 1⟩) (xs := out.flatMap ruC) (ys := [rv 10]) tabOk rfl rfl rfl rfl rfl (by decide) H (H.bk_0).cells rfl (by simp [Value.oneCell']) (by show (r6.len + 1) * 4 ≤ _; omega) (by dsimp only; omega) ?_
          clear H
          intro rn w H _
          rw [show out.flatMap ruC ++ [rv 10] = (out ++ [10]).flatMap ruC by rw [List.flatMap_append]; rfl] at H
          have S2 := H.slfAt (i := 3) rfl (fun _ => rfl) (by decide)
          obtain ⟨_, _, u2⟩ := S2.at2 (g := fun r : RunI => iv r.1) (g' := fun r : RunI => iv r.2) (fun _ => rfl) (i := ds.length) (by omega)
          rw [hget, ← hb7, ← ho7] at u2
          dsimp only [runI] at u2
          (first | (refine H.wg ?_; clear H; intros; rename_i w H; constructor) | refine wk ?_)
          rw [show (((m + 1 : Nat) : Int) - 1) = ((m : Nat) : Int) by omega]
          refine Rel.stRowN (i := 3) H rfl (ds.length * 2 + 1) (by omega) hb7 (by show aoff r7.a + 0 * 2 + 1 = _; omega) ?_
          clear H
          intro w H
          simp only [List.set_cons_succ, List.set_cons_zero] at H
          rw [runs_dec] at H
          have S3 := H.slfAt (i := 3) rfl (fun _ => rfl) (by decide)
          have hil3 : (runsI (ds ++ (0, m) :: rs2)).length = ds.length + (rs2.length + 1) := by simp [runsI]
          obtain ⟨_, _, u3⟩ := S3.at2 (g := fun r : RunI => iv r.1) (g' := fun r : RunI => iv r.2) (fun _ => rfl) (i := ds.length) (by omega)
          rw [hget, ← hb7, ← ho7] at u3
          dsimp only [runI] at u3
          by_cases hm0 : m = 0
          · subst hm0
            (first | (refine H.wg ?_; clear H; intros; rename_i w H; constructor) | refine wk ?_)
            refine ⟨(by repeat (first | exact trivial | refine ⟨rfl, ?_⟩)), (p + n, rn, out ++ [10], ⟨subA r7.a 1 r7.cap 2, r7.len - 1, r7.cap - 1⟩, ds ++ [(0, 0)], rs2), (by repeat (first | exact trivial | refine ⟨rfl, ?_⟩)), ⟨by dsimp only; omega, by dsimp only; exact his2, ?_, by dsimp only; rw [List.length_append]; simp only [List.length_cons, List.length_nil]; omega, ⟨by dsimp only; omega, by dsimp only; omega, fun hne => ?_⟩, fun r hr => hrs1 r (by simp [hr]), ?_⟩, by dsimp only; omega⟩
            · intro r hr
              dsimp only at hr ⊢
              rw [hX] at hr
              cases hr
              rw [hu2, runsK_zero]
              exact map_two out [10] _
            · have hpos := List.length_pos_iff.2 hne
              dsimp only at hpos ⊢
              rw [subA_eqT hp7 (by omega), List.length_append, List.length_singleton, hb7, ho7, show aoff rc.a + ds.length * 2 + 1 * 2 = aoff rc.a + (ds.length + 1) * 2 by omega]
            · dsimp only
              rw [List.append_assoc]
              exact H.sx
          · (first | (refine H.wg ?_; clear H; intros; rename_i w H; constructor) | refine wk ?_)
            refine ⟨(by repeat (first | exact trivial | refine ⟨rfl, ?_⟩)), (p + n, rn, out ++ [10], r7, ds, (0, m) :: rs2), (by repeat (first | exact trivial | refine ⟨rfl, ?_⟩)), ⟨by dsimp only; omega, by dsimp only; exact his2, ?_, by dsimp only; rw [List.length_append]; simp only [List.length_cons, List.length_nil]; omega, ⟨by simp only [List.length_cons]; omega, by dsimp only; omega, fun _ => hat⟩, fun r hr => ?_, H.sx⟩, by dsimp only; omega⟩
            · intro r hr
              dsimp only at hr ⊢
              rw [hX] at hr
              cases hr
              rw [hu2]
              exact map_two out [10] _
            · rcases List.mem_cons.1 hr with rfl | hr
              · exact ⟨hk3, by dsimp only; omega, by dsimp only; omega⟩
              · exact hrs1 r (by simp [hr])
        · (first | (refine H.wh ?_; clear H; intros; rename_i w H; constructor) | refine wk ?_)
          ((first | refine Rel.nwD H ?_ | refine Rel.nw H ?_); clear H; intro w bq H)
          (first | (refine H.wg ?_; clear H; intros; rename_i w H; constructor) | refine wk ?_)
          refine Rel.app_2 (s := r6) (x := ⟨some ⟨bq, 0, none⟩, 2, 2⟩) (xs := out.flatMap ruC) (ys := [rv 13, rv 10]) tabOk rfl rfl rfl rfl rfl (by decide) H (H.bk_0).cells rfl (by simp [Value.oneCell']) (by show (r6.len + 2) * 4 ≤ _; omega) (by dsimp only; omega) ?_
          clear H
          intro rn w H _
          rw [show out.flatMap ruC ++ [rv 13, rv 10] = (out ++ [13, 10]).flatMap ruC by rw [List.flatMap_append]; rfl] at H
          have S2 := H.slfAt (i := 3) rfl (fun _ => rfl) (by decide)
          obtain ⟨_, _, u2⟩ := S2.at2 (g := fun r : RunI => iv r.1) (g' := fun r : RunI => iv r.2) (fun _ => rfl) (i := ds.length) (by omega)
          rw [hget, ← hb7, ← ho7] at u2
          dsimp only [runI] at u2
          (first | (refine H.wg ?_; clear H; intros; rename_i w H; constructor) | refine wk ?_)
          rw [show (((m + 1 : Nat) : Int) - 1) = ((m : Nat) : Int) by omega]
          refine Rel.stRowN (i := 3) H rfl (ds.length * 2 + 1) (by omega) hb7 (by show aoff r7.a + 0 * 2 + 1 = _; omega) ?_
          clear H
          intro w H
          simp only [List.set_cons_succ, List.set_cons_zero] at H
          rw [runs_dec] at H
          have S3 := H.slfAt (i := 3) rfl (fun _ => rfl) (by decide)
          have hil3 : (runsI (ds ++ (1, m) :: rs2)).length = ds.length + (rs2.length + 1) := by simp [runsI]
          obtain ⟨_, _, u3⟩ := S3.at2 (g := fun r : RunI => iv r.1) (g' := fun r : RunI => iv r.2) (fun _ => rfl) (i := ds.length) (by omega)
          rw [hget, ← hb7, ← ho7] at u3
          dsimp only [runI] at u3
          by_cases hm0 : m = 0
          · subst hm0
            (first | (refine H.wg ?_; clear H; intros; rename_i w H; constructor) | refine wk ?_)
            refine ⟨(by repeat (first | exact trivial | refine ⟨rfl, ?_⟩)), (p + n, rn, out ++ [13, 10], ⟨subA r7.a 1 r7.cap 2, r7.len - 1, r7.cap - 1⟩, ds ++ [(1, 0)], rs2), (by repeat (first | exact trivial | refine ⟨rfl, ?_⟩)), ⟨by dsimp only; omega, by dsimp only; exact his2, ?_, by dsimp only; rw [List.length_append]; simp only [List.length_cons, List.length_nil]; omega, ⟨by dsimp only; omega, by dsimp only; omega, fun hne => ?_⟩, fun r hr => hrs1 r (by simp [hr]), ?_⟩, by dsimp only; omega⟩
            · intro r hr
              dsimp only at hr ⊢
              rw [hX] at hr
              cases hr
              rw [hu2, runsK_zero]
              exact map_two out [13, 10] _
            · have hpos := List.length_pos_iff.2 hne
              dsimp only at hpos ⊢
              rw [subA_eqT hp7 (by omega), List.length_append, List.length_singleton, hb7, ho7, show aoff rc.a + ds.length * 2 + 1 * 2 = aoff rc.a + (ds.length + 1) * 2 by omega]
            · dsimp only
              rw [List.append_assoc]
              exact H.sx
          · (first | (refine H.wg ?_; clear H; intros; rename_i w H; constructor) | refine wk ?_)
            refine ⟨(by repeat (first | exact trivial | refine ⟨rfl, ?_⟩)), (p + n, rn, out ++ [13, 10], r7, ds, (1, m) :: rs2), (by repeat (first | exact trivial | refine ⟨rfl, ?_⟩)), ⟨by dsimp only; omega, by dsimp only; exact his2, ?_, by dsimp only; rw [List.length_append]; simp only [List.length_cons, List.length_nil]; omega, ⟨by simp only [List.length_cons]; omega, by dsimp only; omega, fun _ => hat⟩, fun r hr => ?_, H.sx⟩, by dsimp only; omega⟩
            · intro r hr
              dsimp only at hr ⊢
              rw [hX] at hr
              cases hr
              rw [hu2]
              exact map_two out [13, 10] _
            · rcases List.mem_cons.1 hr with rfl | hr
              · exact ⟨hk3, by dsimp only; omega, by dsimp only; omega⟩
              · exact hrs1 r (by simp [hr])
        · (first | (refine H.wh ?_; clear H; intros; rename_i w H; constructor) | refine wk ?_)
          ((first | refine Rel.nwD H ?_ | refine Rel.nw H ?_); clear H; intro w bq H)
          (first | (refine H.wg ?_; clear H; intros; rename_i w H; constructor) | refine wk ?_)
          refine Rel.app_2 (s := r6) (x := ⟨some ⟨bq, 0, none⟩, 1, 1⟩) (xs := out.flatMap ruC) (ys := [rv 13]) tabOk rfl rfl rfl rfl rfl (by decide) H (H.bk_0).cells rfl (by simp [Value.oneCell']) (by show (r6.len + 1) * 4 ≤ _; omega) (by dsimp only; omega) ?_
          clear H
          intro rn w H _
          rw [show out.flatMap ruC ++ [rv 13] = (out ++ [13]).flatMap ruC by rw [List.flatMap_append]; rfl] at H
          have S2 := H.slfAt (i := 3) rfl (fun _ => rfl) (by decide)
          obtain ⟨_, _, u2⟩ := S2.at2 (g := fun r : RunI => iv r.1) (g' := fun r : RunI => iv r.2) (fun _ => rfl) (i := ds.length) (by omega)
          rw [hget, ← hb7, ← ho7] at u2
          dsimp only [runI] at u2
          (first | (refine H.wg ?_; clear H; intros; rename_i w H; constructor) | refine wk ?_)
          rw [show (((m + 1 : Nat) : Int) - 1) = ((m : Nat) : Int) by omega]
          refine Rel.stRowN (i := 3) H rfl (ds.length * 2 + 1) (by omega) hb7 (by show aoff r7.a + 0 * 2 + 1 = _; omega) ?_
          clear H
          intro w H
          simp only [List.set_cons_succ, List.set_cons_zero] at H
          rw [runs_dec] at H
          have S3 := H.slfAt (i := 3) rfl (fun _ => rfl) (by decide)
          have hil3 : (runsI (ds ++ (2, m) :: rs2)).length = ds.length + (rs2.length + 1) := by simp [runsI]
          obtain ⟨_, _, u3⟩ := S3.at2 (g := fun r : RunI => iv r.1) (g' := fun r : RunI => iv r.2) (fun _ => rfl) (i := ds.length) (by omega)
          rw [hget, ← hb7, ← ho7] at u3
          dsimp only [runI] at u3
          by_cases hm0 : m = 0
          · subst hm0
            (first | (refine H.wg ?_; clear H; intros; rename_i w H; constructor) | refine wk ?_)
            refine ⟨(by repeat (first | exact trivial | refine ⟨rfl, ?_⟩)), (p + n, rn, out ++ [13], ⟨subA r7.a 1 r7.cap 2, r7.len - 1, r7.cap - 1⟩, ds ++ [(2, 0)], rs2), (by repeat (first | exact trivial | refine ⟨rfl, ?_⟩)), ⟨by dsimp only; omega, by dsimp only; exact his2, ?_, by dsimp only; rw [List.length_append]; simp only [List.length_cons, List.length_nil]; omega, ⟨by dsimp only; omega, by dsimp only; omega, fun hne => ?_⟩, fun r hr => hrs1 r (by simp [hr]), ?_⟩, by dsimp only; omega⟩
            · intro r hr
              dsimp only at hr ⊢
              rw [hX] at hr
              cases hr
              rw [hu2, runsK_zero]
              exact map_two out [13] _
            · have hpos := List.length_pos_iff.2 hne
              dsimp only at hpos ⊢
              rw [subA_eqT hp7 (by omega), List.length_append, List.length_singleton, hb7, ho7, show aoff rc.a + ds.length * 2 + 1 * 2 = aoff rc.a + (ds.length + 1) * 2 by omega]
            · dsimp only
              rw [List.append_assoc]
              exact H.sx
          · (first | (refine H.wg ?_; clear H; intros; rename_i w H; constructor) | refine wk ?_)
            refine ⟨(by repeat (first | exact trivial | refine ⟨rfl, ?_⟩)), (p + n, rn, out ++ [13], r7, ds, (2, m) :: rs2), (by repeat (first | exact trivial | refine ⟨rfl, ?_⟩)), ⟨by dsimp only; omega, by dsimp only; exact his2, ?_, by dsimp only; rw [List.length_append]; simp only [List.length_cons, List.length_nil]; omega, ⟨by simp only [List.length_cons]; omega, by dsimp only; omega, fun _ => hat⟩, fun r hr => ?_, H.sx⟩, by dsimp only; omega⟩
            · intro r hr
              dsimp only at hr ⊢
              rw [hX] at hr
              cases hr
              rw [hu2]
              exact map_two out [13] _
            · rcases List.mem_cons.1 hr with rfl | hr
              · exact ⟨hk3, by dsimp only; omega, by dsimp only; omega⟩
              · exact hrs1 r (by simp [hr])
    · have hlt2 : ¬ p < t.length := hlt
      have hu2 := hu [] (by rw [List.drop_of_length_le (by omega)]; rfl)
      cases rs' with
      | nil =>
        rw [show unlines [] (runsK []) = some [] from rfl] at hu2
        simp only [Option.map_some, List.append_nil] at hu2
        rw [hu2]
        simp only [List.length_nil] at hRl
        have H0 : Rel W V [.row r6 21 1 (out.flatMap ruC)] V w := H.sx
        clear H
        obtain ⟨V3, hV3, H, hr⟩ := Rel.freezeF H0 (fun _ => rfl) (by decide)
        clear H0
        (first | (refine H.wg ?_; clear H; intros; rename_i w H; constructor) | refine wk ?_)
        exact ⟨V3, r6, hV3, H.sx, by rw [decide_eq_true (by omega)], hr⟩
      | cons x rs2 =>
        obtain ⟨k, m⟩ := x
        obtain ⟨hk3, hm1, hm2⟩ := hrs1 (k, m) (by simp)
        dsimp only at hk3 hm1 hm2
        obtain ⟨m, rfl⟩ : ∃ j, m = j + 1 := ⟨m - 1, by omega⟩
        rw [runsK_cons, show unlines [] (k :: runsK ((k, m) :: rs2)) = none from rfl, Option.map_none] at hu2
        rw [hu2]
        simp only [List.length_cons] at hRl
        (first | (refine H.wg ?_; clear H; intros; rename_i w H; constructor) | refine wk ?_)
        exact ⟨V, r6, Sub.refl _, H.sx, by rw [decide_eq_false (by omega)]⟩
end
end Go.Proofs.YtgnaojphgdaalaaDoor
namespace Go.Proofs.YtgnaojphgdaalaaDoor
open Go Go.RowKit

theorem i64_nat {x : Nat} (h : x < 9223372036854775808) : (BitVec.ofInt 64 (x : Int)).toNat = x := ofInt_nat (w := 64) (by omega)
theorem and1023 {x : Nat} (h : x < 2147483648) : bitsI .and .i64 (x : Int) 1023 = ((x % 1024 : Nat) : Int) := by
  have e : bitsI .and .i64 (x : Int) 1023 = IntKind.i64.wrap (((BitVec.ofInt 64 (x : Int)) &&& (BitVec.ofInt 64 (1023 : Int))).toNat : Int) := rfl
  rw [e, BitVec.toNat_and, ofInt_nat (w := 64) (by omega), show (BitVec.ofInt 64 (1023 : Int)).toNat = 2 ^ 10 - 1 by decide, Nat.and_two_pow_sub_one_eq_mod]
  exact wrap_i64_nat (by omega)
theorem shr10 {n : Nat} : ((n : Int) / 2 ^ min (Int.toNat 10) IntKind.i64.bits) = ((n / 1024 : Nat) : Int) := rfl
structure EncR (W V : World) (o : Option (List UInt8)) (v : Value) (w' : World) : Prop where
  ex : ∃ (V' : World) (r : Sl), Sub V V' ∧ Rel W V [] V' w' ∧ (match o with
    | none => v = .tuple #[.slice none 0 0, .bool false]
    | some o => v = .tuple #[r.v, .bool true] ∧ Byt V' r o)
section
variable {w0 V0 V w : World} {own : List Res}
set_option maxRecDepth 100000 in
theorem add_txt {b : Nat} {r : Sl} {xs : List UInt8} (H : Rel w0 V0 (.row r 5 1 (xs.flatMap byC) :: .blk b [r.v] 22 :: own) V w) (hl : xs.length ≤ 1000000000) {sp : Sl} {hs : List Sl} {ll : List (List UInt8)} (h1 : SlF slC V sp hs) (h2 : Pw BytR V hs ll) (h3 : ll.length ≤ 1000000) (h4 : ll.flatten.length ≤ 1000000) :
    Ret Tryd.prog 67 [sp.v, .pointer (some ⟨b, 0, none⟩)].toArray w fun _ w' => ∃ r' : Sl, Rel w0 V0 (.row r' 5 1 ((xs ++ ll.flatten).flatMap byC) :: .blk b [r'.v] 22 :: own) V w' := by
  refine cal_of_vc tabOk Tryd.func67 rfl (by kernel_rfl) 7 rfl (by simp) [0, 1] ?_
  (first | (refine H.wg ?_; clear H; intros; rename_i w H; constructor) | refine wk ?_)
  ((first | refine draw_vcQ (id := 0) tabOk mixed [2] [0, 1, 2, 3, 4] (by kernel_rfl) ?_); intro w hdw; replace H := Rel.ext H hdw.ext)
  (first | (refine H.wg ?_; clear H; intros; rename_i w H; constructor) | refine wk ?_)
  refine (concat_bytes H.data h1 h2 h3 (by omega)).use ?_
  rintro v w ⟨r2, rfl, K⟩
  (have hKb := K.base; replace H := Rel.call H K)
  simp only [List.cons_append, List.nil_append] at H
  (first | (refine H.wg ?_; clear H; intros; rename_i w H; constructor) | refine wk ?_)
  refine Rel.appB (s := r) (x := r2) (xs := xs) (ys := ll.flatten) H (i := 0) rfl (by omega) ?_
  clear H
  intro rn w H
  simp only [List.set_cons_zero] at H
  (first | (refine H.wg ?_; clear H; intros; rename_i w H; constructor) | refine wk ?_)
  exact ⟨rn, H⟩
end
section
variable {V W : World}
theorem u8_snoc (l : List Nat) (c : Nat) : List.flatMap u8c (l ++ [c]) = List.flatMap u8c l ++ u8c c := by rw [List.flatMap_append, List.flatMap_singleton]
theorem u16_snoc (big : Bool) (l : List Nat) (c : Nat) : ((l ++ [c]).flatMap u16c).flatMap (unB big) = (l.flatMap u16c).flatMap (unB big) ++ (u16c c).flatMap (unB big) := by rw [List.flatMap_append, List.flatMap_singleton, List.flatMap_append]
theorem u16_take (big : Bool) (cs : List Nat) (k : Nat) : (((cs.take k).flatMap u16c).flatMap (unB big)).length ≤ 4 * k := by
  have : ∀ l : List Nat, ((l.flatMap u16c).flatMap (unB big)).length ≤ 4 * l.length := fun l => by
    induction l with
    | nil => exact Nat.le_refl _
    | cons c l ih =>
      have hu : ((u16c c).flatMap (unB big)).length ≤ 4 := by
        unfold u16c
        split <;> simp [unB_len]
      rw [List.flatMap_cons, List.flatMap_append, List.length_append, List.length_cons]
      omega
  have := this (cs.take k)
  rw [List.length_take] at this
  omega
theorem u8_take (cs : List Nat) (k : Nat) : ((cs.take k).flatMap u8c).length ≤ 4 * k := by
  have : ∀ l : List Nat, (l.flatMap u8c).length ≤ 4 * l.length := fun l => by
    induction l with
    | nil => exact Nat.le_refl _
    | cons c l ih =>
      have := u8n_le c
      rw [List.flatMap_cons, List.length_append, List.length_cons, u8c_len]
      omega
  have := this (cs.take k)
  rw [List.length_take] at this
  omega
set_option maxRecDepth 100000 in
set_option maxHeartbeats 2000000 in
theorem encode_txt (hV : Sub V W) {s : Sl} {cs : List Nat} (hs : SlF ruC V s cs) (hl : cs.length ≤ 10000000) (hc : ∀ c ∈ cs, isCh c) {e : Nat} (he : e < 5) : Ret Tryd.prog 38 [s.v, iv (e : Int)].toArray W (EncR W V (encC e cs)) := by
  have H := Rel.start hV
  have hlen := hs.len
  have hcase : e = 0 ∨ e = 1 ∨ e = 2 ∨ e = 3 ∨ e = 4 := by omega
  refine cal_of_vc tabOk Tryd.func38 rfl (by kernel_rfl) 87 rfl (by simp) [0, 1, 4, 5, 6, 7, 8, 10, 11, 15, 16, 20, 28, 29, 30, 31, 41, 48, 56, 66] ?_
  rcases hcase with rfl | rfl | rfl | rfl | rfl
  · (first | (refine H.wh ?_; clear H; intros; rename_i w H; constructor) | refine wk ?_)
    ((first | refine Rel.nwD H ?_ | refine Rel.nw H ?_); clear H; intro w b6 H)
    replace H := H.rowNil 5 1
    have H0 : Rel W V [.row ⟨none, 0, 0⟩ 5 1 (([] : List UInt8).flatMap byC), .blk b6 [(⟨none, 0, 0⟩ : Sl).v] 22] V w := H
    clear H
    have H := H0
    clear H0
    rw [show encC 0 cs = some ([] ++ cs.flatMap u8c) from rfl]
    (first | (refine H.wg ?_; clear H; intros; rename_i w H; constructor) | refine wk ?_)
    refine loop_inv (S := Nat × Sl) tabOk [0, 1, 6, 7, 8, 15, 16, 20, 28, 29] (fun k => [(30, iv k.1)]) (fun k w' => k.1 ≤ cs.length ∧ Rel W V [.row k.2 5 1 (([] ++ (cs.take k.1).flatMap u8c).flatMap byC), .blk b6 [k.2.v] 22] V w') (fun k _ => cs.length - k.1) (0, ⟨none, 0, 0⟩) ?_
    (conv => whnf)
    refine ⟨(by repeat (first | exact trivial | refine ⟨rfl, ?_⟩)), ⟨by omega, by rw [List.take_zero, List.flatMap_nil, List.append_nil]; exact H⟩, ?_⟩
    clear H
    rintro ⟨k, r⟩ w ⟨hk, H⟩
    dsimp only at hk H ⊢
    have hlu := u8_take cs k
    by_cases hlt : k < cs.length
    · obtain ⟨p0, c0⟩ := hs.at1 (g := rv) (fun _ => rfl) hlt
      (first | (refine H.wg ?_; clear H; intros; rename_i w H; constructor) | refine wk ?_)
      refine (appendRune_spec (c := cs[k]) H (hc _ (List.getElem_mem hlt)) (by rw [List.length_append]; simp only [List.length_cons, List.length_nil]; omega)).use ?_
      clear H
      rintro v w ⟨rn, rfl, H⟩
      (first | (refine H.wg ?_; clear H; intros; rename_i w H; constructor) | refine wk ?_)
      refine ⟨(by repeat (first | exact trivial | refine ⟨rfl, ?_⟩)), (k + 1, rn), (by repeat (first | exact trivial | refine ⟨rfl, ?_⟩)), ⟨by dsimp only; omega, ?_⟩, by dsimp only; omega⟩
      dsimp only
      rw [List.take_succ_eq_append_getElem hlt, u8_snoc, ← List.append_assoc]
      exact H.sx
    · rw [List.take_of_length_le (by omega)] at H
      obtain ⟨V2, hV2, H, hr⟩ := Rel.freezeF H (fun _ => rfl) (by decide)
      (first | (refine H.wg ?_; clear H; intros; rename_i w H; constructor) | refine wk ?_)
      exact ⟨V2, r, hV2, H.sx, rfl, hr⟩
  · (first | (refine H.wh ?_; clear H; intros; rename_i w H; constructor) | refine wk ?_)
    ((first | refine Rel.nwD H ?_ | refine Rel.nw H ?_); clear H; intro w b6 H)
    replace H := H.rowNil 5 1
    (first | (refine H.wg ?_; clear H; intros; rename_i w H; constructor) | refine wk ?_)
    refine (appendRune_spec (c := 65279) (xs := []) H (by decide) (by simp)).use ?_
    clear H
    rintro v w ⟨rm, rfl, H⟩
    rw [List.nil_append, show u8c 65279 = markB by decide] at H
    rw [show encC 1 cs = some (markB ++ cs.flatMap u8c) from rfl]
    (first | (refine H.wg ?_; clear H; intros; rename_i w H; constructor) | refine wk ?_)
    refine loop_inv (S := Nat × Sl) tabOk [0, 1, 6, 7, 8, 15, 16, 20, 28, 29] (fun k => [(30, iv k.1)]) (fun k w' => k.1 ≤ cs.length ∧ Rel W V [.row k.2 5 1 ((markB ++ (cs.take k.1).flatMap u8c).flatMap byC), .blk b6 [k.2.v] 22] V w') (fun k _ => cs.length - k.1) (0, rm) ?_
    (conv => whnf)
    refine ⟨(by repeat (first | exact trivial | refine ⟨rfl, ?_⟩)), ⟨by omega, by rw [List.take_zero, List.flatMap_nil, List.append_nil]; exact H⟩, ?_⟩
    clear H
    rintro ⟨k, r⟩ w ⟨hk, H⟩
    dsimp only at hk H ⊢
    have hlu := u8_take cs k
    by_cases hlt : k < cs.length
    · obtain ⟨p0, c0⟩ := hs.at1 (g := rv) (fun _ => rfl) hlt
      (first | (refine H.wg ?_; clear H; intros; rename_i w H; constructor) | refine wk ?_)
      refine (appendRune_spec (c := cs[k]) H (hc _ (List.getElem_mem hlt)) (by rw [List.length_append]; simp only [List.length_cons, List.length_nil]; omega)).use ?_
      clear H
      rintro v w ⟨rn, rfl, H⟩
      (first | (refine H.wg ?_; clear H; intros; rename_i w H; constructor) | refine wk ?_)
      refine ⟨(by repeat (first | exact trivial | refine ⟨rfl, ?_⟩)), (k + 1, rn), (by repeat (first | exact trivial | refine ⟨rfl, ?_⟩)), ⟨by dsimp only; omega, ?_⟩, by dsimp only; omega⟩
      dsimp only
      rw [List.take_succ_eq_append_getElem hlt, u8_snoc, ← List.append_assoc]
      exact H.sx
    · rw [List.take_of_length_le (by omega)] at H
      obtain ⟨V2, hV2, H, hr⟩ := Rel.freezeF H (fun _ => rfl) (by decide)
      (first | (refine H.wg ?_; clear H; intros; rename_i w H; constructor) | refine wk ?_)
      exact ⟨V2, r, hV2, H.sx, rfl, hr⟩
  · have em : unB true 65279 = [254, 255] := by decide
    rw [show encC 2 cs = some ([254, 255] ++ (cs.flatMap u16c).flatMap (unB true)) from rfl]
    (first | (refine H.wh ?_; clear H; intros; rename_i w H; constructor) | refine wk ?_)
    ((first | refine Rel.nwD H ?_ | refine Rel.nw H ?_); clear H; intro w b6 H)
    replace H := H.rowNil 5 1
    (first | (refine H.wg ?_; clear H; intros; rename_i w H; constructor) | refine wk ?_)
    refine (unit_spec H.data (u := 65279) (by decide) true).use ?_
    rintro v w ⟨V1, r1, hV1, K, rfl, hr1⟩
    (have hKb := K.base; replace H := Rel.call H K)
    simp only [List.nil_append] at H
    (first | (refine H.wh ?_; clear H; intros; rename_i w H; constructor) | refine wk ?_)
    ((first | refine Rel.nwD H ?_ | refine Rel.nw H ?_); clear H; intro w bs H)
    obtain ⟨V2, hV2, H, hbs⟩ := H.freezeBlk
    have hsl : SlF slC V2 ⟨some ⟨bs, 0, none⟩, 1, 1⟩ [r1] := ⟨rfl, Nat.le_refl _, hbs.cells⟩
    (first | (refine H.wg ?_; clear H; intros; rename_i w H; constructor) | refine wk ?_)
    refine (add_txt (xs := []) H (by simp) hsl (Pw.nil.snoc (hr1.up hV2)) (ll := [unB true 65279]) (by simp) (by simp [unB_len])).use ?_
    clear H
    rintro v w ⟨rm, H⟩
    rw [List.nil_append, show [unB true 65279].flatten = [254, 255] by rw [em]; rfl] at H
    have hV12 := hV1.trans hV2
    (first | (refine H.wg ?_; clear H; intros; rename_i w H; constructor) | refine wk ?_)
    refine loop_inv (S := Nat × Sl) tabOk [0, 1, 6, 7, 8, 15, 16, 20, 28, 29] (fun k => [(30, iv k.1)]) (fun k w' => k.1 ≤ cs.length ∧ ∃ V3, Sub V V3 ∧ Rel W V [.row k.2 5 1 (([254, 255] ++ ((cs.take k.1).flatMap u16c).flatMap (unB true)).flatMap byC), .blk b6 [k.2.v] 22] V3 w') (fun k _ => cs.length - k.1) (0, rm) ?_
    (conv => whnf)
    refine ⟨(by repeat (first | exact trivial | refine ⟨rfl, ?_⟩)), ⟨by omega, V2, hV12, by rw [List.take_zero, List.flatMap_nil, List.flatMap_nil, List.append_nil]; exact H⟩, ?_⟩
    clear H
    rintro ⟨k, r⟩ w ⟨hk, V3, hV3, H⟩
    dsimp only at hk H ⊢
    have hlu := u16_take true cs k
    by_cases hlt : k < cs.length
    · obtain ⟨p0, c0⟩ := (hs.up hV3).at1 (g := rv) (fun _ => rfl) hlt
      have hcc := hc _ (List.getElem_mem hlt)
      have hcl := isCh_lt hcc
      have hxl : ([254, 255] ++ ((cs.take k).flatMap u16c).flatMap (unB true)).length ≤ 1000000000 := by rw [List.length_append]; simp only [List.length_cons, List.length_nil]; omega
      obtain ⟨c, hcE⟩ : ∃ c, c = cs[k] := ⟨_, rfl⟩
      rw [← hcE] at c0 hcc hcl
      obtain ⟨z, hz⟩ : ∃ z : Int, z = (c : Int) := ⟨_, rfl⟩
      change _ = some (Value.int .i32 (c : Int)) at c0
      rw [← hz] at c0
      by_cases h16 : c < 65536
      · (first | (refine H.wg ?_; clear H; intros; rename_i w H; constructor) | refine wk ?_)
        rw [hz]
        refine (unit_spec H.data h16 true).use ?_
        rintro v w ⟨V4, r4, hV4, K, rfl, hr4⟩
        (have hKb := K.base; replace H := Rel.call H K)
        simp only [List.nil_append] at H
        (first | (refine H.wh ?_; clear H; intros; rename_i w H; constructor) | refine wk ?_)
        ((first | refine Rel.nwD H ?_ | refine Rel.nw H ?_); clear H; intro w bs4 H)
        obtain ⟨V5, hV5, H, hbs4⟩ := H.freezeBlk
        have hsl4 : SlF slC V5 ⟨some ⟨bs4, 0, none⟩, 1, 1⟩ [r4] := ⟨rfl, Nat.le_refl _, hbs4.cells⟩
        (first | (refine H.wg ?_; clear H; intros; rename_i w H; constructor) | refine wk ?_)
        refine (add_txt H hxl hsl4 (Pw.nil.snoc (hr4.up hV5)) (ll := [unB true c]) (by simp) (by simp [unB_len])).use ?_
        clear H
        rintro v w ⟨rn, H⟩
        have e16 : [unB true c].flatten = (u16c c).flatMap (unB true) := by unfold u16c; rw [if_pos h16]; rfl
        rw [e16, List.append_assoc, ← u16_snoc, hcE, ← List.take_succ_eq_append_getElem hlt] at H
        (first | (refine H.wg ?_; clear H; intros; rename_i w H; constructor) | refine wk ?_)
        exact ⟨(by repeat (first | exact trivial | refine ⟨rfl, ?_⟩)), (k + 1, rn), (by repeat (first | exact trivial | refine ⟨rfl, ?_⟩)), ⟨by dsimp only; omega, V5, (hV3.trans hV4).trans hV5, H.sx⟩, by dsimp only; omega⟩
      · obtain ⟨m, hm⟩ : ∃ m, m = c - 65536 := ⟨_, rfl⟩
        (first | (refine H.wg ?_; clear H; intros; rename_i w H; constructor) | refine wk ?_)
        rw [show z - 65536 = (m : Int) by omega]
        (first | (refine H.wg ?_; clear H; intros; rename_i w H; constructor) | refine wk ?_)
        rw [shr10]
        (first | (refine H.wg ?_; clear H; intros; rename_i w H; constructor) | refine wk ?_)
        rw [show (55296 : Int) + ((m / 1024 : Nat) : Int) = ((55296 + m / 1024 : Nat) : Int) by omega]
        refine (unit_spec H.data (by omega) true).use ?_
        rintro v w ⟨V4, r4, hV4, K, rfl, hr4⟩
        (have hKb := K.base; replace H := Rel.call H K)
        simp only [List.nil_append] at H
        (first | (refine H.wg ?_; clear H; intros; rename_i w H; constructor) | refine wk ?_)
        rw [and1023 (by omega)]
        (first | (refine H.wg ?_; clear H; intros; rename_i w H; constructor) | refine wk ?_)
        rw [show (56320 : Int) + ((m % 1024 : Nat) : Int) = ((56320 + m % 1024 : Nat) : Int) by omega]
        refine (unit_spec H.data (by omega) true).use ?_
        rintro v w ⟨V5, r5, hV5, K, rfl, hr5⟩
        (have hKb := K.base; replace H := Rel.call H K)
        simp only [List.nil_append] at H
        (first | (refine H.wh ?_; clear H; intros; rename_i w H; constructor) | refine wk ?_)
        ((first | refine Rel.nwD H ?_ | refine Rel.nw H ?_); clear H; intro w bs4 H)
        obtain ⟨V6, hV6, H, hbs4⟩ := H.freezeBlk
        have hsl4 : SlF slC V6 ⟨some ⟨bs4, 0, none⟩, 2, 2⟩ [r4, r5] := ⟨rfl, Nat.le_refl _, hbs4.cells⟩
        (first | (refine H.wg ?_; clear H; intros; rename_i w H; constructor) | refine wk ?_)
        refine (add_txt H hxl hsl4 ((Pw.nil.snoc ((hr4.up hV5).up hV6)).snoc (hr5.up hV6)) (ll := [unB true (55296 + m / 1024), unB true (56320 + m % 1024)]) (by simp) (by simp [unB_len])).use ?_
        clear H
        rintro v w ⟨rn, H⟩
        have e16 : [unB true (55296 + m / 1024), unB true (56320 + m % 1024)].flatten = (u16c c).flatMap (unB true) := by unfold u16c; rw [if_neg h16, ← hm]; rfl
        rw [e16, List.append_assoc, ← u16_snoc, hcE, ← List.take_succ_eq_append_getElem hlt] at H
        (first | (refine H.wg ?_; clear H; intros; rename_i w H; constructor) | refine wk ?_)
        exact ⟨(by repeat (first | exact trivial | refine ⟨rfl, ?_⟩)), (k + 1, rn), (by repeat (first | exact trivial | refine ⟨rfl, ?_⟩)), ⟨by dsimp only; omega, V6, ((hV3.trans hV4).trans hV5).trans hV6, H.sx⟩, by dsimp only; omega⟩
    · rw [List.take_of_length_le (by omega)] at H
      obtain ⟨V4, hV4, H, hr⟩ := Rel.freezeF H (fun _ => rfl) (by decide)
      (first | (refine H.wg ?_; clear H; intros; rename_i w H; constructor) | refine wk ?_)
      exact ⟨V4, r, hV3.trans hV4, H.sx, rfl, hr⟩
  · have em : unB false 65279 = [255, 254] := by decide
    rw [show encC 3 cs = some ([255, 254] ++ (cs.flatMap u16c).flatMap (unB false)) from rfl]
    (first | (refine H.wh ?_; clear H; intros; rename_i w H; constructor) | refine wk ?_)
    ((first | refine Rel.nwD H ?_ | refine Rel.nw H ?_); clear H; intro w b6 H)
    replace H := H.rowNil 5 1
    (first | (refine H.wg ?_; clear H; intros; rename_i w H; constructor) | refine wk ?_)
    refine (unit_spec H.data (u := 65279) (by decide) false).use ?_
    rintro v w ⟨V1, r1, hV1, K, rfl, hr1⟩
    (have hKb := K.base; replace H := Rel.call H K)
    simp only [List.nil_append] at H
    (first | (refine H.wh ?_; clear H; intros; rename_i w H; constructor) | refine wk ?_)
    ((first | refine Rel.nwD H ?_ | refine Rel.nw H ?_); clear H; intro w bs H)
    obtain ⟨V2, hV2, H, hbs⟩ := H.freezeBlk
    have hsl : SlF slC V2 ⟨some ⟨bs, 0, none⟩, 1, 1⟩ [r1] := ⟨rfl, Nat.le_refl _, hbs.cells⟩
    (first | (refine H.wg ?_; clear H; intros; rename_i w H; constructor) | refine wk ?_)
    refine (add_txt (xs := []) H (by simp) hsl (Pw.nil.snoc (hr1.up hV2)) (ll := [unB false 65279]) (by simp) (by simp [unB_len])).use ?_
    clear H
    rintro v w ⟨rm, H⟩
    rw [List.nil_append, show [unB false 65279].flatten = [255, 254] by rw [em]; rfl] at H
    have hV12 := hV1.trans hV2
    (first | (refine H.wg ?_; clear H; intros; rename_i w H; constructor) | refine wk ?_)
    refine loop_inv (S := Nat × Sl) tabOk [0, 1, 6, 7, 8, 15, 16, 20, 28, 29] (fun k => [(30, iv k.1)]) (fun k w' => k.1 ≤ cs.length ∧ ∃ V3, Sub V V3 ∧ Rel W V [.row k.2 5 1 (([255, 254] ++ ((cs.take k.1).flatMap u16c).flatMap (unB false)).flatMap byC), .blk b6 [k.2.v] 22] V3 w') (fun k _ => cs.length - k.1) (0, rm) ?_
    (conv => whnf)
    refine ⟨(by repeat (first | exact trivial | refine ⟨rfl, ?_⟩)), ⟨by omega, V2, hV12, by rw [List.take_zero, List.flatMap_nil, List.flatMap_nil, List.append_nil]; exact H⟩, ?_⟩
    clear H
    rintro ⟨k, r⟩ w ⟨hk, V3, hV3, H⟩
    dsimp only at hk H ⊢
    have hlu := u16_take false cs k
    by_cases hlt : k < cs.length
    · obtain ⟨p0, c0⟩ := (hs.up hV3).at1 (g := rv) (fun _ => rfl) hlt
      have hcc := hc _ (List.getElem_mem hlt)
      have hcl := isCh_lt hcc
      have hxl : ([255, 254] ++ ((cs.take k).flatMap u16c).flatMap (unB false)).length ≤ 1000000000 := by rw [List.length_append]; simp only [List.length_cons, List.length_nil]; omega
      obtain ⟨c, hcE⟩ : ∃ c, c = cs[k] := ⟨_, rfl⟩
      rw [← hcE] at c0 hcc hcl
      obtain ⟨z, hz⟩ : ∃ z : Int, z = (c : Int) := ⟨_, rfl⟩
      change _ = some (Value.int .i32 (c : Int)) at c0
      rw [← hz] at c0
      by_cases h16 : c < 65536
      · (first | (refine H.wg ?_; clear H; intros; rename_i w H; constructor) | refine wk ?_)
        rw [hz]
        refine (unit_spec H.data h16 false).use ?_
        rintro v w ⟨V4, r4, hV4, K, rfl, hr4⟩
        (have hKb := K.base; replace H := Rel.call H K)
        simp only [List.nil_append] at H
        (first | (refine H.wh ?_; clear H; intros; rename_i w H; constructor) | refine wk ?_)
        ((first | refine Rel.nwD H ?_ | refine Rel.nw H ?_); clear H; intro w bs4 H)
        obtain ⟨V5, hV5, H, hbs4⟩ := H.freezeBlk
        have hsl4 : SlF slC V5 ⟨some ⟨bs4, 0, none⟩, 1, 1⟩ [r4] := ⟨rfl, Nat.le_refl _, hbs4.cells⟩
        (first | (refine H.wg ?_; clear H; intros; rename_i w H; constructor) | refine wk ?_)
        refine (add_txt H hxl hsl4 (Pw.nil.snoc (hr4.up hV5)) (ll := [unB false c]) (by simp) (by simp [unB_len])).use ?_
        clear H
        rintro v w ⟨rn, H⟩
        have e16 : [unB false c].flatten = (u16c c).flatMap (unB false) := by unfold u16c; rw [if_pos h16]; rfl
        rw [e16, List.append_assoc, ← u16_snoc, hcE, ← List.take_succ_eq_append_getElem hlt] at H
        (first | (refine H.wg ?_; clear H; intros; rename_i w H; constructor) | refine wk ?_)
        exact ⟨(by repeat (first | exact trivial | refine ⟨rfl, ?_⟩)), (k + 1, rn), (by repeat (first | exact trivial | refine ⟨rfl, ?_⟩)), ⟨by dsimp only; omega, V5, (hV3.trans hV4).trans hV5, H.sx⟩, by dsimp only; omega⟩
      · obtain ⟨m, hm⟩ : ∃ m, m = c - 65536 := ⟨_, rfl⟩
        (first | (refine H.wg ?_; clear H; intros; rename_i w H; constructor) | refine wk ?_)
        rw [show z - 65536 = (m : Int) by omega]
        (first | (refine H.wg ?_; clear H; intros; rename_i w H; constructor) | refine wk ?_)
        rw [shr10]
        (first | (refine H.wg ?_; clear H; intros; rename_i w H; constructor) | refine wk ?_)
        rw [show (55296 : Int) + ((m / 1024 : Nat) : Int) = ((55296 + m / 1024 : Nat) : Int) by omega]
        refine (unit_spec H.data (by omega) false).use ?_
        rintro v w ⟨V4, r4, hV4, K, rfl, hr4⟩
        (have hKb := K.base; replace H := Rel.call H K)
        simp only [List.nil_append] at H
        (first | (refine H.wg ?_; clear H; intros; rename_i w H; constructor) | refine wk ?_)
        rw [and1023 (by omega)]
        (first | (refine H.wg ?_; clear H; intros; rename_i w H; constructor) | refine wk ?_)
        rw [show (56320 : Int) + ((m % 1024 : Nat) : Int) = ((56320 + m % 1024 : Nat) : Int) by omega]
        refine (unit_spec H.data (by omega) false).use ?_
        rintro v w ⟨V5, r5, hV5, K, rfl, hr5⟩
        (have hKb := K.base; replace H := Rel.call H K)
        simp only [List.nil_append] at H
        (first | (refine H.wh ?_; clear H; intros; rename_i w H; constructor) | refine wk ?_)
        ((first | refine Rel.nwD H ?_ | refine Rel.nw H ?_); clear H; intro w bs4 H)
        obtain ⟨V6, hV6, H, hbs4⟩ := H.freezeBlk
        have hsl4 : SlF slC V6 ⟨some ⟨bs4, 0, none⟩, 2, 2⟩ [r4, r5] := ⟨rfl, Nat.le_refl _, hbs4.cells⟩
        (first | (refine H.wg ?_; clear H; intros; rename_i w H; constructor) | refine wk ?_)
        refine (add_txt H hxl hsl4 ((Pw.nil.snoc ((hr4.up hV5).up hV6)).snoc (hr5.up hV6)) (ll := [unB false (55296 + m / 1024), unB false (56320 + m % 1024)]) (by simp) (by simp [unB_len])).use ?_
        clear H
        rintro v w ⟨rn, H⟩
        have e16 : [unB false (55296 + m / 1024), unB false (56320 + m % 1024)].flatten = (u16c c).flatMap (unB false) := by unfold u16c; rw [if_neg h16, ← hm]; rfl
        rw [e16, List.append_assoc, ← u16_snoc, hcE, ← List.take_succ_eq_append_getElem hlt] at H
        (first | (refine H.wg ?_; clear H; intros; rename_i w H; constructor) | refine wk ?_)
        exact ⟨(by repeat (first | exact trivial | refine ⟨rfl, ?_⟩)), (k + 1, rn), (by repeat (first | exact trivial | refine ⟨rfl, ?_⟩)), ⟨by dsimp only; omega, V6, ((hV3.trans hV4).trans hV5).trans hV6, H.sx⟩, by dsimp only; omega⟩
    · rw [List.take_of_length_le (by omega)] at H
      obtain ⟨V4, hV4, H, hr⟩ := Rel.freezeF H (fun _ => rfl) (by decide)
      (first | (refine H.wg ?_; clear H; intros; rename_i w H; constructor) | refine wk ?_)
      exact ⟨V4, r, hV3.trans hV4, H.sx, rfl, hr⟩
  · rw [show encC 4 cs = if ∀ c ∈ cs, c < 256 then some (cs.map UInt8.ofNat) else none from rfl]
    (first | (refine H.wh ?_; clear H; intros; rename_i w H; constructor) | refine wk ?_)
    ((first | refine Rel.nwD H ?_ | refine Rel.nw H ?_); clear H; intro w b6 H)
    replace H := H.rowNil 5 1
    (first | (refine H.wg ?_; clear H; intros; rename_i w H; constructor) | refine wk ?_)
    refine loop_inv (S := Nat × Sl) tabOk [0, 1, 6, 7, 8, 15, 16, 20, 28, 29] (fun k => [(30, iv k.1)]) (fun k w' => k.1 ≤ cs.length ∧ (∀ c ∈ cs.take k.1, c < 256) ∧ Rel W V [.row k.2 5 1 (((cs.take k.1).map UInt8.ofNat).flatMap byC), .blk b6 [k.2.v] 22] V w') (fun k _ => cs.length - k.1) (0, ⟨none, 0, 0⟩) ?_
    (conv => whnf)
    refine ⟨(by repeat (first | exact trivial | refine ⟨rfl, ?_⟩)), ⟨by omega, by simp, H⟩, ?_⟩
    clear H
    rintro ⟨k, r⟩ w ⟨hk, ha, H⟩
    dsimp only at hk ha H ⊢
    by_cases hlt : k < cs.length
    · obtain ⟨p0, c0⟩ := hs.at1 (g := rv) (fun _ => rfl) hlt
      have hcc := isCh_lt (hc _ (List.getElem_mem hlt))
      have hlk : ((cs.take k).map UInt8.ofNat).length = k := by rw [List.length_map, List.length_take]; omega
      by_cases h255 : 255 < cs[k]
      · rw [if_neg (fun h => by have := h _ (List.getElem_mem hlt); omega)]
        (first | (refine H.wg ?_; clear H; intros; rename_i w H; constructor) | refine wk ?_)
        exact ⟨V, ⟨none, 0, 0⟩, Sub.refl _, H.sx, rfl⟩
      · (first | (refine H.wh ?_; clear H; intros; rename_i w H; constructor) | refine wk ?_)
        ((first | refine Rel.nwD H ?_ | refine Rel.nw H ?_); clear H; intro w b54 H)
        rw [wr8 (show cs[k] < 256 by omega)] at H
        replace H := H.blkEq (c' := byC (UInt8.ofNat cs[k])) (by simp only [byC, bv, toNat_ofNat_lt (show cs[k] < 256 by omega)])
        (first | (refine H.wg ?_; clear H; intros; rename_i w H; constructor) | refine wk ?_)
        refine Rel.app1_0 (f := byC) (l := (cs.take k).map UInt8.ofNat) (x := UInt8.ofNat cs[k]) tabOk rfl rfl rfl rfl rfl (by decide) (fun _ => rfl) (List.all_eq_true.1 rfl) H (by show (((cs.take k).map UInt8.ofNat).length + 1) * 1 ≤ _; omega) (by omega) ?_
        clear H
        intro rn w H
        (first | (refine H.wg ?_; clear H; intros; rename_i w H; constructor) | refine wk ?_)
        refine ⟨(by repeat (first | exact trivial | refine ⟨rfl, ?_⟩)), (k + 1, rn), (by repeat (first | exact trivial | refine ⟨rfl, ?_⟩)), ⟨by dsimp only; omega, fun c hc2 => ?_, ?_⟩, by dsimp only; omega⟩
        · dsimp only at hc2
          rw [List.take_succ_eq_append_getElem hlt] at hc2
          rcases List.mem_append.1 hc2 with h | h
          · exact ha c h
          · rw [List.mem_singleton.1 h]; omega
        · dsimp only
          rw [List.take_succ_eq_append_getElem hlt, List.map_append]
          exact H.sx
    · rw [List.take_of_length_le (by omega)] at H ha
      rw [if_pos ha]
      obtain ⟨V2, hV2, H, hr⟩ := Rel.freezeF H (fun _ => rfl) (by decide)
      (first | (refine H.wg ?_; clear H; intros; rename_i w H; constructor) | refine wk ?_)
      exact ⟨V2, r, hV2, H.sx, rfl, hr⟩
end
end Go.Proofs.YtgnaojphgdaalaaDoor
