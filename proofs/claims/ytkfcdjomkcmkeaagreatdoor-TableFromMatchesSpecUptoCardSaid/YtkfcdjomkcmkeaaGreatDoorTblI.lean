/-
  Files of tables, the reference: sheets.
-/
import Derived.Test.YtkfcdjomkcmkeaaGreatDoorTblG
import Derived.Test.YtkfcdjomkcmkeaaGreatDoorValI
namespace Go.Proofs.YtkfcdjomkcmkeaaGreatDoor
open Go Go.RowKit

theorem rdQ_one {c : UInt8} {t : List UInt8} (h : c ≠ 34) : rdQ (c :: t) = preQ [c] (rdQ t) := by
  cases t with
  | nil =>
    unfold rdQ
    rw [if_neg h]
    rfl
  | cons d t => exact rdQ_cons h
theorem rdQ_stop {r : List UInt8} (hr : r.head? ≠ some 34) : rdQ (34 :: r) = some ([], r) := rdQ_end (a := []) rfl hr
theorem rdQ_two (r : List UInt8) : rdQ (34 :: 34 :: r) = preQ [34] (rdQ r) := rdQ_go (a := []) rfl
theorem tsp_nat (s c : UInt8) : tsp s c = (decide (c.toNat = s.toNat) || decide (c.toNat = 34) || decide (c.toNat = 13) || decide (c.toNat = 10)) := by
  have e : ∀ d : UInt8, decide (c = d) = decide (c.toNat = d.toNat) := fun d => decide_eq_decide.2 ⟨fun h => by rw [h], fun h => UInt8.toNat_inj.1 h⟩
  unfold tsp
  rw [e s, e 34, e 13, e 10]
  rfl
section
variable {V W : World}
theorem separatorAt_ref (hV : Sub V W) {n : Nat} (hn : n < 3) : Ret Tryz.prog 23 [iv (n : Nat)].toArray W fun v w' => v = bv (sepB n) ∧ Rel W V [] V w' := by
  have H := Rel.start hV
  refine cal_of_vc tabOk Tryz.func23 rfl (by kernel_rfl) 9 rfl (by simp) [0, 2, 3] ?_
  have hn3 : n = 0 ∨ n = 1 ∨ n = 2 := by omega
  rcases hn3 with rfl | rfl | rfl
  all_goals
    (first | (refine H.wh ?_; clear H; intros; rename_i w H; constructor) | refine wk ?_)
    ((first | refine Rel.nwD H ?_ | refine Rel.nw H ?_); clear H; intro w b1 H)
    (first | (refine H.wg ?_; clear H; intros; rename_i w H; constructor) | refine wk ?_)
    first | exact H.sx | exact ⟨rfl, H.sx⟩
end
section
variable {V W : World}
set_option maxRecDepth 100000 in
theorem needsQuotes_ref (hV : Sub V W) {s : Sl} {l : List UInt8} (hs : Byt V s l) (hl : l.length ≤ 1099511627776) (c : UInt8) : Ret Tryz.prog 35 [s.v, bv c].toArray W fun v w' => v = .bool (tNeeds c l) ∧ Rel W V [] V w' := by
  have H := Rel.start hV
  have hlen := hs.len
  refine cal_of_vc tabOk Tryz.func35 rfl (by kernel_rfl) 39 rfl (by simp) [0, 1, 4, 5, 9, 38] ?_
  (first | (refine H.wg ?_; clear H; intros; rename_i w H; constructor) | refine wk ?_)
  refine loop_inv (S := Nat) tabOk [0, 1] (fun j => [(5, iv j)]) (fun j w' => j ≤ l.length ∧ tNeeds c (l.take j) = false ∧ Rel W V [] V w') (fun j _ => l.length - j) 0 ?_
  (conv => whnf)
  refine ⟨(by repeat (first | exact trivial | refine ⟨rfl, ?_⟩)), ⟨by omega, rfl, H⟩, ?_⟩
  clear H
  rintro j w ⟨hj, hno, H⟩
  by_cases hjl : j < l.length
  rotate_left
  · rw [List.take_of_length_le (by omega)] at hno
    rw [hno]
    (first | (refine H.wg ?_; clear H; intros; rename_i w H; constructor) | refine wk ?_)
    first | exact H.sx | exact ⟨rfl, H.sx⟩
  obtain ⟨p0, c0⟩ := hs.at1 (g := bv) (fun _ => rfl) hjl
  obtain ⟨x, hx⟩ : ∃ x, x = l[j] := ⟨_, rfl⟩
  rw [← hx] at c0
  have hx8 := x.toNat_lt
  have hts := tsp_nat c x
  have hyes : tsp c x = true → tNeeds c l = true := fun h => by
    unfold tNeeds
    rw [List.any_eq_true]
    exact ⟨x, by rw [hx]; exact List.getElem_mem hjl, h⟩
  by_cases e1 : x.toNat = c.toNat
  · rw [hyes (by rw [hts, decide_eq_true e1]; rfl)]
    (first | (refine H.wg ?_; clear H; intros; rename_i w H; constructor) | refine wk ?_)
    first | exact H.sx | exact ⟨rfl, H.sx⟩
  by_cases e2 : x.toNat = 34
  · rw [hyes (by rw [hts, decide_eq_true e2]; simp)]
    (first | (refine H.wg ?_; clear H; intros; rename_i w H; constructor) | refine wk ?_)
    first | exact H.sx | exact ⟨rfl, H.sx⟩
  by_cases e3 : x.toNat = 13
  · rw [hyes (by rw [hts, decide_eq_true e3]; simp)]
    (first | (refine H.wg ?_; clear H; intros; rename_i w H; constructor) | refine wk ?_)
    first | exact H.sx | exact ⟨rfl, H.sx⟩
  by_cases e4 : x.toNat = 10
  · rw [hyes (by rw [hts, decide_eq_true e4]; simp)]
    (first | (refine H.wg ?_; clear H; intros; rename_i w H; constructor) | refine wk ?_)
    first | exact H.sx | exact ⟨rfl, H.sx⟩
  · (first | (refine H.wg ?_; clear H; intros; rename_i w H; constructor) | refine wk ?_)
    exact ⟨(by repeat (first | exact trivial | refine ⟨rfl, ?_⟩)), j + 1, (by repeat (first | exact trivial | refine ⟨rfl, ?_⟩)), ⟨by omega, tN_step hjl hno (by rw [← hx, hts]; simp [e1, e2, e3, e4]), H.sx⟩, by omega⟩
/-- what cellAt returns -/
structure CelH (W V : World) (l : List UInt8) (o : Option (Cel × List UInt8)) (v : Value) (w' : World) : Prop where
  ex : ∃ (V' : World) (c : Sl) (f g : Bool) (p : Nat), Sub V V' ∧ Rel W V [] V' w' ∧ v = .tuple #[c.v, .bool f, iv (p : Nat), .bool g] ∧ (match o with
    | none => g = false
    | some x => g = true ∧ f = x.1.2 ∧ Byt V' c x.1.1 ∧ p ≤ l.length ∧ l.drop p = x.2)
set_option maxRecDepth 100000 in
set_option maxHeartbeats 2000000 in
theorem cellAt_ref (hV : Sub V W) {s : Sl} {l : List UInt8} (hs : Byt V s l) (hl : l.length ≤ 1000000) {a : Nat} (ha : a ≤ l.length) {c : UInt8} (hc : c.toNat < 128) (hc34 : c ≠ 34) : Ret Tryz.prog 43 [s.v, iv (a : Nat), bv c].toArray W (CelH W V l (rdCell c (l.drop a))) := by
  have H := Rel.start hV
  have hlen := hs.len
  have hcn : c.toNat ≠ 34 := fun h => hc34 (UInt8.toNat_inj.1 h)
  refine cal_of_vc tabOk Tryz.func43 rfl (by kernel_rfl) 106 rfl (by simp) [0, 1, 2, 6, 7, 8, 9, 10, 11, 22, 48, 53, 70, 77, 97] ?_
  by_cases hh : (l.drop a).head? = some 34
  rotate_left
  · have hrd : ∀ p, a ≤ p → p ≤ l.length → tNeeds c ((l.drop a).take (p - a)) = false → (l.drop p = [] ∨ ∃ h r, l.drop p = h :: r ∧ tsp c h = true) → rdCell c (l.drop a) = if (l.drop p).head? = some 34 then none else some (((l.drop a).take (p - a), false), l.drop p) := fun p h1 h2 h3 h4 => by
      have e : l.drop a = (l.drop a).take (p - a) ++ l.drop p := by
        conv => lhs; rw [← List.take_append_drop (p - a) (l.drop a), List.drop_drop]
        congr 2
        omega
      have ht := tkU_out h3 h4
      rw [← e] at ht
      unfold rdCell
      rw [if_neg hh, ht]
    by_cases hal : a < l.length
    · obtain ⟨pa, ca⟩ := hs.at1 (g := bv) (fun _ => rfl) hal
      obtain ⟨xa, hxa⟩ : ∃ x, x = l[a] := ⟨_, rfl⟩
      rw [← hxa] at ca
      have hxa34 : xa.toNat ≠ 34 := fun h34 => by
        apply hh
        rw [List.drop_eq_getElem_cons hal, List.head?_cons, ← hxa]
        congr 1
        exact UInt8.toNat_inj.1 (by rw [h34]; rfl)
      (first | (refine H.wg ?_; clear H; intros; rename_i w H; constructor) | refine wk ?_)
      replace H := H.rowNil 5 1
      refine loop_inv (S := Nat × Sl) tabOk [0, 2, 11, 22, 70, 77, 97] (fun z => [(1, iv z.1), (10, z.2.v)]) (fun z w' => a ≤ z.1 ∧ z.1 ≤ l.length ∧ tNeeds c ((l.drop a).take (z.1 - a)) = false ∧ Rel W V [.row z.2 5 1 (((l.drop a).take (z.1 - a)).flatMap byC)] V w') (fun z _ => l.length - z.1) (a, ⟨none, 0, 0⟩) ?_
      (conv => whnf)
      refine ⟨(by repeat (first | exact trivial | refine ⟨rfl, ?_⟩)), ⟨Nat.le_refl _, ha, by rw [Nat.sub_self]; rfl, by rw [Nat.sub_self]; exact H⟩, ?_⟩
      clear H
      rintro ⟨p, cs⟩ w ⟨hp1, hp2, hno, H⟩
      dsimp only at hp1 hp2 hno H ⊢
      by_cases hpl : p < l.length
      rotate_left
      · rw [hrd p hp1 hp2 hno (.inl (List.drop_of_length_le (by omega))), if_neg (by rw [List.drop_of_length_le (by omega)]; decide)]
        obtain ⟨V2, hV2, H, hr⟩ := Rel.freezeF H (fun _ => rfl) (by decide)
        try (have c2 := hV2.cell c0)
        try (have c3 := hV2.cell c1)
        (first | (refine H.wg ?_; clear H; intros; rename_i w H; constructor) | refine wk ?_)
        exact ⟨V2, cs, false, true, p, hV2, H.sx, rfl, rfl, rfl, hr, hp2, rfl⟩
      obtain ⟨p0, c0⟩ := hs.at1 (g := bv) (fun _ => rfl) hpl
      obtain ⟨x, hx⟩ : ∃ x, x = l[p] := ⟨_, rfl⟩
      rw [← hx] at c0
      have hx8 := x.toNat_lt
      have hdp : l.drop p = x :: l.drop (p + 1) := by rw [hx]; exact List.drop_eq_getElem_cons hpl
      have hts := tsp_nat c x
      have stop : tsp c x = true → rdCell c (l.drop a) = if (l.drop p).head? = some 34 then none else some (((l.drop a).take (p - a), false), l.drop p) := fun h => hrd p hp1 hp2 hno (.inr ⟨x, _, hdp, h⟩)
      have n34 : x.toNat ≠ 34 → ¬ (l.drop p).head? = some 34 := fun h k => h (by rw [hdp, List.head?_cons] at k; cases k; rfl)
      by_cases e1 : x.toNat = c.toNat
      · rw [stop (by rw [hts, decide_eq_true e1]; rfl), if_neg (n34 (by omega))]
        obtain ⟨V2, hV2, H, hr⟩ := Rel.freezeF H (fun _ => rfl) (by decide)
        try (have c2 := hV2.cell c0)
        try (have c3 := hV2.cell c1)
        (first | (refine H.wg ?_; clear H; intros; rename_i w H; constructor) | refine wk ?_)
        exact ⟨V2, cs, false, true, p, hV2, H.sx, rfl, rfl, rfl, hr, hp2, rfl⟩
      by_cases e2 : x.toNat = 34
      · rw [stop (by rw [hts, decide_eq_true e2]; simp), if_pos (by rw [hdp, List.head?_cons]; congr 1; exact UInt8.toNat_inj.1 (by rw [e2]; rfl))]
        (first | (refine H.wg ?_; clear H; intros; rename_i w H; constructor) | refine wk ?_)
        exact ⟨V, ⟨none, 0, 0⟩, false, false, 0, Sub.refl _, H.sx, rfl, rfl⟩
      by_cases e3 : x.toNat = 13
      · rw [stop (by rw [hts, decide_eq_true e3]; simp), if_neg (n34 e2)]
        obtain ⟨V2, hV2, H, hr⟩ := Rel.freezeF H (fun _ => rfl) (by decide)
        try (have c2 := hV2.cell c0)
        try (have c3 := hV2.cell c1)
        (first | (refine H.wg ?_; clear H; intros; rename_i w H; constructor) | refine wk ?_)
        exact ⟨V2, cs, false, true, p, hV2, H.sx, rfl, rfl, rfl, hr, hp2, rfl⟩
      by_cases e4 : x.toNat = 10
      · rw [stop (by rw [hts, decide_eq_true e4]; simp), if_neg (n34 e2)]
        obtain ⟨V2, hV2, H, hr⟩ := Rel.freezeF H (fun _ => rfl) (by decide)
        try (have c2 := hV2.cell c0)
        try (have c3 := hV2.cell c1)
        (first | (refine H.wg ?_; clear H; intros; rename_i w H; constructor) | refine wk ?_)
        exact ⟨V2, cs, false, true, p, hV2, H.sx, rfl, rfl, rfl, hr, hp2, rfl⟩
      have htk : (l.drop a).take (p - a) ++ [x] = (l.drop a).take (p + 1 - a) := by
        rw [show p + 1 - a = (p - a) + 1 by omega, List.take_succ_eq_append_getElem (by rw [List.length_drop]; omega), List.getElem_drop]
        congr 2
        rw [hx]
        congr 1
        omega
      have hkl : ((l.drop a).take (p - a)).length = p - a := by rw [List.length_take, List.length_drop]; omega
      have hno2 : tNeeds c ((l.drop a).take (p + 1 - a)) = false := by
        rw [← htk]
        unfold tNeeds at hno ⊢
        rw [List.any_append, hno]
        simp [hts, e1, e2, e3, e4]
      (first | (refine H.wh ?_; clear H; intros; rename_i w H; constructor) | refine wk ?_)
      ((first | refine Rel.nwD H ?_ | refine Rel.nw H ?_); clear H; intro w b1 H)
      (first | (refine H.wg ?_; clear H; intros; rename_i w H; constructor) | refine wk ?_)
      refine Rel.app1_0 (f := byC) (s := cs) (l := (l.drop a).take (p - a)) (x := x) tabOk rfl rfl rfl rfl rfl (by decide) (fun _ => rfl) (by simp [Value.oneCell']) H (by rw [hkl]; show (_ + 1) * 1 ≤ _; omega) (by rw [hkl]; omega) ?_
      clear H
      intro cs2 w H
      rw [htk] at H
      (first | (refine H.wg ?_; clear H; intros; rename_i w H; constructor) | refine wk ?_)
      exact ⟨(by repeat (first | exact trivial | refine ⟨rfl, ?_⟩)), (p + 1, cs2), (by repeat (first | exact trivial | refine ⟨rfl, ?_⟩)), ⟨by dsimp only; omega, by dsimp only; omega, hno2, H.sx⟩, by dsimp only; omega⟩
    · have hae : a = l.length := by omega
      (first | (refine H.wg ?_; clear H; intros; rename_i w H; constructor) | refine wk ?_)
      replace H := H.rowNil 5 1
      refine loop_inv (S := Nat × Sl) tabOk [0, 2, 11, 22, 70, 77, 97] (fun z => [(1, iv z.1), (10, z.2.v)]) (fun z w' => a ≤ z.1 ∧ z.1 ≤ l.length ∧ tNeeds c ((l.drop a).take (z.1 - a)) = false ∧ Rel W V [.row z.2 5 1 (((l.drop a).take (z.1 - a)).flatMap byC)] V w') (fun z _ => l.length - z.1) (a, ⟨none, 0, 0⟩) ?_
      (conv => whnf)
      refine ⟨(by repeat (first | exact trivial | refine ⟨rfl, ?_⟩)), ⟨Nat.le_refl _, ha, by rw [Nat.sub_self]; rfl, by rw [Nat.sub_self]; exact H⟩, ?_⟩
      clear H
      rintro ⟨p, cs⟩ w ⟨hp1, hp2, hno, H⟩
      dsimp only at hp1 hp2 hno H ⊢
      by_cases hpl : p < l.length
      rotate_left
      · rw [hrd p hp1 hp2 hno (.inl (List.drop_of_length_le (by omega))), if_neg (by rw [List.drop_of_length_le (by omega)]; decide)]
        obtain ⟨V2, hV2, H, hr⟩ := Rel.freezeF H (fun _ => rfl) (by decide)
        try (have c2 := hV2.cell c0)
        try (have c3 := hV2.cell c1)
        (first | (refine H.wg ?_; clear H; intros; rename_i w H; constructor) | refine wk ?_)
        exact ⟨V2, cs, false, true, p, hV2, H.sx, rfl, rfl, rfl, hr, hp2, rfl⟩
      omega
  · have hal : a < l.length := by
      cases hd : l.drop a with
      | nil => rw [hd] at hh; cases hh
      | cons x t =>
        have := congrArg List.length hd
        rw [List.length_drop, List.length_cons] at this
        omega
    have hda := List.drop_eq_getElem_cons hal
    have hxa : l[a] = 34 := by
      rw [hda, List.head?_cons] at hh
      exact Option.some.inj hh
    rw [hxa] at hda
    have hrd : rdCell c (l.drop a) = match rdQ (l.drop (a + 1)) with
      | none => none
      | some p => some ((p.1, true), p.2) := by
      unfold rdCell
      rw [if_pos hh, hda, List.tail_cons]
      rfl
    rw [hrd]
    obtain ⟨pa, ca⟩ := hs.at1 (g := bv) (fun _ => rfl) hal
    rw [hxa] at ca
    change V.cell? _ = some (bv 34) at ca
    clear hrd hda hh hxa
    (first | (refine H.wg ?_; clear H; intros; rename_i w H; constructor) | refine wk ?_)
    replace H := H.rowNil 5 1
    refine loop_inv (S := Nat × Sl × List UInt8) tabOk [0, 1, 2, 22, 48, 53] (fun z => [(10, z.2.1.v), (11, iv z.1)]) (fun z w' => rdQ (l.drop (a + 1)) = preQ z.2.2 (rdQ (l.drop z.1)) ∧ z.2.2.length ≤ z.1 ∧ z.1 ≤ l.length ∧ Rel W V [.row z.2.1 5 1 (z.2.2.flatMap byC)] V w') (fun z _ => l.length - z.1) (a + 1, ⟨none, 0, 0⟩, []) ?_
    (conv => whnf)
    refine ⟨(by repeat (first | exact trivial | refine ⟨rfl, ?_⟩)), ⟨(preQ_nil _).symm, Nat.zero_le _, by dsimp only; omega, H⟩, ?_⟩
    clear H
    rintro ⟨p, cs, x⟩ w ⟨hrd, hxp, hp, H⟩
    dsimp only at hrd hxp hp H ⊢
    rw [hrd]
    by_cases hpl : p < l.length
    rotate_left
    · rw [List.drop_of_length_le (by omega)]
      (first | (refine H.wg ?_; clear H; intros; rename_i w H; constructor) | refine wk ?_)
      exact ⟨V, ⟨none, 0, 0⟩, false, false, 0, Sub.refl _, H.sx, rfl, rfl⟩
    obtain ⟨p0, c0⟩ := hs.at1 (g := bv) (fun _ => rfl) hpl
    obtain ⟨d, hd⟩ : ∃ d, d = l[p] := ⟨_, rfl⟩
    rw [← hd] at c0
    have hd8 := d.toNat_lt
    have hdp : l.drop p = d :: l.drop (p + 1) := by rw [hd]; exact List.drop_eq_getElem_cons hpl
    by_cases e1 : d.toNat = 34
    rotate_left
    · rw [hdp, rdQ_one (fun h => e1 (by rw [h]; rfl)), preQ_pre]
      rw [hdp, rdQ_one (fun h => e1 (by rw [h]; rfl)), preQ_pre] at hrd
      (first | (refine H.wh ?_; clear H; intros; rename_i w H; constructor) | refine wk ?_)
      ((first | refine Rel.nwD H ?_ | refine Rel.nw H ?_); clear H; intro w b2 H)
      (first | (refine H.wg ?_; clear H; intros; rename_i w H; constructor) | refine wk ?_)
      refine Rel.app1_0 (f := byC) (s := cs) (l := x) (x := d) tabOk rfl rfl rfl rfl rfl (by decide) (fun _ => rfl) (by simp [Value.oneCell']) H (by show (_ + 1) * 1 ≤ _; omega) (by omega) ?_
      clear H
      intro cs2 w H
      (first | (refine H.wg ?_; clear H; intros; rename_i w H; constructor) | refine wk ?_)
      rw [← hrd]
      exact ⟨(by repeat (first | exact trivial | refine ⟨rfl, ?_⟩)), (p + 1, cs2, x ++ [d]), (by repeat (first | exact trivial | refine ⟨rfl, ?_⟩)), ⟨hrd, by simp only [List.length_append, List.length_cons, List.length_nil]; omega, by dsimp only; omega, H.sx⟩, by dsimp only; omega⟩
    obtain rfl : d = 34 := UInt8.toNat_inj.1 (by rw [e1]; rfl)
    clear e1 hd8
    change V.cell? _ = some (bv 34) at c0
    by_cases hp1 : p + 1 < l.length
    rotate_left
    · rw [hdp, rdQ_stop (by rw [List.drop_of_length_le (by omega)]; decide)]
      rw [show x = x ++ [] from (List.append_nil x).symm] at H
      obtain ⟨V2, hV2, H, hr⟩ := Rel.freezeF H (fun _ => rfl) (by decide)
      try (have c2 := hV2.cell c0)
      try (have c3 := hV2.cell c1)
      (first | (refine H.wg ?_; clear H; intros; rename_i w H; constructor) | refine wk ?_)
      exact ⟨V2, cs, true, true, (p + 1), hV2, H.sx, rfl, rfl, rfl, hr, (by omega), rfl⟩
    obtain ⟨p1, c1⟩ := hs.at1 (g := bv) (fun _ => rfl) hp1
    obtain ⟨d, hd⟩ : ∃ d, d = l[p + 1] := ⟨_, rfl⟩
    rw [← hd] at c1
    have hd8 := d.toNat_lt
    have hdp1 : l.drop (p + 1) = d :: l.drop (p + 2) := by rw [hd]; exact List.drop_eq_getElem_cons hp1
    by_cases e1 : d.toNat = 34
    rotate_left
    · rw [hdp, rdQ_stop (by rw [hdp1, List.head?_cons]; intro h; cases h; exact e1 rfl)]
      rw [show x = x ++ [] from (List.append_nil x).symm] at H
      obtain ⟨V2, hV2, H, hr⟩ := Rel.freezeF H (fun _ => rfl) (by decide)
      try (have c2 := hV2.cell c0)
      try (have c3 := hV2.cell c1)
      (first | (refine H.wg ?_; clear H; intros; rename_i w H; constructor) | refine wk ?_)
      exact ⟨V2, cs, true, true, (p + 1), hV2, H.sx, rfl, rfl, rfl, hr, (by omega), rfl⟩
    obtain rfl : d = 34 := UInt8.toNat_inj.1 (by rw [e1]; rfl)
    rw [hdp, hdp1, rdQ_two, preQ_pre] at hrd
    rw [hdp, hdp1, rdQ_two, preQ_pre]
    (first | (refine H.wh ?_; clear H; intros; rename_i w H; constructor) | refine wk ?_)
    ((first | refine Rel.nwD H ?_ | refine Rel.nw H ?_); clear H; intro w b3 H)
    (first | (refine H.wg ?_; clear H; intros; rename_i w H; constructor) | refine wk ?_)
    refine Rel.app1_0 (f := byC) (s := cs) (l := x) (x := 34) tabOk rfl rfl rfl rfl rfl (by decide) (fun _ => rfl) (by simp [Value.oneCell']) H (by show (_ + 1) * 1 ≤ _; omega) (by omega) ?_
    clear H
    intro cs2 w H
    (first | (refine H.wg ?_; clear H; intros; rename_i w H; constructor) | refine wk ?_)
    rw [← hrd]
    exact ⟨(by repeat (first | exact trivial | refine ⟨rfl, ?_⟩)), (p + 2, cs2, x ++ [34]), (by repeat (first | exact trivial | refine ⟨rfl, ?_⟩)), ⟨hrd, by simp only [List.length_append, List.length_cons, List.length_nil]; omega, by dsimp only; omega, H.sx⟩, by dsimp only; omega⟩
abbrev sheetC (rs qs : Sl) (o : Bool) : List Value := [rs.v, qs.v, .bool o]
structure SheH (W V : World) (s : UInt8) (x : Option (List (List Cel) × Bool)) (v : Value) (w' : World) : Prop where
  ex : ∃ (V' : World) (rs qs : Sl) (o g : Bool), Sub V V' ∧ Rel W V [] V' w' ∧ v = .tuple #[.agg (sheetC rs qs o).toArray, .bool g] ∧ (match x with
    | none => g = false
    | some y => g = true ∧ (y.1 ≠ [] → o = y.2) ∧ TblAt V' rs (tblOf y.1) ∧ SlF itC V' qs (nz (qn s 0 y.1.flatten)))
theorem dropE {l : List UInt8} {p : Nat} (h : p < l.length) : l.drop p = l[p] :: l.drop (p + 1) := List.drop_eq_getElem_cons h
set_option maxRecDepth 100000 in
set_option maxHeartbeats 4000000 in
theorem sheet_ref (hV : Sub V W) {n : Nat} (k : Bool) {s : Sl} {l : List UInt8} (hs : Byt V s l) (hl : l.length ≤ 1000) : Ret Tryz.prog 22 [s.v, bv (sepB n), .bool k].toArray W (SheH W V (sepB n) (rdFile (sepB n) (tEnd k) l)) := by
  have H := Rel.start hV
  have hlen := hs.len
  refine cal_of_vc tabOk Tryz.func22 rfl (by kernel_rfl) 121 rfl (by simp) [0, 1, 2, 6, 7, 8, 9, 10, 11, 12, 13, 14, 15, 20, 31, 39, 64, 79, 113, 117] ?_
  (first | (refine H.wh ?_; clear H; intros; rename_i w H; constructor) | refine wk ?_)
  ((first | refine Rel.nwD H ?_ | refine Rel.nw H ?_); clear H; intro w b6 H)
  (first | (refine H.wh ?_; clear H; intros; rename_i w H; constructor) | refine wk ?_)
  ((first | refine Rel.nwD H ?_ | refine Rel.nw H ?_); clear H; intro w b8 H)
  (first | (refine H.wg ?_; clear H; intros; rename_i w H; constructor) | refine wk ?_)
  replace H := (H.rowNil 3 1).rowNil 46 1
  refine loop_inv (S := Nat × List (List Cel) × Sl × List Sl × Sl × Bool) tabOk [0, 1, 2, 6, 8] (fun z => [(9, iv (z.2.1.flatten.length : Nat)), (10, iv z.1)]) (fun z w' => rdFile (sepB n) (tEnd k) l = rdT (sepB n) (tEnd k) z.2.1 (l.drop z.1) ∧ (z.2.1 ≠ [] → z.2.2.2.2.2 = false) ∧ z.1 ≤ l.length ∧ z.2.1.length ≤ z.1 ∧ z.2.1.flatten.length ≤ z.1 ∧ ∃ V2, Sub V V2 ∧ Pw BysR V2 z.2.2.2.1 (tblOf z.2.1) ∧ Rel W V [.row z.2.2.1 46 1 (z.2.2.2.1.flatMap slC), .row z.2.2.2.2.1 3 1 ((nz (qn (sepB n) 0 z.2.1.flatten)).flatMap itC), .blk b8 (sheetC z.2.2.1 z.2.2.2.2.1 z.2.2.2.2.2) 59, .blk b6 (sheetC ⟨none, 0, 0⟩ ⟨none, 0, 0⟩ false) 59] V2 w') (fun z _ => l.length - z.1) (0, [], ⟨none, 0, 0⟩, [], ⟨none, 0, 0⟩, true) ?_
  (conv => whnf)
  refine ⟨(by repeat (first | exact trivial | refine ⟨rfl, ?_⟩)), ⟨rfl, fun h => absurd rfl h, Nat.zero_le _, Nat.le_refl _, Nat.le_refl _, V, Sub.refl _, Pw.nil, H⟩, ?_⟩
  clear H
  rintro ⟨pa, R, rs, hh, qs, op⟩ w ⟨hrd, hop, hpl0, hRl, hRf, V2, hV2, hP, H⟩
  dsimp only at hrd hop hpl0 hRl hRf hP H ⊢
  have hhl := hP.len
  rw [List.length_map] at hhl
  by_cases hpl : pa < l.length
  rotate_left
  · rw [hrd, List.drop_of_length_le (by omega)]
    obtain ⟨V3, hV3, H, hrs⟩ := Rel.freezeF H (fun _ => rfl) (by decide)
    obtain ⟨V4, hV4, H, hqs⟩ := Rel.freezeF H (fun _ => rfl) (by decide)
    (first | (refine H.wg ?_; clear H; intros; rename_i w H; constructor) | refine wk ?_)
    exact ⟨V4, rs, qs, op, true, (hV2.trans hV3).trans hV4, H.sx, rfl, rfl, hop, ⟨hh, hrs.up hV4, hP.up bysR_up (hV3.trans hV4)⟩, hqs⟩
  (first | (refine H.wg ?_; clear H; intros; rename_i w H; constructor) | refine wk ?_)
  replace H := H.rowNil 22 1
  rw [rdT, if_neg (by intro h; rw [dropE hpl] at h; cases h)] at hrd
  refine loop_inv (S := Nat × List Cel × Sl × List Sl × Sl) tabOk [0, 1, 2, 6, 8, 20, 79, 113, 117] (fun z => [(9, iv ((R.flatten.length + z.2.1.length : Nat) : Int)), (10, iv z.1), (11, z.2.2.1.v)]) (fun z w' => rdFile (sepB n) (tEnd k) l = rdG (sepB n) (tEnd k) R z.2.1 (l.drop z.1) ∧ z.1 ≤ l.length ∧ pa ≤ z.1 ∧ R.length ≤ z.1 ∧ R.flatten.length + z.2.1.length ≤ z.1 ∧ ∃ V3, Sub V V3 ∧ Pw BysR V3 hh (tblOf R) ∧ Pw BytR V3 z.2.2.2.1 (z.2.1.map Prod.fst) ∧ Rel W V [.row z.2.2.1 22 1 (z.2.2.2.1.flatMap slC), .row rs 46 1 (hh.flatMap slC), .row z.2.2.2.2 3 1 ((nz (qn (sepB n) 0 (R.flatten ++ z.2.1))).flatMap itC), .blk b8 (sheetC rs z.2.2.2.2 op) 59, .blk b6 (sheetC ⟨none, 0, 0⟩ ⟨none, 0, 0⟩ false) 59] V3 w') (fun z _ => l.length - z.1) (pa, [], ⟨none, 0, 0⟩, [], qs) ?_
  (conv => whnf)
  refine ⟨(by repeat (first | exact trivial | refine ⟨rfl, ?_⟩)), ⟨hrd, hpl0, Nat.le_refl _, hRl, hRf, V2, hV2, hP, Pw.nil, by rw [List.append_nil]; exact H⟩, ?_⟩
  clear H hrd hP hV2 V2 hpl0
  rintro ⟨p, r, cs, gs, qs⟩ w ⟨hrd, hpl0, hpa, hRp, hcnt, V2, hV2, hP, hG, H⟩
  dsimp only at hrd hpl0 hpa hRp hcnt hP hG H ⊢
  (first | (refine H.wg ?_; clear H; intros; rename_i w H; constructor) | refine wk ?_)
  refine (cellAt_ref H.data (hs.up hV2) (by omega) hpl0 (sepB_lt n).1 (sepB_lt n).2.1).use ?_
  rintro v w ⟨V3, c, f, g, p2, hV3, K, rfl, hres⟩
  (have hKb := K.base; replace H := Rel.call H K)
  simp only [List.cons_append, List.nil_append] at H
  have hV23 := hV2.trans hV3
  have hgl := hG.len
  rw [List.length_map] at hgl
  cases hrc : rdCell (sepB n) (l.drop p) with
  | none =>
    rw [hrc] at hres
    obtain rfl := hres
    rw [rdG_bad hrc] at hrd
    rw [hrd]
    (first | (refine H.wg ?_; clear H; intros; rename_i w H; constructor) | refine wk ?_)
    exact ⟨V3, rs, qs, op, false, hV23, H.sx, rfl, rfl⟩
  | some y =>
    obtain ⟨⟨x, f⟩, t⟩ := y
    rw [hrc] at hres
    obtain ⟨rfl, rfl, hcx, hp2, hdt⟩ := hres
    dsimp only at hcx hdt ⊢
    have hle := rdCell_len hrc
    rw [← hdt, List.length_drop, List.length_drop] at hle
    have hxl : x.length ≤ l.length := by
      have h := hrc
      rw [rdCell_p] at h
      cases hcc : cellP (sepB n) (l.drop p) with
      | none => rw [hcc] at h; cases h
      | some q =>
        obtain ⟨q1, q2⟩ := q
        rw [hcc] at h
        simp only at h
        split at h
        · cases h
        · cases h
          have := cellP_len hcc
          rw [List.length_drop] at this
          dsimp only at this
          omega
    have hsn := qn_snoc (s := sepB n) (c := (x, f)) (r := R.flatten ++ r) (k := 0)
    rw [List.append_assoc, Nat.zero_add, List.length_append] at hsn
    dsimp only at hsn
    have hql := qn_len (s := sepB n) (r := R.flatten ++ r) (k := 0)
    rw [List.length_append] at hql
    have hnl : (nz (qn (sepB n) 0 (R.flatten ++ r))).length = (qn (sepB n) 0 (R.flatten ++ r)).length := List.length_map _
    have hG2 : Pw BytR V3 (gs ++ [c]) ((r ++ [(x, f)]).map Prod.fst) := by rw [List.map_append]; exact (hG.up (fun _ _ _ _ k h => h.up k) hV3).snoc hcx
    have hP2 := hP.up bysR_up hV3
    have hhl := hP.len
    rw [List.length_map] at hhl
    cases f with
    | false =>
      rw [Bool.false_and, if_neg (by decide), List.append_nil] at hsn
      rw [← hsn] at H
      (first | (refine H.wh ?_; clear H; intros; rename_i w H; constructor) | refine wk ?_)
      ((first | refine Rel.nwD H ?_ | refine Rel.nw H ?_); clear H; intro w b48 H)
      (first | (refine H.wg ?_; clear H; intros; rename_i w H; constructor) | refine wk ?_)
      refine Rel.app1_0 (f := slC) (s := cs) (l := gs) (x := c) tabOk rfl rfl rfl rfl rfl (by decide) (fun _ => rfl) (by simp [Value.oneCell']) H (by show (gs.length + 1) * 24 ≤ _; omega) (by omega) ?_
      clear H
      intro cs2 w H
      have hG3 : Pw BytR V3 (gs ++ [c]) ((r ++ [(x, false)]).map Prod.fst) := hG2
      by_cases hpl : p2 < l.length
      rotate_left
      · have ht0 : t = [] := by rw [← hdt]; exact List.drop_of_length_le (by omega)
        rw [ht0] at hrc
        rw [rdG_end hrc] at hrd
        rw [hrd]
        obtain ⟨V4, hV4, H, hcs⟩ := Rel.freezeF H (fun _ => rfl) (by decide)
        try (have c2 := hV4.cell c0)
        (first | (refine H.wh ?_; clear H; intros; rename_i w H; constructor) | refine wk ?_)
        ((first | refine Rel.nwD H ?_ | refine Rel.nw H ?_); clear H; intro w b70 H)
        (first | (refine H.wg ?_; clear H; intros; rename_i w H; constructor) | refine wk ?_)
        refine Rel.app1_0 (f := slC) (s := rs) (l := hh) (x := cs2) tabOk rfl rfl rfl rfl rfl (by decide) (fun _ => rfl) (by simp [Value.oneCell']) H (by show (hh.length + 1) * 24 ≤ _; omega) (by omega) ?_
        clear H
        intro rs2 w H
        (first | (refine H.wg ?_; clear H; intros; rename_i w H; constructor) | refine wk ?_)
        obtain ⟨V5, hV5, H, hrs⟩ := Rel.freezeF H (fun _ => rfl) (by decide)
        obtain ⟨V6, hV6, H, hqs⟩ := Rel.freezeF H (fun _ => rfl) (by decide)
        refine ⟨V6, rs2, qs, decide ((p2 : Int) = s.len), true, ((hV23.trans hV4).trans hV5).trans hV6, H.sx, rfl, rfl, fun _ => decide_eq_true (by omega), ⟨hh ++ [cs2], hrs.up hV6, ?_⟩, ?_⟩
        · rw [tblOf_snoc]
          exact (hP2.up bysR_up ((hV4.trans hV5).trans hV6)).snoc ⟨gs ++ [c], hcs.up (hV5.trans hV6), hG3.up (fun _ _ _ _ k h => h.up k) ((hV4.trans hV5).trans hV6)⟩
        · rw [flat_snoc]
          exact hqs
      obtain ⟨p0, c0⟩ := (hs.up hV23).at1 (g := bv) (fun _ => rfl) hpl
      obtain ⟨d, hd⟩ : ∃ d, d = l[p2] := ⟨_, rfl⟩
      rw [← hd] at c0
      have hdp := dropE hpl
      rw [← hd, hdt] at hdp
      have ht0 : t ≠ [] := by rw [hdp]; simp
      by_cases hds : d = sepB n
      · subst hds
        rw [hdp] at hrc
        rw [rdG_sep (tEnd_ne k) hrc (fun h => by have := congrArg List.head? h; cases k <;> simp [tEnd] at this <;> first | exact (sepB_lt n).2.2.1 this | exact (sepB_lt n).2.2.2 this)] at hrd
        (first | (refine H.wg ?_; clear H; intros; rename_i w H; constructor) | refine wk ?_)
        refine ⟨(by repeat (first | exact trivial | refine ⟨rfl, ?_⟩)), (p2 + 1, r ++ [(x, false)], cs2, gs ++ [c], qs), ⟨?_, rfl, rfl, trivial⟩, ⟨hrd, ?_, ?_, ?_, ?_, V3, hV23, hP2, hG3, H⟩, ?_⟩
        · show some (Value.int .i64 _) = some (.int .i64 _)
          congr 2
          simp only [List.length_append, List.length_cons, List.length_nil]
          omega
        · dsimp only
          omega
        · dsimp only
          omega
        · dsimp only
          omega
        · simp only [List.length_append, List.length_cons, List.length_nil]
          omega
        · dsimp only
          omega
      have hdn : d.toNat ≠ (sepB n).toNat := fun h => hds (UInt8.toNat_inj.1 h)
      obtain ⟨V4, hV4, H, hcs⟩ := Rel.freezeF H (fun _ => rfl) (by decide)
      try (have c2 := hV4.cell c0)
      (first | (refine H.wh ?_; clear H; intros; rename_i w H; constructor) | refine wk ?_)
      ((first | refine Rel.nwD H ?_ | refine Rel.nw H ?_); clear H; intro w b70 H)
      (first | (refine H.wg ?_; clear H; intros; rename_i w H; constructor) | refine wk ?_)
      refine Rel.app1_0 (f := slC) (s := rs) (l := hh) (x := cs2) tabOk rfl rfl rfl rfl rfl (by decide) (fun _ => rfl) (by simp [Value.oneCell']) H (by show (hh.length + 1) * 24 ≤ _; omega) (by omega) ?_
      clear H
      intro rs2 w H
      cases k with
      | false =>
        by_cases h10 : d.toNat = 10
        · obtain rfl : d = 10 := UInt8.toNat_inj.1 (by rw [h10]; rfl)
          change V4.cell? _ = some (bv 10) at c2
          rw [rdG_line (tEnd_ne _) hrc (by rw [hdp]; rfl)] at hrd
          (first | (refine H.wg ?_; clear H; intros; rename_i w H; constructor) | refine wk ?_)
          refine ⟨(by repeat (first | exact trivial | refine ⟨rfl, ?_⟩)), (p2 + 1, R ++ [r ++ [(x, false)]], rs2, hh ++ [cs2], qs, decide ((p2 : Int) = s.len)), ⟨?_, rfl, trivial⟩, ⟨?_, fun _ => decide_eq_false (by omega), ?_, ?_, ?_, V4, hV23.trans hV4, ?_, ?_⟩, ?_⟩
          · show some (Value.int .i64 _) = some (.int .i64 _)
            congr 2
            simp only [flat_snoc, List.length_append, List.length_cons, List.length_nil]
            omega
          · rw [hrd, ← hdt, List.drop_drop]
            rfl
          · dsimp only
            omega
          · simp only [List.length_append, List.length_cons, List.length_nil]
            omega
          · simp only [flat_snoc, List.length_append, List.length_cons, List.length_nil]
            omega
          · rw [tblOf_snoc]
            exact (hP2.up bysR_up hV4).snoc ⟨gs ++ [c], hcs, hG3.up (fun _ _ _ _ k h => h.up k) hV4⟩
          · dsimp only
            rw [flat_snoc]
            exact H
          · dsimp only
            omega
        · rw [rdG_stop hrc ht0 (by rw [hdp]; intro h; exact h10 (congrArg UInt8.toNat (Option.some.inj (congrArg List.head? h)))) (by rw [hdp, List.head?_cons]; intro h; exact hds (Option.some.inj h))] at hrd
          rw [hrd]
          (first | (refine H.wg ?_; clear H; intros; rename_i w H; constructor) | refine wk ?_)
          exact ⟨V4, rs2, qs, decide ((p2 : Int) = s.len), false, hV23.trans hV4, H.sx, rfl, rfl⟩
      | true =>
        by_cases h13 : d.toNat = 13
        rotate_left
        · rw [rdG_stop hrc ht0 (by rw [hdp]; intro h; exact h13 (congrArg UInt8.toNat (Option.some.inj (congrArg List.head? h)))) (by rw [hdp, List.head?_cons]; intro h; exact hds (Option.some.inj h))] at hrd
          rw [hrd]
          (first | (refine H.wg ?_; clear H; intros; rename_i w H; constructor) | refine wk ?_)
          exact ⟨V4, rs2, qs, decide ((p2 : Int) = s.len), false, hV23.trans hV4, H.sx, rfl, rfl⟩
        obtain rfl : d = 13 := UInt8.toNat_inj.1 (by rw [h13]; rfl)
        change V4.cell? _ = some (bv 13) at c2
        by_cases hp3 : p2 + 1 < l.length
        rotate_left
        · rw [rdG_stop hrc ht0 (by rw [hdp, List.drop_of_length_le (by omega)]; decide) (by rw [hdp, List.head?_cons]; intro h; exact hds (Option.some.inj h))] at hrd
          rw [hrd]
          (first | (refine H.wg ?_; clear H; intros; rename_i w H; constructor) | refine wk ?_)
          exact ⟨V4, rs2, qs, decide ((p2 : Int) = s.len), false, hV23.trans hV4, H.sx, rfl, rfl⟩
        obtain ⟨_, c3⟩ := (hs.up (hV23.trans hV4)).at1 (g := bv) (fun _ => rfl) hp3
        obtain ⟨d2, hd2⟩ : ∃ d, d = l[p2 + 1] := ⟨_, rfl⟩
        rw [← hd2] at c3
        have hdp3 := dropE hp3
        rw [← hd2] at hdp3
        by_cases h10 : d2.toNat = 10
        · obtain rfl : d2 = 10 := UInt8.toNat_inj.1 (by rw [h10]; rfl)
          change V4.cell? _ = some (bv 10) at c3
          rw [rdG_line (tEnd_ne _) hrc (by rw [hdp, hdp3]; rfl)] at hrd
          (first | (refine H.wg ?_; clear H; intros; rename_i w H; constructor) | refine wk ?_)
          refine ⟨(by repeat (first | exact trivial | refine ⟨rfl, ?_⟩)), (p2 + 2, R ++ [r ++ [(x, false)]], rs2, hh ++ [cs2], qs, decide ((p2 : Int) = s.len)), ⟨?_, rfl, trivial⟩, ⟨?_, fun _ => decide_eq_false (by omega), ?_, ?_, ?_, V4, hV23.trans hV4, ?_, ?_⟩, ?_⟩
          · show some (Value.int .i64 _) = some (.int .i64 _)
            congr 2
            simp only [flat_snoc, List.length_append, List.length_cons, List.length_nil]
            omega
          · rw [hrd, ← hdt, List.drop_drop]
            rfl
          · dsimp only
            omega
          · simp only [List.length_append, List.length_cons, List.length_nil]
            omega
          · simp only [flat_snoc, List.length_append, List.length_cons, List.length_nil]
            omega
          · rw [tblOf_snoc]
            exact (hP2.up bysR_up hV4).snoc ⟨gs ++ [c], hcs, hG3.up (fun _ _ _ _ k h => h.up k) hV4⟩
          · dsimp only
            rw [flat_snoc]
            exact H
          · dsimp only
            omega
        · rw [rdG_stop hrc ht0 (by rw [hdp, hdp3]; intro h; exact h10 (congrArg UInt8.toNat (Option.some.inj (congrArg (fun l => l[1]?) h)))) (by rw [hdp, List.head?_cons]; intro h; exact hds (Option.some.inj h))] at hrd
          rw [hrd]
          (first | (refine H.wg ?_; clear H; intros; rename_i w H; constructor) | refine wk ?_)
          exact ⟨V4, rs2, qs, decide ((p2 : Int) = s.len), false, hV23.trans hV4, H.sx, rfl, rfl⟩
    | true =>
      (first | (refine H.wg ?_; clear H; intros; rename_i w H; constructor) | refine wk ?_)
      refine (needsQuotes_ref H.data hcx (by omega) (sepB n)).use ?_
      rintro v w ⟨rfl, K⟩
      (have hKb := K.base; replace H := Rel.call H K)
      simp only [List.nil_append] at H
      cases hN : tNeeds (sepB n) x with
      | true =>
        rw [hN, Bool.not_true, Bool.and_false, if_neg (by decide), List.append_nil] at hsn
        rw [← hsn] at H
        (first | (refine H.wh ?_; clear H; intros; rename_i w H; constructor) | refine wk ?_)
        ((first | refine Rel.nwD H ?_ | refine Rel.nw H ?_); clear H; intro w b48 H)
        (first | (refine H.wg ?_; clear H; intros; rename_i w H; constructor) | refine wk ?_)
        refine Rel.app1_0 (f := slC) (s := cs) (l := gs) (x := c) tabOk rfl rfl rfl rfl rfl (by decide) (fun _ => rfl) (by simp [Value.oneCell']) H (by show (gs.length + 1) * 24 ≤ _; omega) (by omega) ?_
        clear H
        intro cs2 w H
        have hG3 : Pw BytR V3 (gs ++ [c]) ((r ++ [(x, true)]).map Prod.fst) := hG2
        by_cases hpl : p2 < l.length
        rotate_left
        · have ht0 : t = [] := by rw [← hdt]; exact List.drop_of_length_le (by omega)
          rw [ht0] at hrc
          rw [rdG_end hrc] at hrd
          rw [hrd]
          obtain ⟨V4, hV4, H, hcs⟩ := Rel.freezeF H (fun _ => rfl) (by decide)
          try (have c2 := hV4.cell c0)
          (first | (refine H.wh ?_; clear H; intros; rename_i w H; constructor) | refine wk ?_)
          ((first | refine Rel.nwD H ?_ | refine Rel.nw H ?_); clear H; intro w b70 H)
          (first | (refine H.wg ?_; clear H; intros; rename_i w H; constructor) | refine wk ?_)
          refine Rel.app1_0 (f := slC) (s := rs) (l := hh) (x := cs2) tabOk rfl rfl rfl rfl rfl (by decide) (fun _ => rfl) (by simp [Value.oneCell']) H (by show (hh.length + 1) * 24 ≤ _; omega) (by omega) ?_
          clear H
          intro rs2 w H
          (first | (refine H.wg ?_; clear H; intros; rename_i w H; constructor) | refine wk ?_)
          obtain ⟨V5, hV5, H, hrs⟩ := Rel.freezeF H (fun _ => rfl) (by decide)
          obtain ⟨V6, hV6, H, hqs⟩ := Rel.freezeF H (fun _ => rfl) (by decide)
          refine ⟨V6, rs2, qs, decide ((p2 : Int) = s.len), true, ((hV23.trans hV4).trans hV5).trans hV6, H.sx, rfl, rfl, fun _ => decide_eq_true (by omega), ⟨hh ++ [cs2], hrs.up hV6, ?_⟩, ?_⟩
          · rw [tblOf_snoc]
            exact (hP2.up bysR_up ((hV4.trans hV5).trans hV6)).snoc ⟨gs ++ [c], hcs.up (hV5.trans hV6), hG3.up (fun _ _ _ _ k h => h.up k) ((hV4.trans hV5).trans hV6)⟩
          · rw [flat_snoc]
            exact hqs
        obtain ⟨p0, c0⟩ := (hs.up hV23).at1 (g := bv) (fun _ => rfl) hpl
        obtain ⟨d, hd⟩ : ∃ d, d = l[p2] := ⟨_, rfl⟩
        rw [← hd] at c0
        have hdp := dropE hpl
        rw [← hd, hdt] at hdp
        have ht0 : t ≠ [] := by rw [hdp]; simp
        by_cases hds : d = sepB n
        · subst hds
          rw [hdp] at hrc
          rw [rdG_sep (tEnd_ne k) hrc (fun h => by have := congrArg List.head? h; cases k <;> simp [tEnd] at this <;> first | exact (sepB_lt n).2.2.1 this | exact (sepB_lt n).2.2.2 this)] at hrd
          (first | (refine H.wg ?_; clear H; intros; rename_i w H; constructor) | refine wk ?_)
          refine ⟨(by repeat (first | exact trivial | refine ⟨rfl, ?_⟩)), (p2 + 1, r ++ [(x, true)], cs2, gs ++ [c], qs), ⟨?_, rfl, rfl, trivial⟩, ⟨hrd, ?_, ?_, ?_, ?_, V3, hV23, hP2, hG3, H⟩, ?_⟩
          · show some (Value.int .i64 _) = some (.int .i64 _)
            congr 2
            simp only [List.length_append, List.length_cons, List.length_nil]
            omega
          · dsimp only
            omega
          · dsimp only
            omega
          · dsimp only
            omega
          · simp only [List.length_append, List.length_cons, List.length_nil]
            omega
          · dsimp only
            omega
        have hdn : d.toNat ≠ (sepB n).toNat := fun h => hds (UInt8.toNat_inj.1 h)
        obtain ⟨V4, hV4, H, hcs⟩ := Rel.freezeF H (fun _ => rfl) (by decide)
        try (have c2 := hV4.cell c0)
        (first | (refine H.wh ?_; clear H; intros; rename_i w H; constructor) | refine wk ?_)
        ((first | refine Rel.nwD H ?_ | refine Rel.nw H ?_); clear H; intro w b70 H)
        (first | (refine H.wg ?_; clear H; intros; rename_i w H; constructor) | refine wk ?_)
        refine Rel.app1_0 (f := slC) (s := rs) (l := hh) (x := cs2) tabOk rfl rfl rfl rfl rfl (by decide) (fun _ => rfl) (by simp [Value.oneCell']) H (by show (hh.length + 1) * 24 ≤ _; omega) (by omega) ?_
        clear H
        intro rs2 w H
        cases k with
        | false =>
          by_cases h10 : d.toNat = 10
          · obtain rfl : d = 10 := UInt8.toNat_inj.1 (by rw [h10]; rfl)
            change V4.cell? _ = some (bv 10) at c2
            rw [rdG_line (tEnd_ne _) hrc (by rw [hdp]; rfl)] at hrd
            (first | (refine H.wg ?_; clear H; intros; rename_i w H; constructor) | refine wk ?_)
            refine ⟨(by repeat (first | exact trivial | refine ⟨rfl, ?_⟩)), (p2 + 1, R ++ [r ++ [(x, true)]], rs2, hh ++ [cs2], qs, decide ((p2 : Int) = s.len)), ⟨?_, rfl, trivial⟩, ⟨?_, fun _ => decide_eq_false (by omega), ?_, ?_, ?_, V4, hV23.trans hV4, ?_, ?_⟩, ?_⟩
            · show some (Value.int .i64 _) = some (.int .i64 _)
              congr 2
              simp only [flat_snoc, List.length_append, List.length_cons, List.length_nil]
              omega
            · rw [hrd, ← hdt, List.drop_drop]
              rfl
            · dsimp only
              omega
            · simp only [List.length_append, List.length_cons, List.length_nil]
              omega
            · simp only [flat_snoc, List.length_append, List.length_cons, List.length_nil]
              omega
            · rw [tblOf_snoc]
              exact (hP2.up bysR_up hV4).snoc ⟨gs ++ [c], hcs, hG3.up (fun _ _ _ _ k h => h.up k) hV4⟩
            · dsimp only
              rw [flat_snoc]
              exact H
            · dsimp only
              omega
          · rw [rdG_stop hrc ht0 (by rw [hdp]; intro h; exact h10 (congrArg UInt8.toNat (Option.some.inj (congrArg List.head? h)))) (by rw [hdp, List.head?_cons]; intro h; exact hds (Option.some.inj h))] at hrd
            rw [hrd]
            (first | (refine H.wg ?_; clear H; intros; rename_i w H; constructor) | refine wk ?_)
            exact ⟨V4, rs2, qs, decide ((p2 : Int) = s.len), false, hV23.trans hV4, H.sx, rfl, rfl⟩
        | true =>
          by_cases h13 : d.toNat = 13
          rotate_left
          · rw [rdG_stop hrc ht0 (by rw [hdp]; intro h; exact h13 (congrArg UInt8.toNat (Option.some.inj (congrArg List.head? h)))) (by rw [hdp, List.head?_cons]; intro h; exact hds (Option.some.inj h))] at hrd
            rw [hrd]
            (first | (refine H.wg ?_; clear H; intros; rename_i w H; constructor) | refine wk ?_)
            exact ⟨V4, rs2, qs, decide ((p2 : Int) = s.len), false, hV23.trans hV4, H.sx, rfl, rfl⟩
          obtain rfl : d = 13 := UInt8.toNat_inj.1 (by rw [h13]; rfl)
          change V4.cell? _ = some (bv 13) at c2
          by_cases hp3 : p2 + 1 < l.length
          rotate_left
          · rw [rdG_stop hrc ht0 (by rw [hdp, List.drop_of_length_le (by omega)]; decide) (by rw [hdp, List.head?_cons]; intro h; exact hds (Option.some.inj h))] at hrd
            rw [hrd]
            (first | (refine H.wg ?_; clear H; intros; rename_i w H; constructor) | refine wk ?_)
            exact ⟨V4, rs2, qs, decide ((p2 : Int) = s.len), false, hV23.trans hV4, H.sx, rfl, rfl⟩
          obtain ⟨_, c3⟩ := (hs.up (hV23.trans hV4)).at1 (g := bv) (fun _ => rfl) hp3
          obtain ⟨d2, hd2⟩ : ∃ d, d = l[p2 + 1] := ⟨_, rfl⟩
          rw [← hd2] at c3
          have hdp3 := dropE hp3
          rw [← hd2] at hdp3
          by_cases h10 : d2.toNat = 10
          · obtain rfl : d2 = 10 := UInt8.toNat_inj.1 (by rw [h10]; rfl)
            change V4.cell? _ = some (bv 10) at c3
            rw [rdG_line (tEnd_ne _) hrc (by rw [hdp, hdp3]; rfl)] at hrd
            (first | (refine H.wg ?_; clear H; intros; rename_i w H; constructor) | refine wk ?_)
            refine ⟨(by repeat (first | exact trivial | refine ⟨rfl, ?_⟩)), (p2 + 2, R ++ [r ++ [(x, true)]], rs2, hh ++ [cs2], qs, decide ((p2 : Int) = s.len)), ⟨?_, rfl, trivial⟩, ⟨?_, fun _ => decide_eq_false (by omega), ?_, ?_, ?_, V4, hV23.trans hV4, ?_, ?_⟩, ?_⟩
            · show some (Value.int .i64 _) = some (.int .i64 _)
              congr 2
              simp only [flat_snoc, List.length_append, List.length_cons, List.length_nil]
              omega
            · rw [hrd, ← hdt, List.drop_drop]
              rfl
            · dsimp only
              omega
            · simp only [List.length_append, List.length_cons, List.length_nil]
              omega
            · simp only [flat_snoc, List.length_append, List.length_cons, List.length_nil]
              omega
            · rw [tblOf_snoc]
              exact (hP2.up bysR_up hV4).snoc ⟨gs ++ [c], hcs, hG3.up (fun _ _ _ _ k h => h.up k) hV4⟩
            · dsimp only
              rw [flat_snoc]
              exact H
            · dsimp only
              omega
          · rw [rdG_stop hrc ht0 (by rw [hdp, hdp3]; intro h; exact h10 (congrArg UInt8.toNat (Option.some.inj (congrArg (fun l => l[1]?) h)))) (by rw [hdp, List.head?_cons]; intro h; exact hds (Option.some.inj h))] at hrd
            rw [hrd]
            (first | (refine H.wg ?_; clear H; intros; rename_i w H; constructor) | refine wk ?_)
            exact ⟨V4, rs2, qs, decide ((p2 : Int) = s.len), false, hV23.trans hV4, H.sx, rfl, rfl⟩
      | false =>
        rw [hN, Bool.not_false, Bool.and_true, if_pos rfl] at hsn
        (first | (refine H.wh ?_; clear H; intros; rename_i w H; constructor) | refine wk ?_)
        ((first | refine Rel.nwD H ?_ | refine Rel.nw H ?_); clear H; intro w b46 H)
        (first | (refine H.wg ?_; clear H; intros; rename_i w H; constructor) | refine wk ?_)
        refine Rel.app1_2 (f := itC) (s := qs) (l := nz (qn (sepB n) 0 (R.flatten ++ r))) (x := ((R.flatten.length + r.length : Nat) : Int)) tabOk rfl rfl rfl rfl rfl (by decide) (fun _ => rfl) (by simp [Value.oneCell']) H (by rw [hnl]; show (_ + 1) * 8 ≤ _; omega) (by rw [hnl]; omega) ?_
        clear H
        intro qs2 w H
        rw [show nz (qn (sepB n) 0 (R.flatten ++ r)) ++ [((R.flatten.length + r.length : Nat) : Int)] = nz (qn (sepB n) 0 (R.flatten ++ (r ++ [(x, true)]))) by rw [hsn]; simp] at H
        (first | (refine H.wh ?_; clear H; intros; rename_i w H; constructor) | refine wk ?_)
        ((first | refine Rel.nwD H ?_ | refine Rel.nw H ?_); clear H; intro w b48 H)
        (first | (refine H.wg ?_; clear H; intros; rename_i w H; constructor) | refine wk ?_)
        refine Rel.app1_0 (f := slC) (s := cs) (l := gs) (x := c) tabOk rfl rfl rfl rfl rfl (by decide) (fun _ => rfl) (by simp [Value.oneCell']) H (by show (gs.length + 1) * 24 ≤ _; omega) (by omega) ?_
        clear H
        intro cs2 w H
        have hG3 : Pw BytR V3 (gs ++ [c]) ((r ++ [(x, true)]).map Prod.fst) := hG2
        by_cases hpl : p2 < l.length
        rotate_left
        · have ht0 : t = [] := by rw [← hdt]; exact List.drop_of_length_le (by omega)
          rw [ht0] at hrc
          rw [rdG_end hrc] at hrd
          rw [hrd]
          obtain ⟨V4, hV4, H, hcs⟩ := Rel.freezeF H (fun _ => rfl) (by decide)
          try (have c2 := hV4.cell c0)
          (first | (refine H.wh ?_; clear H; intros; rename_i w H; constructor) | refine wk ?_)
          ((first | refine Rel.nwD H ?_ | refine Rel.nw H ?_); clear H; intro w b70 H)
          (first | (refine H.wg ?_; clear H; intros; rename_i w H; constructor) | refine wk ?_)
          refine Rel.app1_0 (f := slC) (s := rs) (l := hh) (x := cs2) tabOk rfl rfl rfl rfl rfl (by decide) (fun _ => rfl) (by simp [Value.oneCell']) H (by show (hh.length + 1) * 24 ≤ _; omega) (by omega) ?_
          clear H
          intro rs2 w H
          (first | (refine H.wg ?_; clear H; intros; rename_i w H; constructor) | refine wk ?_)
          obtain ⟨V5, hV5, H, hrs⟩ := Rel.freezeF H (fun _ => rfl) (by decide)
          obtain ⟨V6, hV6, H, hqs⟩ := Rel.freezeF H (fun _ => rfl) (by decide)
          refine ⟨V6, rs2, qs2, decide ((p2 : Int) = s.len), true, ((hV23.trans hV4).trans hV5).trans hV6, H.sx, rfl, rfl, fun _ => decide_eq_true (by omega), ⟨hh ++ [cs2], hrs.up hV6, ?_⟩, ?_⟩
          · rw [tblOf_snoc]
            exact (hP2.up bysR_up ((hV4.trans hV5).trans hV6)).snoc ⟨gs ++ [c], hcs.up (hV5.trans hV6), hG3.up (fun _ _ _ _ k h => h.up k) ((hV4.trans hV5).trans hV6)⟩
          · rw [flat_snoc]
            exact hqs
        obtain ⟨p0, c0⟩ := (hs.up hV23).at1 (g := bv) (fun _ => rfl) hpl
        obtain ⟨d, hd⟩ : ∃ d, d = l[p2] := ⟨_, rfl⟩
        rw [← hd] at c0
        have hdp := dropE hpl
        rw [← hd, hdt] at hdp
        have ht0 : t ≠ [] := by rw [hdp]; simp
        by_cases hds : d = sepB n
        · subst hds
          rw [hdp] at hrc
          rw [rdG_sep (tEnd_ne k) hrc (fun h => by have := congrArg List.head? h; cases k <;> simp [tEnd] at this <;> first | exact (sepB_lt n).2.2.1 this | exact (sepB_lt n).2.2.2 this)] at hrd
          (first | (refine H.wg ?_; clear H; intros; rename_i w H; constructor) | refine wk ?_)
          refine ⟨(by repeat (first | exact trivial | refine ⟨rfl, ?_⟩)), (p2 + 1, r ++ [(x, true)], cs2, gs ++ [c], qs2), ⟨?_, rfl, rfl, trivial⟩, ⟨hrd, ?_, ?_, ?_, ?_, V3, hV23, hP2, hG3, H⟩, ?_⟩
          · show some (Value.int .i64 _) = some (.int .i64 _)
            congr 2
            simp only [List.length_append, List.length_cons, List.length_nil]
            omega
          · dsimp only
            omega
          · dsimp only
            omega
          · dsimp only
            omega
          · simp only [List.length_append, List.length_cons, List.length_nil]
            omega
          · dsimp only
            omega
        have hdn : d.toNat ≠ (sepB n).toNat := fun h => hds (UInt8.toNat_inj.1 h)
        obtain ⟨V4, hV4, H, hcs⟩ := Rel.freezeF H (fun _ => rfl) (by decide)
        try (have c2 := hV4.cell c0)
        (first | (refine H.wh ?_; clear H; intros; rename_i w H; constructor) | refine wk ?_)
        ((first | refine Rel.nwD H ?_ | refine Rel.nw H ?_); clear H; intro w b70 H)
        (first | (refine H.wg ?_; clear H; intros; rename_i w H; constructor) | refine wk ?_)
        refine Rel.app1_0 (f := slC) (s := rs) (l := hh) (x := cs2) tabOk rfl rfl rfl rfl rfl (by decide) (fun _ => rfl) (by simp [Value.oneCell']) H (by show (hh.length + 1) * 24 ≤ _; omega) (by omega) ?_
        clear H
        intro rs2 w H
        cases k with
        | false =>
          by_cases h10 : d.toNat = 10
          · obtain rfl : d = 10 := UInt8.toNat_inj.1 (by rw [h10]; rfl)
            change V4.cell? _ = some (bv 10) at c2
            rw [rdG_line (tEnd_ne _) hrc (by rw [hdp]; rfl)] at hrd
            (first | (refine H.wg ?_; clear H; intros; rename_i w H; constructor) | refine wk ?_)
            refine ⟨(by repeat (first | exact trivial | refine ⟨rfl, ?_⟩)), (p2 + 1, R ++ [r ++ [(x, true)]], rs2, hh ++ [cs2], qs2, decide ((p2 : Int) = s.len)), ⟨?_, rfl, trivial⟩, ⟨?_, fun _ => decide_eq_false (by omega), ?_, ?_, ?_, V4, hV23.trans hV4, ?_, ?_⟩, ?_⟩
            · show some (Value.int .i64 _) = some (.int .i64 _)
              congr 2
              simp only [flat_snoc, List.length_append, List.length_cons, List.length_nil]
              omega
            · rw [hrd, ← hdt, List.drop_drop]
              rfl
            · dsimp only
              omega
            · simp only [List.length_append, List.length_cons, List.length_nil]
              omega
            · simp only [flat_snoc, List.length_append, List.length_cons, List.length_nil]
              omega
            · rw [tblOf_snoc]
              exact (hP2.up bysR_up hV4).snoc ⟨gs ++ [c], hcs, hG3.up (fun _ _ _ _ k h => h.up k) hV4⟩
            · dsimp only
              rw [flat_snoc]
              exact H
            · dsimp only
              omega
          · rw [rdG_stop hrc ht0 (by rw [hdp]; intro h; exact h10 (congrArg UInt8.toNat (Option.some.inj (congrArg List.head? h)))) (by rw [hdp, List.head?_cons]; intro h; exact hds (Option.some.inj h))] at hrd
            rw [hrd]
            (first | (refine H.wg ?_; clear H; intros; rename_i w H; constructor) | refine wk ?_)
            exact ⟨V4, rs2, qs2, decide ((p2 : Int) = s.len), false, hV23.trans hV4, H.sx, rfl, rfl⟩
        | true =>
          by_cases h13 : d.toNat = 13
          rotate_left
          · rw [rdG_stop hrc ht0 (by rw [hdp]; intro h; exact h13 (congrArg UInt8.toNat (Option.some.inj (congrArg List.head? h)))) (by rw [hdp, List.head?_cons]; intro h; exact hds (Option.some.inj h))] at hrd
            rw [hrd]
            (first | (refine H.wg ?_; clear H; intros; rename_i w H; constructor) | refine wk ?_)
            exact ⟨V4, rs2, qs2, decide ((p2 : Int) = s.len), false, hV23.trans hV4, H.sx, rfl, rfl⟩
          obtain rfl : d = 13 := UInt8.toNat_inj.1 (by rw [h13]; rfl)
          change V4.cell? _ = some (bv 13) at c2
          by_cases hp3 : p2 + 1 < l.length
          rotate_left
          · rw [rdG_stop hrc ht0 (by rw [hdp, List.drop_of_length_le (by omega)]; decide) (by rw [hdp, List.head?_cons]; intro h; exact hds (Option.some.inj h))] at hrd
            rw [hrd]
            (first | (refine H.wg ?_; clear H; intros; rename_i w H; constructor) | refine wk ?_)
            exact ⟨V4, rs2, qs2, decide ((p2 : Int) = s.len), false, hV23.trans hV4, H.sx, rfl, rfl⟩
          obtain ⟨_, c3⟩ := (hs.up (hV23.trans hV4)).at1 (g := bv) (fun _ => rfl) hp3
          obtain ⟨d2, hd2⟩ : ∃ d, d = l[p2 + 1] := ⟨_, rfl⟩
          rw [← hd2] at c3
          have hdp3 := dropE hp3
          rw [← hd2] at hdp3
          by_cases h10 : d2.toNat = 10
          · obtain rfl : d2 = 10 := UInt8.toNat_inj.1 (by rw [h10]; rfl)
            change V4.cell? _ = some (bv 10) at c3
            rw [rdG_line (tEnd_ne _) hrc (by rw [hdp, hdp3]; rfl)] at hrd
            (first | (refine H.wg ?_; clear H; intros; rename_i w H; constructor) | refine wk ?_)
            refine ⟨(by repeat (first | exact trivial | refine ⟨rfl, ?_⟩)), (p2 + 2, R ++ [r ++ [(x, true)]], rs2, hh ++ [cs2], qs2, decide ((p2 : Int) = s.len)), ⟨?_, rfl, trivial⟩, ⟨?_, fun _ => decide_eq_false (by omega), ?_, ?_, ?_, V4, hV23.trans hV4, ?_, ?_⟩, ?_⟩
            · show some (Value.int .i64 _) = some (.int .i64 _)
              congr 2
              simp only [flat_snoc, List.length_append, List.length_cons, List.length_nil]
              omega
            · rw [hrd, ← hdt, List.drop_drop]
              rfl
            · dsimp only
              omega
            · simp only [List.length_append, List.length_cons, List.length_nil]
              omega
            · simp only [flat_snoc, List.length_append, List.length_cons, List.length_nil]
              omega
            · rw [tblOf_snoc]
              exact (hP2.up bysR_up hV4).snoc ⟨gs ++ [c], hcs, hG3.up (fun _ _ _ _ k h => h.up k) hV4⟩
            · dsimp only
              rw [flat_snoc]
              exact H
            · dsimp only
              omega
          · rw [rdG_stop hrc ht0 (by rw [hdp, hdp3]; intro h; exact h10 (congrArg UInt8.toNat (Option.some.inj (congrArg (fun l => l[1]?) h)))) (by rw [hdp, List.head?_cons]; intro h; exact hds (Option.some.inj h))] at hrd
            rw [hrd]
            (first | (refine H.wg ?_; clear H; intros; rename_i w H; constructor) | refine wk ?_)
            exact ⟨V4, rs2, qs2, decide ((p2 : Int) = s.len), false, hV23.trans hV4, H.sx, rfl, rfl⟩
end
end Go.Proofs.YtkfcdjomkcmkeaaGreatDoor
