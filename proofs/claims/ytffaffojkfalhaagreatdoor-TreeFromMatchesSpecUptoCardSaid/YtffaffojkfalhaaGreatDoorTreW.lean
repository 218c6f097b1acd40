/-
  Files of trees, the reference: isBlank, treeGaps, TreeGood, TreeLosses.
-/
import Derived.Test.YtffaffojkfalhaaGreatDoorTreE
import Derived.Test.YtffaffojkfalhaaGreatDoorGetA
namespace Go.Proofs.YtffaffojkfalhaaGreatDoor
open Go Go.RowKit

theorem many_pre {α : Type} {one : Nat → Got α} : ∀ {m k p q q' : Nat} {l l' : List α}, manyAt one k p = .ok l q → manyAt one (k + m) p = .ok l' q' → ∃ x, l' = l ++ x
  | 0, k, p, q, q', l, l', h, h' => by
    rw [Nat.add_zero, h] at h'
    cases h'
    exact ⟨[], by simp⟩
  | m + 1, k, p, q, q', l, l', h, h' => by
    rw [← Nat.add_assoc, manyAt_snoc] at h'
    cases hm : manyAt one (k + m) p with
    | bad c i => rw [hm] at h'; cases h'
    | ok y r =>
      rw [hm] at h'
      obtain ⟨x, rfl⟩ := many_pre h hm
      simp only at h'
      cases ho : one r with
      | bad c i => rw [ho] at h'; cases h'
      | ok z r' =>
        rw [ho] at h'
        cases h'
        exact ⟨x ++ [z], by simp⟩
theorem okB_pre {a x : List (Int × List UInt8)} (h : okB (a ++ x)) : okB a := ⟨fun y hy => h.1 y (by simp [hy]), (List.pairwise_append.1 h.2).1⟩
/-- a pair that is wrong, wherever it stands -/
theorem raw_no {b : List UInt8} {N q0 k q : Nat} {xs : List (Int × List UInt8)} (hN : k ≤ N) (hli : listAt b (pairAt b) 1000 0 = manyAt (pairAt b) N q0) (hk : manyAt (pairAt b) k q0 = .ok xs q) (hx : ¬ okB xs) (hb : b ≠ []) : treRd b = none := by
  unfold treRd
  rw [if_neg hb]
  unfold treRaw
  rw [hli]
  cases hm : manyAt (pairAt b) N q0 with
  | bad c i => rfl
  | ok z r =>
    simp only
    by_cases hr : r = b.length
    · rw [if_pos hr]
      simp only
      obtain ⟨m, rfl⟩ : ∃ m, N = k + m := ⟨N - k, by omega⟩
      obtain ⟨y, rfl⟩ := many_pre hk hm
      rw [if_neg (fun h => hx (okB_pre h.2))]
    · rw [if_neg hr]
theorem raw_bad {b : List UInt8} {N q0 k q : Nat} {xs : List (Int × List UInt8)} {c i : Int} (hN : k < N) (hli : listAt b (pairAt b) 1000 0 = manyAt (pairAt b) N q0) (hk : manyAt (pairAt b) k q0 = .ok xs q) (ho : pairAt b q = .bad c i) (hb : b ≠ []) : treRd b = none := by
  have h := manyAt_badAt hk ho (N - (k + 1))
  rw [show k + 1 + (N - (k + 1)) = N by omega] at h
  unfold treRd
  rw [if_neg hb]
  unfold treRaw
  rw [hli, h]
/-- what treeGaps returns -/
structure GapR (W V : World) (o : Option (List Blk2)) (q : Value) (w' : World) : Prop where
  ex : ∃ (V' : World) (x y : Sl) (k : Bool), Sub V V' ∧ Rel W V [] V' w' ∧ q = .tuple #[x.v, y.v, .bool k] ∧ (match o with
    | none => k = false
    | some Z => k = true ∧ SlF itC V' x (Z.map fun z => ((z.1 : Nat) : Int)) ∧ SlF strC V' y (Z.map Prod.snd))
section
variable {V W : World}
theorem isBlank_ref (hV : Sub V W) (c : UInt8) : Ret Tryz.prog 52 [bv c].toArray W fun v w' => v = .bool (bkB c) ∧ Rel W V [] V w' := by
  have H := Rel.start hV
  refine cal_of_vc tabOk Tryz.func52 rfl (by kernel_rfl) 17 rfl (by simp) [0, 2] ?_
  by_cases h1 : c = 32
  · subst h1
    (first | (refine H.wg ?_; clear H; intros; rename_i w H; constructor) | refine wk ?_)
    first | exact H.sx | exact ⟨rfl, H.sx⟩
  by_cases h2 : c = 9
  · subst h2
    (first | (refine H.wg ?_; clear H; intros; rename_i w H; constructor) | refine wk ?_)
    first | exact H.sx | exact ⟨rfl, H.sx⟩
  by_cases h3 : c = 13
  · subst h3
    (first | (refine H.wg ?_; clear H; intros; rename_i w H; constructor) | refine wk ?_)
    first | exact H.sx | exact ⟨rfl, H.sx⟩
  by_cases h4 : c = 10
  · subst h4
    (first | (refine H.wg ?_; clear H; intros; rename_i w H; constructor) | refine wk ?_)
    first | exact H.sx | exact ⟨rfl, H.sx⟩
  have h1' : c.toNat ≠ 32 := fun e => h1 (UInt8.toNat_inj.1 e)
  have h2' : c.toNat ≠ 9 := fun e => h2 (UInt8.toNat_inj.1 e)
  have h3' : c.toNat ≠ 13 := fun e => h3 (UInt8.toNat_inj.1 e)
  have h4' : c.toNat ≠ 10 := fun e => h4 (UInt8.toNat_inj.1 e)
  (first | (refine H.wg ?_; clear H; intros; rename_i w H; constructor) | refine wk ?_)
  exact ⟨by simp [bkB, h1, h2, h3, h4]; omega, H.sx⟩
set_option maxRecDepth 100000 in
set_option maxHeartbeats 2000000 in
theorem gaps_ref (hV : Sub V W) {s : Sl} {b : List UInt8} (hs : Byt V s b) (hl : b.length ≤ 1099511620000) (h0 : b ≠ []) : Ret Tryz.prog 42 [s.v].toArray W (GapR W V (treRd b)) := by
  have H := Rel.start hV
  have hlen := hs.len
  have e : treRd b = match treRaw b with
    | none => none
    | some z => if z ≠ [] ∧ okB z then some (z.map fun x => (x.1.toNat, x.2)) else none := by unfold treRd; rw [if_neg h0]; rfl
  refine cal_of_vc tabOk Tryz.func42 rfl (by kernel_rfl) 103 rfl (by simp) [0, 2, 3, 4, 5, 6, 7, 8, 9, 10, 11, 12, 13, 14, 15, 16, 17, 31, 34, 46, 74, 78, 86] ?_
  (first | (refine H.wg ?_; clear H; intros; rename_i w H; constructor) | refine wk ?_)
  refine (get_ref (p := 0) H.data hs (by omega) (Nat.zero_le _)).use ?_
  rintro v w ⟨rfl, K⟩
  (have hKb := K.base; replace H := H.call0 K)
  cases hn : numAt b 0 with
  | bad c i =>
    have hc0 := numAt_ne hn
    have er : treRd b = none := by rw [e, treRaw, listAt, hn]
    (first | (refine H.wh ?_; clear H; intros; rename_i w H; constructor) | refine wk ?_)
    ((first | refine Rel.nwD H ?_ | refine Rel.nw H ?_); clear H; intro w b7 H)
    (first | (refine H.wg ?_; clear H; intros; rename_i w H; constructor) | refine wk ?_)
    exact ⟨V, ⟨none, 0, 0⟩, ⟨none, 0, 0⟩, false, Sub.refl _, H.sx, rfl, by rw [er]⟩
  | ok n q0 =>
    obtain ⟨g1, g2, g3, g4, g5⟩ := numAt_ok (Nat.zero_le _) hn
    (first | (refine H.wh ?_; clear H; intros; rename_i w H; constructor) | refine wk ?_)
    ((first | refine Rel.nwD H ?_ | refine Rel.nw H ?_); clear H; intro w b7 H)
    (first | (refine H.wg ?_; clear H; intros; rename_i w H; constructor) | refine wk ?_)
    refine (in_ref n 1 1000 w).use ?_
    rintro q w' ⟨rfl, rfl⟩
    by_cases hb : 1 ≤ n ∧ n ≤ 1000
    rotate_left
    · have er : treRd b = none := by
        rw [e, treRaw, listAt, hn]
        simp only
        by_cases h1 : n < 0 ∨ 1000 < n
        · rw [if_pos h1]
        · rw [if_neg h1]
          obtain rfl : n = 0 := by omega
          show (match (match (Got.ok [] q0 : Got (List (Int × List UInt8))) with
            | .bad _ _ => none
            | .ok z q => if q = b.length then some z else none) with
            | none => none
            | some z => if z ≠ [] ∧ okB z then some (z.map fun x => (x.1.toNat, x.2)) else none) = none
          simp only
          split
          · rfl
          · rename_i h; split at h
            · cases h; simp
            · cases h
      rw [decide_eq_false hb]
      (first | (refine H.wg ?_; clear H; intros; rename_i w H; constructor) | refine wk ?_)
      exact ⟨V, ⟨none, 0, 0⟩, ⟨none, 0, 0⟩, false, Sub.refl _, H.sx, rfl, by rw [er]⟩
    rw [decide_eq_true hb]
    obtain ⟨N, rfl⟩ : ∃ N : Nat, n = N := ⟨n.toNat, by omega⟩
    have hli : listAt b (pairAt b) 1000 0 = manyAt (pairAt b) N q0 := by
      rw [listAt, hn]
      simp only
      rw [if_neg (by omega), Int.toNat_natCast]
    (first | (refine H.wg ?_; clear H; intros; rename_i w H; constructor) | refine wk ?_)
    replace H := (H.rowNil 9 1).rowNil 3 1
    refine loop_inv (S := Nat × Nat × Sl × Sl × List (Int × List UInt8)) tabOk [0, 5, 7, 31] (fun k => [(6, iv k.2.1), (8, k.2.2.1.v), (9, k.2.2.2.1.v), (10, iv k.1)]) (fun k w' => k.1 ≤ N ∧ k.2.1 ≤ b.length ∧ k.2.2.2.2.length = k.1 ∧ manyAt (pairAt b) k.1 q0 = .ok k.2.2.2.2 k.2.1 ∧ okB k.2.2.2.2 ∧ ∃ V', Sub V V' ∧ Rel W V [.row k.2.2.1 3 1 ((k.2.2.2.2.map Prod.fst).flatMap itC), .row k.2.2.2.1 9 1 ((k.2.2.2.2.map Prod.snd).flatMap strC)] V' w') (fun k _ => N - k.1) (0, q0, ⟨none, 0, 0⟩, ⟨none, 0, 0⟩, []) ?_
    (conv => whnf)
    refine ⟨(by repeat (first | exact trivial | refine ⟨rfl, ?_⟩)), ⟨by omega, g2, rfl, rfl, ⟨by simp, List.Pairwise.nil⟩, V, Sub.refl _, H.sx⟩, ?_⟩
    clear H
    rintro ⟨k, q, r1, r2, xs⟩ w ⟨hk, hq, hxl, hma, hok, V2, hV2, H⟩
    dsimp only at hk hq hxl hma hok H ⊢
    by_cases hlt : k < N
    rotate_left
    · obtain rfl : k = N := by omega
      obtain ⟨V3, hV3, H, hr1⟩ := Rel.freezeF H (fun _ => rfl) (by decide)
      obtain ⟨V4, hV4, H, hr2⟩ := Rel.freezeF H (fun _ => rfl) (by decide)
      have hV24 := (hV2.trans hV3).trans hV4
      have er : treRd b = if q = b.length then some (xs.map fun x => (x.1.toNat, x.2)) else none := by
        rw [e, treRaw, hli, hma]
        simp only
        by_cases hqb : q = b.length
        · rw [if_pos hqb, if_pos hqb]
          simp only
          rw [if_pos ⟨fun h => by rw [h] at hxl; simp at hxl; omega, hok⟩]
        · rw [if_neg hqb, if_neg hqb]
      rw [er]
      by_cases hqb : q = b.length
      · rw [if_pos hqb]
        (first | (refine H.wg ?_; clear H; intros; rename_i w H; constructor) | refine wk ?_)
        refine ⟨V4, r1, r2, _, hV24, H.sx, rfl, decide_eq_true (by omega), ?_, ?_⟩
        · have em : (xs.map fun x => (x.1.toNat, x.2)).map (fun z : Blk2 => ((z.1 : Nat) : Int)) = xs.map Prod.fst := by
            rw [List.map_map]
            refine List.map_congr_left fun x hx => ?_
            have := (hok.1 x hx).1.1
            show ((x.1.toNat : Nat) : Int) = x.1
            omega
          rw [em]
          exact hr1.up hV4
        · have em : (xs.map fun x => (x.1.toNat, x.2)).map (Prod.snd : Blk2 → _) = xs.map Prod.snd := by
            rw [List.map_map]
            rfl
          rw [em]
          exact hr2
      · rw [if_neg hqb]
        (first | (refine H.wg ?_; clear H; intros; rename_i w H; constructor) | refine wk ?_)
        exact ⟨V4, r1, r2, _, hV24, H.sx, rfl, decide_eq_false (by omega)⟩
    (first | (refine H.wg ?_; clear H; intros; rename_i w H; constructor) | refine wk ?_)
    refine (get_ref H.data (hs.up hV2) (by omega) hq).use ?_
    rintro v w ⟨rfl, K⟩
    (have hKb := K.base; replace H := Rel.call H K)
    simp only [List.nil_append] at H
    cases ho : numAt b q with
    | bad c i =>
      have hc0 := numAt_ne ho
      have er := raw_bad (c := c) (i := i) hlt hli hma (by rw [pairAt, ho]) h0
      (first | (refine H.wh ?_; clear H; intros; rename_i w H; constructor) | refine wk ?_)
      ((first | refine Rel.nwD H ?_ | refine Rel.nw H ?_); clear H; intro w b13 H)
      (first | (refine H.wg ?_; clear H; intros; rename_i w H; constructor) | refine wk ?_)
      exact ⟨V2, ⟨none, 0, 0⟩, ⟨none, 0, 0⟩, false, hV2, H.sx, rfl, by rw [er]⟩
    | ok x1 q1 =>
      obtain ⟨f1, f2, f3, f4, f5⟩ := numAt_ok hq ho
      (first | (refine H.wh ?_; clear H; intros; rename_i w H; constructor) | refine wk ?_)
      ((first | refine Rel.nwD H ?_ | refine Rel.nw H ?_); clear H; intro w b13 H)
      (first | (refine H.wg ?_; clear H; intros; rename_i w H; constructor) | refine wk ?_)
      refine (getChunk_ref (p := q1) H.data (hs.up hV2) (by omega) f2).use ?_
      rintro v w ⟨V3, x, ys, n2, c, i, hV3, K, rfl, hx, hres⟩
      (have hKb := K.base; replace H := Rel.call H K)
      simp only [List.nil_append] at H
      have hV23 := hV2.trans hV3
      have hxlen := hx.len
      cases hch : chunkAt b q1 with
      | bad c' i' =>
        rw [hch] at hres
        obtain ⟨rfl, rfl, hc0⟩ := hres
        have er := raw_bad (c := c) (i := i) hlt hli hma (by rw [pairAt, ho]; simp only; rw [hch]) h0
        (first | (refine H.wh ?_; clear H; intros; rename_i w H; constructor) | refine wk ?_)
        ((first | refine Rel.nwD H ?_ | refine Rel.nw H ?_); clear H; intro w b16 H)
        (first | (refine H.wg ?_; clear H; intros; rename_i w H; constructor) | refine wk ?_)
        exact ⟨V3, ⟨none, 0, 0⟩, ⟨none, 0, 0⟩, false, hV23, H.sx, rfl, by rw [er]⟩
      | ok d q2 =>
        rw [hch] at hres
        obtain ⟨rfl, rfl, rfl, rfl⟩ := hres
        have hpa : pairAt b q = .ok (x1, ys) q2 := by rw [pairAt, ho]; simp only; rw [hch]
        have hstep := manyAt_step hma hpa
        obtain ⟨p1, p2, p3, _⟩ := pairAt_ok hq hpa
        have hyb : ys.length ≤ b.length := by
          have h1 := congrArg List.length p3
          have h2 := putC_ge ys
          simp only [List.length_append, List.length_drop] at h1
          omega
        (first | (refine H.wh ?_; clear H; intros; rename_i w H; constructor) | refine wk ?_)
        ((first | refine Rel.nwD H ?_ | refine Rel.nw H ?_); clear H; intro w b16 H)
        (first | (refine H.wg ?_; clear H; intros; rename_i w H; constructor) | refine wk ?_)
        refine (in_ref x1 0 2000 _).use ?_
        rintro z w' ⟨rfl, rfl⟩
        have bad : ¬ okB (xs ++ [(x1, ys)]) → treRd b = none := fun h => raw_no (k := k + 1) (by omega) hli hstep h h0
        by_cases hr : 0 ≤ x1 ∧ x1 ≤ 2000
        rotate_left
        · have er := bad fun h => hr (h.1 (x1, ys) (by simp)).1
          rw [decide_eq_false hr]
          (first | (refine H.wg ?_; clear H; intros; rename_i w H; constructor) | refine wk ?_)
          exact ⟨V3, ⟨none, 0, 0⟩, ⟨none, 0, 0⟩, false, hV23, H.sx, rfl, by rw [er]⟩
        rw [decide_eq_true hr]
        have H0 : Rel W V [.row r1 3 1 ((xs.map Prod.fst).flatMap itC), .row r2 9 1 ((xs.map Prod.snd).flatMap strC)] V3 w := H.sx
        clear H
        have H := H0
        clear H0
        by_cases hk0 : k = 0
        · have hnext : (∀ c ∈ ys, bkB c = true) → okB (xs ++ [(x1, ys)]) := fun h => by
            have hxs : xs = [] := List.eq_nil_of_length_eq_zero (by omega)
            rw [hxs]
            exact ⟨fun y hy => by rw [List.mem_singleton.1 hy]; exact ⟨hr, h⟩, by simp⟩
          (first | (refine H.wg ?_; clear H; intros; rename_i w H; constructor) | refine wk ?_)
          refine SemC.cut 2 (fun _ : Unit => [(0, s.v), (5, iv (N : Int)), (7, .pointer (some ⟨b7, 0, none⟩)), (31, .bool false), (8, r1.v), (9, r2.v), (10, iv (k : Int)), (11, iv x1), (14, x.v), (15, iv (q2 : Int))]) (fun _ w' => (∀ c ∈ ys, bkB c = true) ∧ Rel W V [.row r1 3 1 ((xs.map Prod.fst).flatMap itC), .row r2 9 1 ((xs.map Prod.snd).flatMap strC)] V3 w') ?_ ?_
          · refine loop_inv (S := Nat) tabOk [0, 5, 6, 7, 8, 9, 10, 11, 12, 13, 14, 15, 16, 31, 34, 46, 74] (fun j => [(17, iv (j : Int))]) (fun j w' => j ≤ ys.length ∧ (∀ c ∈ ys.take j, bkB c = true) ∧ Rel W V [.row r1 3 1 ((xs.map Prod.fst).flatMap itC), .row r2 9 1 ((xs.map Prod.snd).flatMap strC)] V3 w') (fun j _ => ys.length - j) 0 ?_
            (conv => whnf)
            refine ⟨(by repeat (first | exact trivial | refine ⟨rfl, ?_⟩)), ⟨by omega, by simp, H.sx⟩, ?_⟩
            clear H
            rintro j w ⟨hj, hall, H⟩
            by_cases hlt2 : j < ys.length
            rotate_left
            · rw [List.take_of_length_le (by omega)] at hall
              (first | (refine H.wg ?_; clear H; intros; rename_i w H; constructor) | refine wk ?_)
              exact ⟨(), (by repeat (first | exact trivial | refine ⟨rfl, ?_⟩)), hall, H⟩
            obtain ⟨p0, c0⟩ := hx.at1 (g := bv) (fun _ => rfl) hlt2
            (first | (refine H.wg ?_; clear H; intros; rename_i w H; constructor) | refine wk ?_)
            refine (isBlank_ref H.data ys[j]).use ?_
            rintro v w ⟨rfl, K⟩
            (have hKb := K.base; replace H := Rel.call H K)
            simp only [List.nil_append] at H
            cases hbk : bkB ys[j] with
            | false =>
              have er := bad fun h => by
                have := (h.1 (x1, ys) (by simp)).2 _ (List.getElem_mem hlt2)
                rw [hbk] at this
                cases this
              (first | (refine H.wg ?_; clear H; intros; rename_i w H; constructor) | refine wk ?_)
              exact ⟨V3, ⟨none, 0, 0⟩, ⟨none, 0, 0⟩, false, hV23, H.sx, rfl, by rw [er]⟩
            | true =>
              (first | (refine H.wg ?_; clear H; intros; rename_i w H; constructor) | refine wk ?_)
              refine ⟨(by repeat (first | exact trivial | refine ⟨rfl, ?_⟩)), j + 1, (by repeat (first | exact trivial | refine ⟨rfl, ?_⟩)), ⟨by omega, fun c hc => ?_, H⟩, by omega⟩
              rw [List.take_succ_eq_append_getElem hlt2] at hc
              rcases List.mem_append.1 hc with hc | hc
              · exact hall c hc
              · rw [List.mem_singleton.1 hc]; exact hbk
          clear H
          rintro _ w ⟨hall, H⟩
          have hok' := hnext hall
          (first | (refine H.wh ?_; clear H; intros; rename_i w H; constructor) | refine wk ?_)
          ((first | refine Rel.nwD H ?_ | refine Rel.nw H ?_); clear H; intro w b89 H)
          (first | (refine H.wg ?_; clear H; intros; rename_i w H; constructor) | refine wk ?_)
          refine Rel.app1_0 (f := itC) (s := r1) (l := xs.map Prod.fst) (x := x1) tabOk rfl rfl rfl rfl rfl (by decide) (fun _ => rfl) (by simp [Value.oneCell']) H (by rw [List.length_map]; show (xs.length + 1) * 8 ≤ _; omega) (by rw [List.length_map]; omega) ?_
          clear H
          intro r3 w H
          (first | (refine H.wg ?_; clear H; intros; rename_i w H; constructor) | refine wk ?_)
          refine ⟨byC_map _ ▸ (hx.up H.data).cells, ?_⟩
          (first | (refine H.wh ?_; clear H; intros; rename_i w H; constructor) | refine wk ?_)
          ((first | refine Rel.nwD H ?_ | refine Rel.nw H ?_); clear H; intro w b94 H)
          (first | (refine H.wg ?_; clear H; intros; rename_i w H; constructor) | refine wk ?_)
          refine Rel.app1_1 (f := strC) (s := r2) (l := xs.map Prod.snd) (x := ys) tabOk rfl rfl rfl rfl rfl (by decide) (fun _ => rfl) (by simp [Value.oneCell']) H (by rw [List.length_map]; show (xs.length + 1) * 16 ≤ _; omega) (by rw [List.length_map]; omega) ?_
          clear H
          intro r4 w H
          (first | (refine H.wg ?_; clear H; intros; rename_i w H; constructor) | refine wk ?_)
          refine ⟨(by repeat (first | exact trivial | refine ⟨rfl, ?_⟩)), (k + 1, q2, r3, r4, xs ++ [(x1, ys)]), (by repeat (first | exact trivial | refine ⟨rfl, ?_⟩)), ⟨by dsimp only; omega, p2, by simp [hxl], hstep, hok', V3, hV23, ?_⟩, by dsimp only; omega⟩
          dsimp only
          rw [List.map_append, List.map_append]
          exact H.sx
        have hkl : k - 1 < xs.length := by omega
        obtain ⟨p0, c0⟩ := (H.slfAt (i := 0) rfl (fun _ => rfl) (by decide)).at1 (g := iv) (fun _ => rfl) (i := k - 1) (by rw [List.length_map]; exact hkl)
        have hr1l := H.rowLen (i := 0) rfl (fun _ => rfl) (by decide)
        rw [List.length_map] at hr1l
        rw [List.getElem_map] at c0
        obtain ⟨y, hy⟩ : ∃ y, y = xs[k - 1] := ⟨_, rfl⟩
        rw [← hy] at c0
        rw [show k - 1 = ((k : Int) - 1).toNat by omega] at c0
        have hyl : xs[xs.length - 1]'(by omega) = y := by
          rw [hy]
          congr 1
          omega
        by_cases hle : x1 ≤ y.1
        · have er := bad fun h => by
            have := List.pairwise_append.1 h.2
            have := this.2.2 y (by rw [hy]; exact List.getElem_mem hkl) (x1, ys) (by simp)
            dsimp only at this
            omega
          (first | (refine H.wg ?_; clear H; intros; rename_i w H; constructor) | refine wk ?_)
          exact ⟨V3, ⟨none, 0, 0⟩, ⟨none, 0, 0⟩, false, hV23, H.sx, rfl, by rw [er]⟩
        · have hnext : (∀ c ∈ ys, bkB c = true) → okB (xs ++ [(x1, ys)]) := fun h => by
            refine ⟨fun z hz => ?_, List.pairwise_append.2 ⟨hok.2, by simp, fun u hu v hv => ?_⟩⟩
            · rcases List.mem_append.1 hz with hz | hz
              · exact hok.1 z hz
              · rw [List.mem_singleton.1 hz]
                exact ⟨hr, h⟩
            · rw [List.mem_singleton.1 hv]
              obtain ⟨i, hi, rfl⟩ := List.mem_iff_getElem.1 hu
              by_cases hi2 : i = xs.length - 1
              · subst hi2
                rw [hyl]
                show y.1 < x1
                omega
              · have := List.pairwise_iff_getElem.1 hok.2 i (xs.length - 1) hi (by omega) (by omega)
                rw [hyl] at this
                show xs[i].1 < x1
                omega
          (first | (refine H.wg ?_; clear H; intros; rename_i w H; constructor) | refine wk ?_)
          refine SemC.cut 2 (fun _ : Unit => [(0, s.v), (5, iv (N : Int)), (7, .pointer (some ⟨b7, 0, none⟩)), (31, .bool false), (8, r1.v), (9, r2.v), (10, iv (k : Int)), (11, iv x1), (14, x.v), (15, iv (q2 : Int))]) (fun _ w' => (∀ c ∈ ys, bkB c = true) ∧ Rel W V [.row r1 3 1 ((xs.map Prod.fst).flatMap itC), .row r2 9 1 ((xs.map Prod.snd).flatMap strC)] V3 w') ?_ ?_
          · refine loop_inv (S := Nat) tabOk [0, 5, 6, 7, 8, 9, 10, 11, 12, 13, 14, 15, 16, 31, 34, 46, 74] (fun j => [(17, iv (j : Int))]) (fun j w' => j ≤ ys.length ∧ (∀ c ∈ ys.take j, bkB c = true) ∧ Rel W V [.row r1 3 1 ((xs.map Prod.fst).flatMap itC), .row r2 9 1 ((xs.map Prod.snd).flatMap strC)] V3 w') (fun j _ => ys.length - j) 0 ?_
            (conv => whnf)
            refine ⟨(by repeat (first | exact trivial | refine ⟨rfl, ?_⟩)), ⟨by omega, by simp, H.sx⟩, ?_⟩
            clear H
            rintro j w ⟨hj, hall, H⟩
            by_cases hlt2 : j < ys.length
            rotate_left
            · rw [List.take_of_length_le (by omega)] at hall
              (first | (refine H.wg ?_; clear H; intros; rename_i w H; constructor) | refine wk ?_)
              exact ⟨(), (by repeat (first | exact trivial | refine ⟨rfl, ?_⟩)), hall, H⟩
            obtain ⟨p0, c0⟩ := hx.at1 (g := bv) (fun _ => rfl) hlt2
            (first | (refine H.wg ?_; clear H; intros; rename_i w H; constructor) | refine wk ?_)
            refine (isBlank_ref H.data ys[j]).use ?_
            rintro v w ⟨rfl, K⟩
            (have hKb := K.base; replace H := Rel.call H K)
            simp only [List.nil_append] at H
            cases hbk : bkB ys[j] with
            | false =>
              have er := bad fun h => by
                have := (h.1 (x1, ys) (by simp)).2 _ (List.getElem_mem hlt2)
                rw [hbk] at this
                cases this
              (first | (refine H.wg ?_; clear H; intros; rename_i w H; constructor) | refine wk ?_)
              exact ⟨V3, ⟨none, 0, 0⟩, ⟨none, 0, 0⟩, false, hV23, H.sx, rfl, by rw [er]⟩
            | true =>
              (first | (refine H.wg ?_; clear H; intros; rename_i w H; constructor) | refine wk ?_)
              refine ⟨(by repeat (first | exact trivial | refine ⟨rfl, ?_⟩)), j + 1, (by repeat (first | exact trivial | refine ⟨rfl, ?_⟩)), ⟨by omega, fun c hc => ?_, H⟩, by omega⟩
              rw [List.take_succ_eq_append_getElem hlt2] at hc
              rcases List.mem_append.1 hc with hc | hc
              · exact hall c hc
              · rw [List.mem_singleton.1 hc]; exact hbk
          clear H
          rintro _ w ⟨hall, H⟩
          have hok' := hnext hall
          (first | (refine H.wh ?_; clear H; intros; rename_i w H; constructor) | refine wk ?_)
          ((first | refine Rel.nwD H ?_ | refine Rel.nw H ?_); clear H; intro w b89 H)
          (first | (refine H.wg ?_; clear H; intros; rename_i w H; constructor) | refine wk ?_)
          refine Rel.app1_0 (f := itC) (s := r1) (l := xs.map Prod.fst) (x := x1) tabOk rfl rfl rfl rfl rfl (by decide) (fun _ => rfl) (by simp [Value.oneCell']) H (by rw [List.length_map]; show (xs.length + 1) * 8 ≤ _; omega) (by rw [List.length_map]; omega) ?_
          clear H
          intro r3 w H
          (first | (refine H.wg ?_; clear H; intros; rename_i w H; constructor) | refine wk ?_)
          refine ⟨byC_map _ ▸ (hx.up H.data).cells, ?_⟩
          (first | (refine H.wh ?_; clear H; intros; rename_i w H; constructor) | refine wk ?_)
          ((first | refine Rel.nwD H ?_ | refine Rel.nw H ?_); clear H; intro w b94 H)
          (first | (refine H.wg ?_; clear H; intros; rename_i w H; constructor) | refine wk ?_)
          refine Rel.app1_1 (f := strC) (s := r2) (l := xs.map Prod.snd) (x := ys) tabOk rfl rfl rfl rfl rfl (by decide) (fun _ => rfl) (by simp [Value.oneCell']) H (by rw [List.length_map]; show (xs.length + 1) * 16 ≤ _; omega) (by rw [List.length_map]; omega) ?_
          clear H
          intro r4 w H
          (first | (refine H.wg ?_; clear H; intros; rename_i w H; constructor) | refine wk ?_)
          refine ⟨(by repeat (first | exact trivial | refine ⟨rfl, ?_⟩)), (k + 1, q2, r3, r4, xs ++ [(x1, ys)]), (by repeat (first | exact trivial | refine ⟨rfl, ?_⟩)), ⟨by dsimp only; omega, p2, by simp [hxl], hstep, hok', V3, hV23, ?_⟩, by dsimp only; omega⟩
          dsimp only
          rw [List.map_append, List.map_append]
          exact H.sx
theorem treGood_iff (b : List UInt8) : (treLoss b).isSome = (treRd b).isSome := by unfold treLoss; cases treRd b <;> rfl
theorem trrGood_g (hV : Sub V W) {s : Sl} {b : List UInt8} (hs : Byt V s b) (hl : b.length ≤ 1099511620000) : Ret Tryz.prog 21 [s.v].toArray W fun q w' => q = .bool (treLoss b).isSome ∧ Rel W V [] V w' := by
  have H := Rel.start hV
  have hlen := hs.len
  rw [treGood_iff]
  refine cal_of_vc tabOk Tryz.func21 rfl (by kernel_rfl) 16 rfl (by simp) [0, 2, 5, 8] ?_
  by_cases h0 : b.length = 0
  · rw [show b = [] from List.eq_nil_of_length_eq_zero h0, show treRd [] = some [] by rw [treRd, if_pos rfl]]
    (first | (refine H.wg ?_; clear H; intros; rename_i w H; constructor) | refine wk ?_)
    first | exact H.sx | exact ⟨rfl, H.sx⟩
  have hb : b ≠ [] := fun h => h0 (by rw [h]; rfl)
  (first | (refine H.wg ?_; clear H; intros; rename_i w H; constructor) | refine wk ?_)
  refine (gaps_ref H.data hs hl hb).use ?_
  rintro q w ⟨V2, x, y, k, hV2, K, rfl, hres⟩
  (have hKb := K.base; replace H := H.call0 K)
  cases hr : treRd b with
  | none =>
    rw [hr] at hres
    obtain rfl := hres
    (first | (refine H.wg ?_; clear H; intros; rename_i w H; constructor) | refine wk ?_)
    exact H.less (Sub.refl _) hV2
  | some Z =>
    rw [hr] at hres
    obtain ⟨rfl, _⟩ := hres
    (first | (refine H.wg ?_; clear H; intros; rename_i w H; constructor) | refine wk ?_)
    exact H.less (Sub.refl _) hV2
theorem trrLosses_ref (hV : Sub V W) {s : Sl} {b : List UInt8} (hs : Byt V s b) (hl : b.length ≤ 1099511620000) {ls : List LossD} (hg : treLoss b = some ls) : Ret Tryz.prog 23 [s.v].toArray W fun q w' => ∃ (V' : World) (r : Sl), Sub V V' ∧ Rel W V [] V' w' ∧ q = r.v ∧ SlF lossC V' r ls := by
  have H := Rel.start hV
  have hlen := hs.len
  refine cal_of_vc tabOk Tryz.func23 rfl (by kernel_rfl) 19 rfl (by simp) [0, 2, 3, 8] ?_
  unfold treLoss at hg
  by_cases h0 : b.length = 0
  · have hb : b = [] := List.eq_nil_of_length_eq_zero h0
    have e : ls = [] := by
      rw [hb, show treRd [] = some [] by rw [treRd, if_pos rfl]] at hg
      cases hg
      rfl
    rw [e]
    (first | (refine H.wg ?_; clear H; intros; rename_i w H; constructor) | refine wk ?_)
    exact ⟨V, ⟨none, 0, 0⟩, Sub.refl _, H.sx, rfl, SlF.nil _ _⟩
  have hb : b ≠ [] := fun h => h0 (by rw [h]; rfl)
  cases hr : treRd b with
  | none => rw [hr] at hg; cases hg
  | some Z =>
    rw [hr] at hg
    have hZ : Z ≠ [] := fun h => by
      have := (treRd_some hr).1
      rw [h, treRes, if_pos rfl] at this
      exact hb this
    have hls : ls = [(lsBlanks, (Z.length : Int))] := by
      simp only [Option.some.injEq] at hg
      rw [if_neg (fun h => hZ (List.eq_nil_of_length_eq_zero h))] at hg
      exact hg.symm
    rw [hls]
    (first | (refine H.wg ?_; clear H; intros; rename_i w H; constructor) | refine wk ?_)
    refine (gaps_ref H.data hs hl hb).use ?_
    rintro q w ⟨V2, x, y, k, hV2, K, rfl, hres⟩
    (have hKb := K.base; replace H := H.call0 K)
    rw [hr] at hres
    obtain ⟨rfl, hx, _⟩ := hres
    have hxl := hx.len
    rw [List.length_map] at hxl
    (first | (refine H.wh ?_; clear H; intros; rename_i w H; constructor) | refine wk ?_)
    ((first | refine Rel.nwD H ?_ | refine Rel.nw H ?_); clear H; intro w b18 H)
    (first | (refine H.wg ?_; clear H; intros; rename_i w H; constructor) | refine wk ?_)
    have H2 : Rel W V [.row ⟨some ⟨b18, 0, none⟩, 1, 1⟩ 85 2 ([(lsBlanks, (x.len : Int))].flatMap lossC)] V2 w := Rel.toRow (l := [(lsBlanks, (x.len : Int))].flatMap lossC) H.sx rfl (by decide)
    obtain ⟨V3, hV3, H3, hx3⟩ := H2.freezeF (fun _ => rfl) (by decide)
    rw [show (x.len : Int) = (Z.length : Int) by omega] at hx3
    exact ⟨V3, _, hV2.trans hV3, H3, rfl, hx3⟩
end
end Go.Proofs.YtffaffojkfalhaaGreatDoor
