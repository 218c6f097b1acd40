/-
  Files of trees: the law that blanks around a file do not matter.
-/
import Derived.Test.YtffaffojkfalhaaGreatDoorTreX
import Derived.Test.YtffaffojkfalhaaGreatDoorVcW
namespace Go.Proofs.YtffaffojkfalhaaGreatDoor
open Go Go.RowKit

abbrev blkC : List UInt8 := [10, 32, 9, 13]
theorem blkC_bk (i : Nat) : bkB (blkC.getD (i % 4) 0) = true := by
  have key : ∀ j : Fin 4, bkB (blkC.getD j.val 0) = true := by decide
  exact key ⟨i % 4, Nat.mod_lt _ (by decide)⟩
theorem blkC_get (i : Nat) : blkC[((i : Int) % 4).toNat]? = some (blkC.getD (i % 4) 0) := by
  rw [show ((i : Int) % 4).toNat = i % 4 by omega]
  have key : ∀ j : Fin 4, blkC[j.val]? = some (blkC.getD j.val 0) := by decide
  exact key ⟨i % 4, Nat.mod_lt _ (by decide)⟩
/-- the first so many blanks -/
def blL (k : Nat) : List UInt8 := (List.range k).map fun j => blkC.getD (j % 4) 0
theorem blL_len (k : Nat) : (blL k).length = k := by simp [blL]
theorem blL_succ (k : Nat) : blL (k + 1) = blL k ++ [blkC.getD (k % 4) 0] := by simp [blL, List.range_succ]
theorem blL_bk (k : Nat) : Bks (blL k) := fun c hc => by
  obtain ⟨j, _, rfl⟩ := List.mem_map.1 hc
  exact blkC_bk j
section
variable {W : World}
set_option maxRecDepth 100000 in
set_option maxHeartbeats 2000000 in
theorem law_tree_blanks (hE : NumT W) {s : Sl} {l : List UInt8} (hs0 : By W s l) (hl : l.length ≤ 1048576) (n : Int) (hn : I64 n) : Ret Tryz.prog 6 [s.v, iv n].toArray W fun v w' => v = .bool true ∧ Ext W w' := by
  have H := Rel.start (Sub.refl W)
  have hs := hs0.slf
  have hlen := hs.len
  refine cal_of_vc tabOk Tryz.func6 rfl (by kernel_rfl) 61 rfl (by simp) [0, 1, 4, 5, 7, 8, 9, 10, 12, 14, 31, 34] ?_
  (first | (refine H.wg ?_; clear H; intros; rename_i w H; constructor) | refine wk ?_)
  refine (example_tree H.data hE).use ?_
  rintro q w ⟨rfl, V1, hV1, K⟩
  (have hKb := K.base; replace H := H.call0 K)
  (first | (refine H.wg ?_; clear H; intros; rename_i w H; constructor) | refine wk ?_)
  refine (to_tree H.data (hE.up hV1) (hs.up hV1) (by omega)).use ?_
  rintro q w ⟨V2, h, r, hV2, K, rfl, hv, hr⟩
  (have hKb := K.base; replace H := H.call0 K)
  have hV12 := hV1.trans hV2
  obtain ⟨hkk, hnm, hbs, hss, hpl⟩ := h
  (first | (refine H.wh ?_; clear H; intros; rename_i w H; constructor) | refine wk ?_)
  ((first | refine Rel.nwD H ?_ | refine Rel.nw H ?_); clear H; intro w b5 H)
  (first | (refine H.wh ?_; clear H; intros; rename_i w H; constructor) | refine wk ?_)
  ((first | refine Rel.nwD H ?_ | refine Rel.nw H ?_); clear H; intro w b7 H)
  (first | (refine H.wg ?_; clear H; intros; rename_i w H; constructor) | refine wk ?_)
  refine (in_ref n 0 50 _).use ?_
  rintro q w' ⟨rfl, rfl⟩
  by_cases hn5 : 0 ≤ n ∧ n ≤ 50
  rotate_left
  · rw [decide_eq_false hn5]
    (first | (refine H.wg ?_; clear H; intros; rename_i w H; constructor) | refine wk ?_)
    first | exact H.base | exact ⟨rfl, H.base⟩
  rw [decide_eq_true hn5]
  obtain ⟨m, rfl⟩ : ∃ m : Nat, n = m := ⟨n.toNat, by omega⟩
  by_cases hbig : l.length + 2 * m ≤ 1000
  rotate_left
  · (first | (refine H.wg ?_; clear H; intros; rename_i w H; constructor) | refine wk ?_)
    first | exact H.base | exact ⟨rfl, H.base⟩
  have hl' : ¬ 1000 < l.length := by omega
  have hu : VB 1048576 (toRes (treTo l) l.length).v := by
    unfold toRes
    rw [if_neg hl']
    cases ht : treTo l with
    | none => exact vb_zero _
    | some y => exact (tre_valid (by omega) ht).1
  have key : ∀ D : List UInt8, D.length ≤ 1000 → (treTo D).map Prod.fst = (treTo l).map Prod.fst → (toRes (treTo D) D.length).v = (toRes (treTo l) l.length).v ∧ (toRes (treTo D) D.length).c = (toRes (treTo l) l.length).c ∧ (toRes (treTo D) D.length).i = (toRes (treTo l) l.length).i := fun D hD h => by
    unfold toRes
    rw [if_neg (by omega), if_neg hl']
    cases h1 : treTo D with
    | none =>
      cases h2 : treTo l with
      | none => exact ⟨rfl, rfl, rfl⟩
      | some y => rw [h1, h2] at h; cases h
    | some x =>
      cases h2 : treTo l with
      | none => rw [h1, h2] at h; cases h
      | some y =>
        rw [h1, h2] at h
        exact ⟨Option.some.inj h, rfl, rfl⟩
  obtain ⟨rc, hrc⟩ : ∃ rc, rc = (toRes (treTo l) l.length).c := ⟨_, rfl⟩
  obtain ⟨ri, hri⟩ : ∃ ri, ri = (toRes (treTo l) l.length).i := ⟨_, rfl⟩
  rw [← hrc, ← hri] at H
  obtain ⟨V3, hV3, H, hb7⟩ := H.freezeBlk
  obtain ⟨V4, hV4, H, hb5⟩ := H.freezeBlk
  have hV24 := hV3.trans hV4
  (first | (refine H.wg ?_; clear H; intros; rename_i w H; constructor) | refine wk ?_)
  replace H := H.rowNil 5 1
  refine loop_inv (S := Nat × Sl) tabOk [0, 1, 4, 5, 7, 10, 12, 14, 31] (fun k => [(8, k.2.v), (9, iv (k.1 : Int))]) (fun k w' => k.1 ≤ m ∧ Rel W W [.row k.2 5 1 ((blL k.1).flatMap byC)] V4 w') (fun k _ => m - k.1) (0, ⟨none, 0, 0⟩) ?_
  (conv => whnf)
  refine ⟨(by repeat (first | exact trivial | refine ⟨rfl, ?_⟩)), ⟨Nat.zero_le _, H.sx⟩, ?_⟩
  clear H
  rintro ⟨k, rb⟩ w ⟨hk, H⟩
  dsimp only at hk H ⊢
  by_cases hlt : k < m
  · have g0 := blkC_get k
    have hbl := blL_len k
    (first | (refine H.wh ?_; clear H; intros; rename_i w H; constructor) | refine wk ?_)
    ((first | refine Rel.nwD H ?_ | refine Rel.nw H ?_); clear H; intro w b41 H)
    (first | (refine H.wg ?_; clear H; intros; rename_i w H; constructor) | refine wk ?_)
    refine Rel.app1_0 (f := byC) (s := rb) (l := blL k) (x := blkC.getD (k % 4) 0) tabOk rfl rfl rfl rfl rfl (by decide) (fun _ => rfl) (by simp [Value.oneCell']) H (by rw [hbl]; show (k + 1) * 1 ≤ _; omega) (by omega) ?_
    clear H
    intro r1 w H
    (first | (refine H.wg ?_; clear H; intros; rename_i w H; constructor) | refine wk ?_)
    exact ⟨(by repeat (first | exact trivial | refine ⟨rfl, ?_⟩)), (k + 1, r1), (by repeat (first | exact trivial | refine ⟨rfl, ?_⟩)), ⟨by dsimp only; omega, by dsimp only; rw [blL_succ]; exact H.sx⟩, by dsimp only; omega⟩
  obtain rfl : k = m := by omega
  obtain ⟨V5, hV5, H, hrb⟩ := H.freezeF (fun _ => rfl) (by decide)
  have hbl := blL_len k
  have hV25 := hV24.trans hV5
  have hD1 : (blL k ++ l).length ≤ 1000 := by rw [List.length_append]; omega
  have hD2 : ((blL k ++ l) ++ blL k).length ≤ 1000 := by rw [List.length_append, List.length_append]; omega
  (first | (refine H.wg ?_; clear H; intros; rename_i w H; constructor) | refine wk ?_)
  refine (join_ref H.data hrb ((hs.up hV12).up hV25) (by omega)).use ?_
  rintro q w ⟨r1, rfl, K⟩
  (have hKb := K.base; replace H := Rel.call H K)
  simp only [List.cons_append, List.nil_append] at H
  obtain ⟨V6, hV6, H, hr1⟩ := H.freezeF (fun _ => rfl) (by decide)
  (first | (refine H.wg ?_; clear H; intros; rename_i w H; constructor) | refine wk ?_)
  refine (join_ref H.data hr1 (hrb.up hV6) (by rw [List.length_append]; omega)).use ?_
  rintro q w ⟨r2, rfl, K⟩
  (have hKb := K.base; replace H := Rel.call H K)
  simp only [List.cons_append, List.nil_append] at H
  obtain ⟨V7, hV7, H, hr2⟩ := H.freezeF (fun _ => rfl) (by decide)
  have hV27 := (hV25.trans hV6).trans hV7
  obtain ⟨D, hD⟩ : ∃ D, D = (blL k ++ l) ++ blL k := ⟨_, rfl⟩
  rw [← hD] at hr2 hD2
  have hbk := blL_bk k
  obtain ⟨k1, k2, k3⟩ := key D hD2 (by rw [hD, List.append_assoc]; exact tre_blanks hbk hbk)
  (first | (refine H.wg ?_; clear H; intros; rename_i w H; constructor) | refine wk ?_)
  refine (to_tree H.data (hE.up (hV12.trans hV27)) hr2 (by omega)).use ?_
  rintro q w ⟨V8, h8, r8, hV8, K, rfl, hv8, hr8⟩
  (have hKb := K.base; replace H := H.call0 K)
  rw [k1] at hv8
  rw [k2, k3, ← hrc, ← hri]
  have hV28 := hV27.trans hV8
  obtain ⟨hk8, hn8, hbs8, hss8, hpl8⟩ := h8
  (first | (refine H.wh ?_; clear H; intros; rename_i w H; constructor) | refine wk ?_)
  ((first | refine Rel.nwD H ?_ | refine Rel.nw H ?_); clear H; intro w b10 H)
  (first | (refine H.wh ?_; clear H; intros; rename_i w H; constructor) | refine wk ?_)
  ((first | refine Rel.nwD H ?_ | refine Rel.nw H ?_); clear H; intro w b12 H)
  have hV38 := ((((hV4.trans hV5).trans hV6).trans hV7).trans hV8)
  have k7 : Blk V8 b7 [iv rc, iv ri] 29 := hV38.cel _ _ _ _ hb7
  have k5 : Blk V8 b5 [iv hkk, iv hnm, hbs.v, hss.v, hpl.v] 27 := ((((hV5.trans hV6).trans hV7).trans hV8).cel _ _ _ _ hb5)
  have o0 := k7.cel (i := 0) rfl
  have o1 := k7.cel (i := 1) rfl
  have c0 := k5.cel (i := 0) rfl
  have c1 := k5.cel (i := 1) rfl
  have c2 := k5.cel (i := 2) rfl
  have c3 := k5.cel (i := 3) rfl
  have c4 := k5.cel (i := 4) rfl
  (first | (refine H.wg ?_; clear H; intros; rename_i w H; constructor) | refine wk ?_)
  refine (same_value (SizeOf.sizeOf ((toRes (treTo l) l.length).v : Val) + 1) H.data (Nat.lt_succ_self _) (hv.up hV28) hv8 (vb_big hu)).use ?_
  rintro q w ⟨r0, rfl, hsame, K⟩
  (have hKb := K.base; replace H := Rel.call H K)
  simp only [List.cons_append, List.nil_append] at H
  obtain rfl := hsame.2 rfl
  (first | (refine H.wg ?_; clear H; intros; rename_i w H; constructor) | refine wk ?_)
  first | exact H.base | exact ⟨rfl, H.base⟩
end
end Go.Proofs.YtffaffojkfalhaaGreatDoor
