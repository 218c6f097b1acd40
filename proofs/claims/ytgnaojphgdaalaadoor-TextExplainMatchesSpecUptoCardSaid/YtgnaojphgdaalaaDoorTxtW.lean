/-
  Text files, the reference: losses, the file of a value.
-/
import Derived.Test.YtgnaojphgdaalaaDoorTxtV
namespace Go.Proofs.YtgnaojphgdaalaaDoor
open Go Go.RowKit

theorem loss_one (x : LossD) : ∀ u ∈ lossC x, u.oneCell' = true := by
  intro u hu
  simp only [lossC, List.mem_cons, List.not_mem_nil, or_false] at hu
  rcases hu with rfl | rfl <;> rfl
theorem cnt_same (ks : List Nat) (a : Nat) : (ks ++ [a]).count a = ks.count a + 1 := by rw [List.count_append]; simp
theorem cnt_other (ks : List Nat) {a b : Nat} (h : b ≠ a) : (ks ++ [b]).count a = ks.count a := by rw [List.count_append, show List.count a [b] = 0 from List.count_eq_zero_of_not_mem (by simpa using fun e => h e.symm), Nat.add_zero]
theorem iv_succ {n m : Nat} (h : m = n + 1) : some (iv ((n : Int) + 1)) = some (iv (m : Int)) := by rw [h]; rfl
theorem iv_same {n m : Nat} (h : m = n) : some (iv (n : Int)) = some (iv (m : Int)) := by rw [h]
section
variable {V W : World}
set_option maxRecDepth 100000 in
set_option maxHeartbeats 1000000 in
theorem txtLosses_ref (hV : Sub V W) {s : Sl} {b : List UInt8} (hs : Byt V s b) (hl : b.length ≤ 1000000000) {ls : List LossD} (hg : txtLoss b = some ls) : Ret Tryd.prog 23 [s.v].toArray W fun q w' => ∃ (V' : World) (r : Sl), Sub V V' ∧ Rel W V [] V' w' ∧ q = r.v ∧ SlF lossC V' r ls := by
  have H := Rel.start hV
  have hlen := hs.len
  unfold txtLoss at hg
  refine cal_of_vc tabOk Tryd.func23 rfl (by kernel_rfl) 61 rfl (by simp) [0, 2, 3, 4, 6, 7, 8, 9, 12, 20, 29, 36, 43, 47, 54] ?_
  by_cases hb : b = []
  · unfold txtRd at hg
    rw [if_pos hb] at hg
    cases hg
    rw [hb, List.length_nil] at hlen
    (first | (refine H.wg ?_; clear H; intros; rename_i w H; constructor) | refine wk ?_)
    exact ⟨V, ⟨none, 0, 0⟩, Sub.refl _, H.sx, rfl, SlF.nil _ _⟩
  have hbl := List.length_pos_iff.2 hb
  (first | (refine H.wg ?_; clear H; intros; rename_i w H; constructor) | refine wk ?_)
  refine (textKinds_ref H.data hs hl).use ?_
  rintro q w ⟨V2, r, c, ok, hV2, K, rfl, hk⟩
  (have hKb := K.base; replace H := H.call0 K)
  cases hr : txtRd b with
  | none => rw [hr] at hg; cases hg
  | some x =>
    obtain ⟨e, rs⟩ := x
    rw [hr] at hg
    cases hg
    obtain ⟨e5, ho, hsum, _⟩ := txtRd_some hr
    have hraw : txtRaw b = some (e, rs) := by
      unfold txtRd at hr
      rw [if_neg hb] at hr
      split at hr
      · cases hr
      · rename_i e' rs' h
        split at hr
        · cases hr
        · cases hr
          exact h
    rw [hraw] at hk
    obtain ⟨rfl, rfl, hr2⟩ := hk
    have hkl := (runsOf_K rs 3 ho).2.2.2
    obtain ⟨ks, hks⟩ : ∃ ks, ks = runsK rs := ⟨_, rfl⟩
    rw [← hks] at hr2 hkl ⊢
    have hrl := hr2.len
    obtain ⟨X, hX⟩ : ∃ X, X = loss1 lsEnc e := ⟨_, rfl⟩
    have hXl : X.length ≤ 1 := by rw [hX]; unfold loss1; split <;> simp
    by_cases he : 0 < e
    · replace H := H.rowNil 90 2
      (first | (refine H.wh ?_; clear H; intros; rename_i w H; constructor) | refine wk ?_)
      ((first | refine Rel.nwD H ?_ | refine Rel.nw H ?_); clear H; intro w bq H)
      obtain ⟨nm, hnm⟩ : ∃ nm : List UInt8, nm = lsEnc := ⟨_, rfl⟩
      replace H := H.blkEq (c' := lossC (nm, (e : Int))) (by rw [hnm]; rfl)
      (first | (refine H.wg ?_; clear H; intros; rename_i w H; constructor) | refine wk ?_)
      refine Rel.app1_0 (f := lossC) (s := ⟨none, 0, 0⟩) (l := []) (x := (nm, (e : Int))) tabOk rfl rfl rfl rfl rfl (by decide) (fun _ => rfl) (loss_one _) H (by decide) (by decide) ?_
      clear H
      intro r6 w H
      rw [show [] ++ [(nm, (e : Int))] = X by rw [hX, hnm]; unfold loss1; rw [if_pos he]; rfl] at H
      (first | (refine H.wg ?_; clear H; intros; rename_i w H; constructor) | refine wk ?_)
      refine loop_inv (S := Nat) tabOk [0, 2, 3, 4, 6, 12, 20, 47, 54] (fun k => [(9, iv k), (7, iv ((ks.take k).count 1 : Nat)), (8, iv ((ks.take k).count 2 : Nat))]) (fun k w' => k ≤ ks.length ∧ Rel W V [.row r6 90 2 (X.flatMap lossC)] V2 w') (fun k _ => ks.length - k) 0 ?_
      (conv => whnf)
      refine ⟨(by repeat (first | exact trivial | refine ⟨rfl, ?_⟩)), ⟨Nat.zero_le _, H.sx⟩, ?_⟩
      clear H
      rintro k w ⟨hk, H⟩
      dsimp only at hk H ⊢
      have hq1 := List.count_le_length (a := 1) (l := ks.take k)
      have hq2 := List.count_le_length (a := 2) (l := ks.take k)
      rw [List.length_take] at hq1 hq2
      by_cases hlt : k < ks.length
      · obtain ⟨p0, c0⟩ := hr2.at1 (g := fun u : Nat => iv (u : Int)) (fun _ => rfl) hlt
        have htk := List.take_succ_eq_append_getElem hlt
        obtain ⟨x, hx⟩ : ∃ x, x = ks[k] := ⟨_, rfl⟩
        rw [← hx] at c0 htk
        by_cases h1 : x = 1
        · rw [h1] at htk
          have n1 := (congrArg (List.count 1) htk).trans (cnt_same _ 1)
          have n2 := (congrArg (List.count 2) htk).trans (cnt_other _ (by decide))
          (first | (refine H.wg ?_; clear H; intros; rename_i w H; constructor) | refine wk ?_)
          exact ⟨(by repeat (first | exact trivial | refine ⟨rfl, ?_⟩)), k + 1, ⟨rfl, iv_succ n1, iv_same n2, trivial⟩, ⟨by omega, H.sx⟩, by omega⟩
        by_cases h2 : x = 2
        · rw [h2] at htk
          have n1 := (congrArg (List.count 1) htk).trans (cnt_other _ (by decide))
          have n2 := (congrArg (List.count 2) htk).trans (cnt_same _ 2)
          (first | (refine H.wg ?_; clear H; intros; rename_i w H; constructor) | refine wk ?_)
          exact ⟨(by repeat (first | exact trivial | refine ⟨rfl, ?_⟩)), k + 1, ⟨rfl, iv_same n1, iv_succ n2, trivial⟩, ⟨by omega, H.sx⟩, by omega⟩
        have n1 := (congrArg (List.count 1) htk).trans (cnt_other _ h1)
        have n2 := (congrArg (List.count 2) htk).trans (cnt_other _ h2)
        (first | (refine H.wg ?_; clear H; intros; rename_i w H; constructor) | refine wk ?_)
        exact ⟨(by repeat (first | exact trivial | refine ⟨rfl, ?_⟩)), k + 1, ⟨rfl, iv_same n1, iv_same n2, trivial⟩, ⟨by omega, H.sx⟩, by omega⟩
      · rw [List.take_of_length_le (by omega)] at hq1 hq2 ⊢
        obtain ⟨c1, hcc1⟩ : ∃ c, c = ks.count 1 := ⟨_, rfl⟩
        obtain ⟨c2, hcc2⟩ : ∃ c, c = ks.count 2 := ⟨_, rfl⟩
        unfold txtLs
        rw [← hcc1] at hq1
        rw [← hcc2] at hq2
        rw [← hcc1, ← hcc2, ← hX]
        by_cases hc1 : 0 < c1
        · (first | (refine H.wh ?_; clear H; intros; rename_i w H; constructor) | refine wk ?_)
          ((first | refine Rel.nwD H ?_ | refine Rel.nw H ?_); clear H; intro w bq H)
          obtain ⟨nm, hnm⟩ : ∃ nm : List UInt8, nm = lsBoth := ⟨_, rfl⟩
          replace H := H.blkEq (c' := lossC (nm, (c1 : Int))) (by rw [hnm]; rfl)
          (first | (refine H.wg ?_; clear H; intros; rename_i w H; constructor) | refine wk ?_)
          refine Rel.app1_0 (f := lossC) (s := r6) (l := X) (x := (nm, (c1 : Int))) tabOk rfl rfl rfl rfl rfl (by decide) (fun _ => rfl) (loss_one _) H (by show ((X).length + 1) * 24 ≤ _; omega) (by omega) ?_
          clear H
          intro r7 w H
          rw [hnm] at H
          clear hnm
          rw [show loss1 lsBoth c1 = [(lsBoth, (c1 : Int))] by unfold loss1; rw [if_pos hc1]]
          have hXl2 : (X ++ [(lsBoth, (c1 : Int))]).length ≤ 2 := by rw [List.length_append, List.length_singleton]; omega
          by_cases hc2 : 0 < c2
          · (first | (refine H.wh ?_; clear H; intros; rename_i w H; constructor) | refine wk ?_)
            ((first | refine Rel.nwD H ?_ | refine Rel.nw H ?_); clear H; intro w bq H)
            obtain ⟨nm, hnm⟩ : ∃ nm : List UInt8, nm = lsCr := ⟨_, rfl⟩
            replace H := H.blkEq (c' := lossC (nm, (c2 : Int))) (by rw [hnm]; rfl)
            (first | (refine H.wg ?_; clear H; intros; rename_i w H; constructor) | refine wk ?_)
            refine Rel.app1_0 (f := lossC) (s := r7) (l := X ++ [(lsBoth, (c1 : Int))]) (x := (nm, (c2 : Int))) tabOk rfl rfl rfl rfl rfl (by decide) (fun _ => rfl) (loss_one _) H (by show ((X ++ [(lsBoth, (c1 : Int))]).length + 1) * 24 ≤ _; omega) (by omega) ?_
            clear H
            intro r8 w H
            rw [hnm] at H
            clear hnm
            rw [show loss1 lsCr c2 = [(lsCr, (c2 : Int))] by unfold loss1; rw [if_pos hc2]]
            obtain ⟨V3, hV3, H, hr⟩ := Rel.freezeF H (fun _ => rfl) (by decide)
            (first | (refine H.wg ?_; clear H; intros; rename_i w H; constructor) | refine wk ?_)
            exact ⟨V3, _, hV2.trans hV3, H.sx, rfl, hr⟩
          · rw [show loss1 lsCr c2 = [] by unfold loss1; rw [if_neg hc2], List.append_nil]
            obtain ⟨V3, hV3, H, hr⟩ := Rel.freezeF H (fun _ => rfl) (by decide)
            (first | (refine H.wg ?_; clear H; intros; rename_i w H; constructor) | refine wk ?_)
            exact ⟨V3, _, hV2.trans hV3, H.sx, rfl, hr⟩
        · rw [show loss1 lsBoth c1 = [] by unfold loss1; rw [if_neg hc1], List.append_nil]
          by_cases hc2 : 0 < c2
          · (first | (refine H.wh ?_; clear H; intros; rename_i w H; constructor) | refine wk ?_)
            ((first | refine Rel.nwD H ?_ | refine Rel.nw H ?_); clear H; intro w bq H)
            obtain ⟨nm, hnm⟩ : ∃ nm : List UInt8, nm = lsCr := ⟨_, rfl⟩
            replace H := H.blkEq (c' := lossC (nm, (c2 : Int))) (by rw [hnm]; rfl)
            (first | (refine H.wg ?_; clear H; intros; rename_i w H; constructor) | refine wk ?_)
            refine Rel.app1_0 (f := lossC) (s := r6) (l := X) (x := (nm, (c2 : Int))) tabOk rfl rfl rfl rfl rfl (by decide) (fun _ => rfl) (loss_one _) H (by show ((X).length + 1) * 24 ≤ _; omega) (by omega) ?_
            clear H
            intro r8 w H
            rw [hnm] at H
            clear hnm
            rw [show loss1 lsCr c2 = [(lsCr, (c2 : Int))] by unfold loss1; rw [if_pos hc2]]
            obtain ⟨V3, hV3, H, hr⟩ := Rel.freezeF H (fun _ => rfl) (by decide)
            (first | (refine H.wg ?_; clear H; intros; rename_i w H; constructor) | refine wk ?_)
            exact ⟨V3, _, hV2.trans hV3, H.sx, rfl, hr⟩
          · rw [show loss1 lsCr c2 = [] by unfold loss1; rw [if_neg hc2], List.append_nil]
            obtain ⟨V3, hV3, H, hr⟩ := Rel.freezeF H (fun _ => rfl) (by decide)
            (first | (refine H.wg ?_; clear H; intros; rename_i w H; constructor) | refine wk ?_)
            exact ⟨V3, _, hV2.trans hV3, H.sx, rfl, hr⟩
    · (first | (refine H.wg ?_; clear H; intros; rename_i w H; constructor) | refine wk ?_)
      replace H := H.rowNil 90 2
      have H0 : Rel W V [.row ⟨none, 0, 0⟩ 90 2 (X.flatMap lossC)] V2 w := by
        rw [hX]
        unfold loss1
        rw [if_neg he]
        exact H
      clear H
      have H := H0
      clear H0
      refine loop_inv (S := Nat) tabOk [0, 2, 3, 4, 6, 12, 20, 47, 54] (fun k => [(9, iv k), (7, iv ((ks.take k).count 1 : Nat)), (8, iv ((ks.take k).count 2 : Nat))]) (fun k w' => k ≤ ks.length ∧ Rel W V [.row ⟨none, 0, 0⟩ 90 2 (X.flatMap lossC)] V2 w') (fun k _ => ks.length - k) 0 ?_
      (conv => whnf)
      refine ⟨(by repeat (first | exact trivial | refine ⟨rfl, ?_⟩)), ⟨Nat.zero_le _, H.sx⟩, ?_⟩
      clear H
      rintro k w ⟨hk, H⟩
      dsimp only at hk H ⊢
      have hq1 := List.count_le_length (a := 1) (l := ks.take k)
      have hq2 := List.count_le_length (a := 2) (l := ks.take k)
      rw [List.length_take] at hq1 hq2
      by_cases hlt : k < ks.length
      · obtain ⟨p0, c0⟩ := hr2.at1 (g := fun u : Nat => iv (u : Int)) (fun _ => rfl) hlt
        have htk := List.take_succ_eq_append_getElem hlt
        obtain ⟨x, hx⟩ : ∃ x, x = ks[k] := ⟨_, rfl⟩
        rw [← hx] at c0 htk
        by_cases h1 : x = 1
        · rw [h1] at htk
          have n1 := (congrArg (List.count 1) htk).trans (cnt_same _ 1)
          have n2 := (congrArg (List.count 2) htk).trans (cnt_other _ (by decide))
          (first | (refine H.wg ?_; clear H; intros; rename_i w H; constructor) | refine wk ?_)
          exact ⟨(by repeat (first | exact trivial | refine ⟨rfl, ?_⟩)), k + 1, ⟨rfl, iv_succ n1, iv_same n2, trivial⟩, ⟨by omega, H.sx⟩, by omega⟩
        by_cases h2 : x = 2
        · rw [h2] at htk
          have n1 := (congrArg (List.count 1) htk).trans (cnt_other _ (by decide))
          have n2 := (congrArg (List.count 2) htk).trans (cnt_same _ 2)
          (first | (refine H.wg ?_; clear H; intros; rename_i w H; constructor) | refine wk ?_)
          exact ⟨(by repeat (first | exact trivial | refine ⟨rfl, ?_⟩)), k + 1, ⟨rfl, iv_same n1, iv_succ n2, trivial⟩, ⟨by omega, H.sx⟩, by omega⟩
        have n1 := (congrArg (List.count 1) htk).trans (cnt_other _ h1)
        have n2 := (congrArg (List.count 2) htk).trans (cnt_other _ h2)
        (first | (refine H.wg ?_; clear H; intros; rename_i w H; constructor) | refine wk ?_)
        exact ⟨(by repeat (first | exact trivial | refine ⟨rfl, ?_⟩)), k + 1, ⟨rfl, iv_same n1, iv_same n2, trivial⟩, ⟨by omega, H.sx⟩, by omega⟩
      · rw [List.take_of_length_le (by omega)] at hq1 hq2 ⊢
        obtain ⟨c1, hcc1⟩ : ∃ c, c = ks.count 1 := ⟨_, rfl⟩
        obtain ⟨c2, hcc2⟩ : ∃ c, c = ks.count 2 := ⟨_, rfl⟩
        unfold txtLs
        rw [← hcc1] at hq1
        rw [← hcc2] at hq2
        rw [← hcc1, ← hcc2, ← hX]
        by_cases hc1 : 0 < c1
        · (first | (refine H.wh ?_; clear H; intros; rename_i w H; constructor) | refine wk ?_)
          ((first | refine Rel.nwD H ?_ | refine Rel.nw H ?_); clear H; intro w bq H)
          obtain ⟨nm, hnm⟩ : ∃ nm : List UInt8, nm = lsBoth := ⟨_, rfl⟩
          replace H := H.blkEq (c' := lossC (nm, (c1 : Int))) (by rw [hnm]; rfl)
          (first | (refine H.wg ?_; clear H; intros; rename_i w H; constructor) | refine wk ?_)
          refine Rel.app1_0 (f := lossC) (s := ⟨none, 0, 0⟩) (l := X) (x := (nm, (c1 : Int))) tabOk rfl rfl rfl rfl rfl (by decide) (fun _ => rfl) (loss_one _) H (by show ((X).length + 1) * 24 ≤ _; omega) (by omega) ?_
          clear H
          intro r7 w H
          rw [hnm] at H
          clear hnm
          rw [show loss1 lsBoth c1 = [(lsBoth, (c1 : Int))] by unfold loss1; rw [if_pos hc1]]
          have hXl2 : (X ++ [(lsBoth, (c1 : Int))]).length ≤ 2 := by rw [List.length_append, List.length_singleton]; omega
          by_cases hc2 : 0 < c2
          · (first | (refine H.wh ?_; clear H; intros; rename_i w H; constructor) | refine wk ?_)
            ((first | refine Rel.nwD H ?_ | refine Rel.nw H ?_); clear H; intro w bq H)
            obtain ⟨nm, hnm⟩ : ∃ nm : List UInt8, nm = lsCr := ⟨_, rfl⟩
            replace H := H.blkEq (c' := lossC (nm, (c2 : Int))) (by rw [hnm]; rfl)
            (first | (refine H.wg ?_; clear H; intros; rename_i w H; constructor) | refine wk ?_)
            refine Rel.app1_0 (f := lossC) (s := r7) (l := X ++ [(lsBoth, (c1 : Int))]) (x := (nm, (c2 : Int))) tabOk rfl rfl rfl rfl rfl (by decide) (fun _ => rfl) (loss_one _) H (by show ((X ++ [(lsBoth, (c1 : Int))]).length + 1) * 24 ≤ _; omega) (by omega) ?_
            clear H
            intro r8 w H
            rw [hnm] at H
            clear hnm
            rw [show loss1 lsCr c2 = [(lsCr, (c2 : Int))] by unfold loss1; rw [if_pos hc2]]
            obtain ⟨V3, hV3, H, hr⟩ := Rel.freezeF H (fun _ => rfl) (by decide)
            (first | (refine H.wg ?_; clear H; intros; rename_i w H; constructor) | refine wk ?_)
            exact ⟨V3, _, hV2.trans hV3, H.sx, rfl, hr⟩
          · rw [show loss1 lsCr c2 = [] by unfold loss1; rw [if_neg hc2], List.append_nil]
            obtain ⟨V3, hV3, H, hr⟩ := Rel.freezeF H (fun _ => rfl) (by decide)
            (first | (refine H.wg ?_; clear H; intros; rename_i w H; constructor) | refine wk ?_)
            exact ⟨V3, _, hV2.trans hV3, H.sx, rfl, hr⟩
        · rw [show loss1 lsBoth c1 = [] by unfold loss1; rw [if_neg hc1], List.append_nil]
          by_cases hc2 : 0 < c2
          · (first | (refine H.wh ?_; clear H; intros; rename_i w H; constructor) | refine wk ?_)
            ((first | refine Rel.nwD H ?_ | refine Rel.nw H ?_); clear H; intro w bq H)
            obtain ⟨nm, hnm⟩ : ∃ nm : List UInt8, nm = lsCr := ⟨_, rfl⟩
            replace H := H.blkEq (c' := lossC (nm, (c2 : Int))) (by rw [hnm]; rfl)
            (first | (refine H.wg ?_; clear H; intros; rename_i w H; constructor) | refine wk ?_)
            refine Rel.app1_0 (f := lossC) (s := ⟨none, 0, 0⟩) (l := X) (x := (nm, (c2 : Int))) tabOk rfl rfl rfl rfl rfl (by decide) (fun _ => rfl) (loss_one _) H (by show ((X).length + 1) * 24 ≤ _; omega) (by omega) ?_
            clear H
            intro r8 w H
            rw [hnm] at H
            clear hnm
            rw [show loss1 lsCr c2 = [(lsCr, (c2 : Int))] by unfold loss1; rw [if_pos hc2]]
            obtain ⟨V3, hV3, H, hr⟩ := Rel.freezeF H (fun _ => rfl) (by decide)
            (first | (refine H.wg ?_; clear H; intros; rename_i w H; constructor) | refine wk ?_)
            exact ⟨V3, _, hV2.trans hV3, H.sx, rfl, hr⟩
          · rw [show loss1 lsCr c2 = [] by unfold loss1; rw [if_neg hc2], List.append_nil]
            obtain ⟨V3, hV3, H, hr⟩ := Rel.freezeF H (fun _ => rfl) (by decide)
            (first | (refine H.wg ?_; clear H; intros; rename_i w H; constructor) | refine wk ?_)
            exact ⟨V3, _, hV2.trans hV3, H.sx, rfl, hr⟩
end
end Go.Proofs.YtgnaojphgdaalaaDoor
