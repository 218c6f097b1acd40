/-
  Plain values: checkNode.
-/
import Derived.Test.YtffaffojkfalhaaGreatDoorValB
namespace Go.Proofs.YtffaffojkfalhaaGreatDoor
open Go Go.RowKit

section
variable {V W : World}
set_option maxRecDepth 100000 in
set_option maxHeartbeats 4000000 in
theorem checkNode_spec (hV : Sub V W) {h : VH} {v : Val} (hv : ValAt V h v) (hB : VB 1099511627776 v) : Ret Tryz.prog 93 [valV h].toArray W fun r w' => r = iv (nodeCode v) ∧ Rel W V [] V w' := by
  have H := Rel.start hV
  have e1 := hv.kind
  have e2 := hv.num
  have l1 := hv.bytes.len
  have l2 := hv.names.len
  have l3 := hv.plen
  have hns := hv.names
  have hnl := hB.names
  have hnc := hns.cap
  obtain ⟨k, n, bs, ss, pl⟩ := h
  dsimp only at e1 e2 l1 l2 l3 hns hnc
  subst e1 e2
  refine cal_of_sem tabOk Tryz.func93 rfl (by kernel_rfl) 88 rfl (by simp) [0, 1, 2, 3, 4, 5, 7, 12, 64, 69, 74, 75, 76, 77, 86] ?_
  refine SemC.seqGo tabOk ?_
  (first | (refine H.wh ?_; clear H; intros; rename_i w H; constructor) | refine wk ?_)
  ((first | refine Rel.nwD H ?_ | refine Rel.nw H ?_); clear H; intro w b1 H)
  (first | (refine H.wg ?_; clear H; intros; rename_i w H; constructor) | refine wk ?_)
  obtain ⟨V1, hV1, H, hb1⟩ := H.freezeBlk
  have hc1 : ∀ j u, [iv v.kind, iv v.num, bs.v, ss.v, pl.v][j]? = some u → V1.cell? ⟨b1, 0 + j, none⟩ = some u := fun j u hj => by rw [Nat.zero_add]; exact hb1.cel hj
  have hk0 : V1.cell? ⟨b1, 0, none⟩ = some (iv v.kind) := hb1.cel rfl
  replace hns := hns.up hV1
  have H0 := H
  replace H := Rel.start H.data
  refine SemC.seqGo tabOk ?_
  (first | (refine H.wg ?_; clear H; intros; rename_i w H; constructor) | refine wk ?_)
  refine SemC.seqCut tabOk (fun _ : Unit => [(1, .pointer (some ⟨b1, 0, none⟩))]) (fun _ w' => ((1 ≤ v.kind ∧ v.kind ≤ 4) ∧ ¬ formBad v ∧ v.parts.length ≤ 600 ∧ v.names.any (fun s => !nameOk s) = false) ∧ Rel w V1 [] V1 w') ?_ ?_
  · have n5 : ¬ (1 ≤ v.kind ∧ v.kind ≤ 4) → nodeCode v = 5 := fun h => by rw [nodeCode, if_pos h]
    have n6 : (1 ≤ v.kind ∧ v.kind ≤ 4) → formBad v → nodeCode v = 6 := fun h h2 => by rw [nodeCode, if_neg (by omega), if_pos h2]
    have n14 : (1 ≤ v.kind ∧ v.kind ≤ 4) → ¬ formBad v → 600 < v.parts.length → nodeCode v = 14 := fun h h2 h3 => by rw [nodeCode, if_neg (by omega), if_neg h2, if_pos h3]
    have n7 : (1 ≤ v.kind ∧ v.kind ≤ 4) → ¬ formBad v → ¬ 600 < v.parts.length → v.names.any (fun s => !nameOk s) = true → nodeCode v = 7 := fun h h2 h3 h4 => by rw [nodeCode, if_neg (by omega), if_neg h2, if_neg h3, if_pos h4]
    (first | (refine H.wh ?_; clear H; intros; rename_i w H; constructor) | refine wk ?_)
    by_cases hr : 1 ≤ v.kind ∧ v.kind ≤ 4
    rotate_left
    · ((first | refine Rel.nwD H ?_ | refine Rel.nw H ?_); clear H; intro w bh H)
      obtain ⟨V2, hV2, H, hbh⟩ := H.freezeBlk
      (first | (refine H.wg ?_; clear H; intros; rename_i w H; constructor) | refine wk ?_)
      refine (has_spec (s := ⟨some ⟨bh, 0, none⟩, 4, 4⟩) (l := [1, 2, 3, 4]) (p := 1 ≤ v.kind ∧ v.kind ≤ 4) H.data (hV2.cell hk0) ⟨rfl, Nat.le_refl _, hbh.cells⟩ (by decide) (by simp; try omega)).use ?_
      rintro v w ⟨rfl, K⟩
      (have hKb := K.base; replace H := H.call0 K)
      replace H := H.back
      (first | (refine H.wh ?_; clear H; intros; rename_i w H; constructor) | refine wk ?_)
      exact ⟨by rw [n5 hr], (H0.call H).back⟩
    ((first | refine Rel.nwD H ?_ | refine Rel.nw H ?_); clear H; intro w bh H)
    obtain ⟨V2, hV2, H, hbh⟩ := H.freezeBlk
    (first | (refine H.wg ?_; clear H; intros; rename_i w H; constructor) | refine wk ?_)
    refine (has_spec (s := ⟨some ⟨bh, 0, none⟩, 4, 4⟩) (l := [1, 2, 3, 4]) (p := 1 ≤ v.kind ∧ v.kind ≤ 4) H.data (hV2.cell hk0) ⟨rfl, Nat.le_refl _, hbh.cells⟩ (by decide) (by simp; try omega)).use ?_
    rintro v w ⟨rfl, K⟩
    (have hKb := K.base; replace H := H.call0 K)
    replace H := H.back
    (first | (refine H.wh ?_; clear H; intros; rename_i w H; constructor) | refine wk ?_)
    have n6 := n6 hr
    have n14 := n14 hr
    have n7 := n7 hr
    unfold formBad at n6 n14 n7 ⊢
    by_cases a1 : v.num = 0
    all_goals by_cases k1 : v.kind = 1
    all_goals
      (first | (refine H.wh ?_; clear H; intros; rename_i w H; constructor) | refine wk ?_)
      try (
        ((first | refine Rel.nwD H ?_ | refine Rel.nw H ?_); clear H; intro w bh H)
        obtain ⟨V2, hV2, H, hbh⟩ := H.freezeBlk
        (first | (refine H.wg ?_; clear H; intros; rename_i w H; constructor) | refine wk ?_)
        refine (has_spec (s := ⟨some ⟨bh, 0, none⟩, 1, 1⟩) (l := [1]) (p := v.kind = 1) H.data (hV2.cell hk0) ⟨rfl, Nat.le_refl _, hbh.cells⟩ (by decide) (by simp; try omega)).use ?_
        rintro v w ⟨rfl, K⟩
        (have hKb := K.base; replace H := H.call0 K)
        replace H := H.back
        (first | (refine H.wh ?_; clear H; intros; rename_i w H; constructor) | refine wk ?_)
        try exact ⟨by rw [n6 (by omega)], (H0.call H).back⟩)
    all_goals by_cases a2 : v.bytes.length = 0
    all_goals by_cases k2 : v.kind = 2
    all_goals first | (exfalso; omega) | skip
    all_goals
      (first | (refine H.wh ?_; clear H; intros; rename_i w H; constructor) | refine wk ?_)
      try (
        ((first | refine Rel.nwD H ?_ | refine Rel.nw H ?_); clear H; intro w bh H)
        obtain ⟨V2, hV2, H, hbh⟩ := H.freezeBlk
        (first | (refine H.wg ?_; clear H; intros; rename_i w H; constructor) | refine wk ?_)
        refine (has_spec (s := ⟨some ⟨bh, 0, none⟩, 1, 1⟩) (l := [2]) (p := v.kind = 2) H.data (hV2.cell hk0) ⟨rfl, Nat.le_refl _, hbh.cells⟩ (by decide) (by simp; try omega)).use ?_
        rintro v w ⟨rfl, K⟩
        (have hKb := K.base; replace H := H.call0 K)
        replace H := H.back
        (first | (refine H.wh ?_; clear H; intros; rename_i w H; constructor) | refine wk ?_)
        try exact ⟨by rw [n6 (by omega)], (H0.call H).back⟩)
    all_goals by_cases a3 : v.names.length = 0
    all_goals by_cases k4 : v.kind = 4
    all_goals first | (exfalso; omega) | skip
    all_goals
      (first | (refine H.wh ?_; clear H; intros; rename_i w H; constructor) | refine wk ?_)
      try (
        ((first | refine Rel.nwD H ?_ | refine Rel.nw H ?_); clear H; intro w bh H)
        obtain ⟨V2, hV2, H, hbh⟩ := H.freezeBlk
        (first | (refine H.wg ?_; clear H; intros; rename_i w H; constructor) | refine wk ?_)
        refine (has_spec (s := ⟨some ⟨bh, 0, none⟩, 1, 1⟩) (l := [4]) (p := v.kind = 4) H.data (hV2.cell hk0) ⟨rfl, Nat.le_refl _, hbh.cells⟩ (by decide) (by simp; try omega)).use ?_
        rintro v w ⟨rfl, K⟩
        (have hKb := K.base; replace H := H.call0 K)
        replace H := H.back
        (first | (refine H.wh ?_; clear H; intros; rename_i w H; constructor) | refine wk ?_)
        try exact ⟨by rw [n6 (by omega)], (H0.call H).back⟩)
    all_goals by_cases a4 : v.parts.length = 0
    all_goals
      (first | (refine H.wh ?_; clear H; intros; rename_i w H; constructor) | refine wk ?_)
      try (
        ((first | refine Rel.nwD H ?_ | refine Rel.nw H ?_); clear H; intro w bh H)
        obtain ⟨V2, hV2, H, hbh⟩ := H.freezeBlk
        (first | (refine H.wg ?_; clear H; intros; rename_i w H; constructor) | refine wk ?_)
        refine (has_spec (s := ⟨some ⟨bh, 0, none⟩, 2, 2⟩) (l := [3, 4]) (p := 3 ≤ v.kind) H.data (hV2.cell hk0) ⟨rfl, Nat.le_refl _, hbh.cells⟩ (by decide) (by simp; try omega)).use ?_
        rintro v w ⟨rfl, K⟩
        (have hKb := K.base; replace H := H.call0 K)
        replace H := H.back
        (first | (refine H.wh ?_; clear H; intros; rename_i w H; constructor) | refine wk ?_)
        try exact ⟨by rw [n6 (by omega)], (H0.call H).back⟩)
    all_goals by_cases a5 : v.names.length = v.parts.length
    all_goals first | (exfalso; omega) | skip
    all_goals
      (first | (refine H.wh ?_; clear H; intros; rename_i w H; constructor) | refine wk ?_)
      ((first | refine Rel.nwD H ?_ | refine Rel.nw H ?_); clear H; intro w bh H)
      obtain ⟨V2, hV2, H, hbh⟩ := H.freezeBlk
      (first | (refine H.wg ?_; clear H; intros; rename_i w H; constructor) | refine wk ?_)
      refine (has_spec (s := ⟨some ⟨bh, 0, none⟩, 1, 1⟩) (l := [4]) (p := v.kind = 4) H.data (hV2.cell hk0) ⟨rfl, Nat.le_refl _, hbh.cells⟩ (by decide) (by simp; try omega)).use ?_
      rintro v w ⟨rfl, K⟩
      (have hKb := K.base; replace H := H.call0 K)
      replace H := H.back
      (first | (refine H.wh ?_; clear H; intros; rename_i w H; constructor) | refine wk ?_)
      try exact ⟨by rw [n6 (by omega)], (H0.call H).back⟩
    all_goals by_cases a6 : 600 < v.parts.length
    all_goals first | (exfalso; omega) | skip
    all_goals
      (first | (refine H.wh ?_; clear H; intros; rename_i w H; constructor) | refine wk ?_)
      try exact ⟨by rw [n14 (by omega) a6], (H0.call H).back⟩
    all_goals
      refine (containsFunc_strs H.data hns hnl (fun s => !nameOk s) (fun x w hw => notName_spec hw x)).use ?_
      rintro r w ⟨rfl, K⟩
      (have hKb := K.base; replace H := H.call0 K)
      (first | (refine H.wh ?_; clear H; intros; rename_i w H; constructor) | refine wk ?_)
      refine condG_split (fun h1 => ?_) (fun h1 => ?_)
      · (first | (refine H.wh ?_; clear H; intros; rename_i w H; constructor) | refine wk ?_)
        exact ⟨by rw [n7 (by omega) a6 h1], (H0.call H).back⟩
      · (first | (refine H.wh ?_; clear H; intros; rename_i w H; constructor) | refine wk ?_)
        exact ⟨(), (by repeat (first | exact trivial | refine ⟨rfl, ?_⟩)), ⟨by omega, by omega, by omega, h1⟩, H⟩
  clear H
  rintro _ w ⟨⟨hr, hf, h600, hany⟩, H⟩
  have hcode : nodeCode v = if v.names.Nodup then 0 else 8 := by
    rw [nodeCode, if_neg (by omega), if_neg hf, if_neg (by omega), if_neg (by rw [hany]; simp)]
    by_cases hn : v.names.Nodup
    · rw [if_neg (by simpa using hn), if_pos hn]
    · rw [if_pos hn, if_neg hn]
  replace H : Rel W V [] V1 w := H0.call H
  refine SemC.seqGo tabOk ?_
  (first | (refine H.wg ?_; clear H; intros; rename_i w H; constructor) | refine wk ?_)
  refine loop_inv (S := Nat) tabOk [0, 1, 3, 7, 12, 64, 69, 74, 75] (fun k => [(76, iv k)]) (fun k w' => k ≤ v.names.length ∧ (v.names.take k).Nodup ∧ Rel W V [] V1 w') (fun k _ => v.names.length - k) 0 ?_
  (conv => whnf)
  refine ⟨(by repeat (first | exact trivial | refine ⟨rfl, ?_⟩)), ⟨by omega, by simp, H⟩, ?_⟩
  clear H
  rintro k w ⟨hk, hz, H⟩
  by_cases hlt : k < v.names.length
  rotate_left
  · rw [List.take_of_length_le (by omega)] at hz
    (first | (refine H.wg ?_; clear H; intros; rename_i w H; constructor) | refine wk ?_)
    refine SemC.go tabOk ?_
    (first | (refine H.wg ?_; clear H; intros; rename_i w H; constructor) | refine wk ?_)
    exact ⟨by rw [hcode, if_pos hz], H.back⟩
  obtain ⟨hp, hc⟩ := hns.get1 (g := str) (fun _ => rfl) hlt
  (first | (refine H.wg ?_; clear H; intros; rename_i w H; constructor) | refine wk ?_)
  refine (contains_strs H.data (hns.ctake (n := 1) (fun _ => rfl) (b := k) (by omega)) (by simp; omega) v.names[k]).use ?_
  rintro r w ⟨rfl, K⟩
  (have hKb := K.base; replace H := H.call0 K)
  refine condG_dec (fun h5 => ?_) (fun h5 => ?_)
  · (first | (refine H.wg ?_; clear H; intros; rename_i w H; constructor) | refine wk ?_)
    refine ⟨?_, H.back⟩
    rw [hcode, if_neg]
    intro hn
    have h6 := hn.sublist (List.take_sublist (k + 1) v.names)
    rw [List.take_succ_eq_append_getElem hlt, List.nodup_append] at h6
    exact h6.2.2 _ h5 _ (by simp) rfl
  · (first | (refine H.wg ?_; clear H; intros; rename_i w H; constructor) | refine wk ?_)
    refine ⟨(by repeat (first | exact trivial | refine ⟨rfl, ?_⟩)), k + 1, (by repeat (first | exact trivial | refine ⟨rfl, ?_⟩)), ⟨by omega, ?_, H⟩, by omega⟩
    rw [List.take_succ_eq_append_getElem hlt, List.nodup_append]
    exact ⟨hz, by simp, fun a ha b hb => by rw [List.mem_singleton.1 hb]; exact fun e => h5 (e ▸ ha)⟩
end
end Go.Proofs.YtffaffojkfalhaaGreatDoor
namespace Go.Proofs.YtffaffojkfalhaaGreatDoor
open Go Go.RowKit

section
variable {V W : World}
theorem fault_value (hV : Sub V W) (c i : Int) : Ret Tryz.prog 77 [iv c, iv i].toArray W fun v w' => v = faultV c i ∧ Rel W V [] V w' := by
  have H := Rel.start hV
  refine cal_of_vc tabOk Tryz.func77 rfl (by kernel_rfl) 8 rfl (by simp) [0, 1, 4] ?_
  (first | (refine H.wg ?_; clear H; intros; rename_i w H; constructor) | refine wk ?_)
  exact H.sx
/-- what check returns -/
def chkV (r : Except (Int × Int) Nat) (v : Value) : Prop := match r with
  | .ok m => v = .tuple #[iv m, faultV 0 0]
  | .error e => v = .tuple #[iv 0, faultV e.1 e.2] ∧ e.1 ≠ 0
theorem atCode_ne {v : Val} {n d : Nat} (h : atCode v n d ≠ 0) : atCode v n d ≠ 0 := h
theorem scan_error : ∀ {l : List (Val × Nat)} {n : Nat} {e : Int × Int}, scan l n = .error e → e.1 ≠ 0
  | [], n, e, h => by simp [scan] at h
  | (v, d) :: l, n, e, h => by
    simp only [scan] at h
    split at h
    · rename_i h1; cases h; exact h1
    · exact scan_error h
theorem chk_le {d n m : Nat} {v : Val} (h : chk d v n = .ok m) : n < m := by
  obtain ⟨h1, _⟩ := scan_bounds _ _ _ h
  rw [pre_eq] at h1
  simp at h1
  omega
theorem chkL_le {d n m : Nat} {ps : List Val} (h : chkL d ps n = .ok m) : n ≤ m := by
  obtain ⟨h1, _⟩ := scan_bounds _ _ _ h
  omega
theorem chk_ub {d n m : Nat} {v : Val} (h : chk d v n = .ok m) : m ≤ 600 := by
  obtain ⟨h1, h2⟩ := scan_bounds _ _ _ h
  rcases Nat.lt_or_ge 600 m with h3 | h3
  · have h0 := chk_le h
    have h4 : m - 1 - n < (pre d v).length := by omega
    have h5 := h2 (m - 1 - n) ((pre d v)[m - 1 - n]).1 ((pre d v)[m - 1 - n]).2 (by rw [List.getElem?_eq_getElem h4])
    unfold atCode at h5
    rw [if_pos (by omega)] at h5
    cases h5
  · exact h3
set_option maxRecDepth 100000 in
set_option maxHeartbeats 1000000 in
theorem check_spec : ∀ (N : Nat) {V W : World}, Sub V W → ∀ {h : VH} {v : Val} {n d : Nat}, SizeOf.sizeOf v < N → ValAt V h v → VB 1099511627776 v → n ≤ 1000 → d ≤ 1000 →
    Ret Tryz.prog 75 [valV h, iv n, iv (d + 1)].toArray W fun r w' => chkV (chk d v n) r ∧ Rel W V [] V w' := by
  intro N
  induction N with
  | zero => intro V W _ h v n d hs; omega
  | succ N ih =>
    intro V W hV h v n d hs hv hB hn hd
    have H := Rel.start hV
    have l3 := hv.plen
    have hpl := hB.parts
    have e0 := chk_eq d v n
    refine cal_of_vc tabOk Tryz.func75 rfl (by kernel_rfl) 52 rfl (by simp) [0, 1, 2, 3, 6, 7, 8, 9, 11, 12, 18, 24, 31, 32, 33, 34, 47] ?_
    (first | (refine H.wh ?_; clear H; intros; rename_i w H; constructor) | refine wk ?_)
    ((first | refine Rel.nwD H ?_ | refine Rel.nw H ?_); clear H; intro w b3 H)
    (first | (refine H.wh ?_; clear H; intros; rename_i w H; constructor) | refine wk ?_)
    ((first | refine Rel.nwD H ?_ | refine Rel.nw H ?_); clear H; intro w b7 H)
    by_cases hnd : 600 ≤ n ∨ 10 ≤ d
    · have e1 : chk d v n = .error (2, n) := by
        rw [e0, if_pos (by rw [atCode, if_pos hnd]; decide), atCode, if_pos hnd]
      rw [e1]
      by_cases hn6 : 600 ≤ n
      all_goals
        (first | (refine H.wg ?_; clear H; intros; rename_i w H; constructor) | refine wk ?_)
        refine (fault_value H.data 2 n).use ?_
        rintro r w ⟨rfl, K⟩
        (have hKb := K.base; replace H := H.call0 K)
        (first | (refine H.wg ?_; clear H; intros; rename_i w H; constructor) | refine wk ?_)
        exact ⟨⟨rfl, by show (2 : Int) ≠ 0; decide⟩, H.sx⟩
    (first | (refine H.wg ?_; clear H; intros; rename_i w H; constructor) | refine wk ?_)
    refine (checkNode_spec H.data hv hB).use ?_
    rintro r w ⟨rfl, K⟩
    (have hKb := K.base; replace H := H.call0 K)
    have e1 : atCode v n d = nodeCode v := by rw [atCode, if_neg hnd]
    rw [e1] at e0
    by_cases hz : nodeCode v = 0
    rotate_left
    · rw [if_pos hz] at e0
      rw [e0]
      (first | (refine H.wg ?_; clear H; intros; rename_i w H; constructor) | refine wk ?_)
      refine (fault_value H.data (nodeCode v) n).use ?_
      rintro r w ⟨rfl, K⟩
      (have hKb := K.base; replace H := H.call0 K)
      (first | (refine H.wg ?_; clear H; intros; rename_i w H; constructor) | refine wk ?_)
      exact ⟨⟨rfl, hz⟩, H.sx⟩
    rw [if_neg (fun h => h hz)] at e0
    obtain ⟨_, _, h600, _⟩ := nodeCode_zero hz
    (first | (refine H.wg ?_; clear H; intros; rename_i w H; constructor) | refine wk ?_)
    refine loop_inv (S := Nat × Nat) tabOk [0, 1, 2, 3, 7, 8, 18, 24, 31, 32] (fun k => [(9, iv k.2), (33, iv k.1)]) (fun k w' => k.1 ≤ v.parts.length ∧ chkL (d + 1) (v.parts.take k.1) (n + 1) = .ok k.2 ∧ k.2 ≤ 601 ∧ Rel W V [.blk b7 [iv 0, iv 0] 29, .blk b3 (valC h) 27] V w') (fun k _ => v.parts.length - k.1) (0, n + 1) ?_
    (conv => whnf)
    refine ⟨(by repeat (first | exact trivial | refine ⟨rfl, ?_⟩)), ⟨by omega, rfl, by omega, H.sx⟩, ?_⟩
    clear H
    rintro ⟨k, m⟩ w ⟨hk, hck, hm, H⟩
    dsimp only at hk hck hm H
    by_cases hlt : k < v.parts.length
    rotate_left
    · rw [List.take_of_length_le (by omega)] at hck
      (first | (refine H.wg ?_; clear H; intros; rename_i w H; constructor) | refine wk ?_)
      rw [e0, hck]
      exact ⟨rfl, H.sx⟩
    obtain ⟨hp, x, hx, q0, q1, q2, q3, q4⟩ := hv.part5 hlt
    have hmem := List.getElem_mem hlt
    have hck1 : chkL (d + 1) (v.parts.take (k + 1)) (n + 1) = chk (d + 1) v.parts[k] m := by
      rw [List.take_succ_eq_append_getElem hlt, chkL_snoc, hck]
    have hall : ∀ e, chk (d + 1) v.parts[k] m = .error e → chkL (d + 1) v.parts (n + 1) = .error e := by
      intro e he
      rw [he] at hck1
      unfold chkL at hck1 ⊢
      conv => lhs; rw [← List.take_append_drop (k + 1) v.parts, List.flatMap_append, scan_append, hck1]
    (first | (refine H.wh ?_; clear H; intros; rename_i w H; constructor) | refine wk ?_)
    ((first | refine Rel.nwD H ?_ | refine Rel.nw H ?_); clear H; intro w b11 H)
    (first | (refine H.wh ?_; clear H; intros; rename_i w H; constructor) | refine wk ?_)
    ((first | refine Rel.nwD H ?_ | refine Rel.nw H ?_); clear H; intro w b12 H)
    (first | (refine H.wg ?_; clear H; intros; rename_i w H; constructor) | refine wk ?_)
    refine (ih H.data (n := m) (d := d + 1) (by have := Val.part_lt hmem; omega) hx (hB.part _ hmem) (by omega) (by omega)).use ?_
    rintro r w ⟨hr, K⟩
    (have hKb := K.base; replace H := H.call0 K)
    cases hq : chk (d + 1) v.parts[k] m with
    | ok m' =>
      rw [hq] at hr
      have hr : r = .tuple #[iv m', faultV 0 0] := hr
      subst hr
      have := chk_ub hq
      (first | (refine H.wg ?_; clear H; intros; rename_i w H; constructor) | refine wk ?_)
      exact ⟨(by repeat (first | exact trivial | refine ⟨rfl, ?_⟩)), (k + 1, m'), (by repeat (first | exact trivial | refine ⟨rfl, ?_⟩)), ⟨by omega, by rw [hck1, hq], by omega, H.sx⟩, by dsimp only; omega⟩
    | error e =>
      rw [hq] at hr
      obtain ⟨rfl, hne⟩ := hr
      have := hall e hq
      rw [e0, this]
      (first | (refine H.wg ?_; clear H; intros; rename_i w H; constructor) | refine wk ?_)
      ((first | refine draw_vc (id := 13) tabOk mixed [] [0, 1, 2] (by kernel_rfl) ?_); intro w hdw; replace H := Rel.ext H hdw.ext)
      (first | (refine H.wg ?_; clear H; intros; rename_i w H; constructor) | refine wk ?_)
      exact ⟨⟨rfl, hne⟩, H.sx⟩
end
end Go.Proofs.YtffaffojkfalhaaGreatDoor
