/-
  tree files: the law from of every converter.
-/
import Derived.Test.YtffaffojkfalhaaGreatDoorTreX
import Derived.Test.YtffaffojkfalhaaGreatDoorTreI
import Derived.Test.YtffaffojkfalhaaGreatDoorVcW
import Derived.Test.YtffaffojkfalhaaGreatDoorValP
namespace Go.Proofs.YtffaffojkfalhaaGreatDoor
open Go Go.RowKit

section
open Go.ChangeShapes Go.WideShapes Go.ChangeAt
section
variable {H : Type} {enc : TypeId × Value → H} {W : World}
set_option maxRecDepth 100000 in
theorem rd_value : ∀ (n : Nat) (cs : List Value) (d : DataW H), RdF enc Tryz.prog W n 27 cs d → ∃ (h : VH) (v : Val), cs = valC h ∧ ValAt W h v ∧ VB (Rows.uptoBulk d) v := by
  intro n
  induction n using Nat.strongRecOn with
  | ind n ih =>
    intro cs d h
    have hl : cs.length = 5 := (rd_structF Tryz.underlying27 h).1.trans (by kernel_rfl)
    obtain ⟨k0, d0, _, h0, _⟩ := rd_fieldF Tryz.underlying27 h 0 3 0 1 rfl (by kernel_rfl)
    obtain ⟨k1, d1, _, h1, _⟩ := rd_fieldF Tryz.underlying27 h 1 3 1 1 rfl (by kernel_rfl)
    obtain ⟨k2, d2, _, h2, b2⟩ := rd_fieldF Tryz.underlying27 h 2 22 2 1 rfl (by kernel_rfl)
    obtain ⟨k3, d3, _, h3, b3⟩ := rd_fieldF Tryz.underlying27 h 3 24 3 1 rfl (by kernel_rfl)
    obtain ⟨k4, d4, l4, h4, b4⟩ := rd_fieldF Tryz.underlying27 h 4 25 4 1 rfl (by kernel_rfl)
    obtain ⟨x0, e0, i0⟩ := rd_int Tryz.underlying3 h0.rd
    obtain ⟨x1, e1, i1⟩ := rd_int Tryz.underlying3 h1.rd
    obtain ⟨s2, y2, e2, g2, _, n2⟩ := rd_slice Tryz.underlying22 (f := byC) (n := 1) (R := fun _ => True) (by omega) (by kernel_rfl) (fun _ => rfl) (fun _ _ h => let ⟨l, hl⟩ := rd_u8 Tryz.underlying5 h; ⟨l, hl, trivial⟩) h2.rd
    obtain ⟨s3, y3, e3, g3, r3, n3⟩ := rd_sliceF Tryz.underlying24 (f := strC) (n := 1) (R := fun s => s.length ≤ Rows.uptoBulk d3) (by omega) (by kernel_rfl) (fun _ => rfl) (fun _ _ d' _ hb h => let ⟨l, hl, hn⟩ := rd_str Tryz.underlying9 h.rd; ⟨l, hl, Nat.le_trans hn hb⟩) h3
    obtain ⟨s4, y4, e4, g4, r4, n4⟩ := rd_sliceF Tryz.underlying25 (f := valC) (n := 5) (R := fun x => ∃ v, ValAt W x v ∧ VB (Rows.uptoBulk d4) v) (by omega) (by kernel_rfl) (fun _ => rfl) (fun k cs d' hk hb h => by
      obtain ⟨x, v, q1, q2, q3⟩ := ih k (by omega) cs d' h
      exact ⟨x, q1, v, q2, q3.mono hb⟩) h4
    obtain ⟨vs, p1, p2⟩ := pick_list r4
    refine ⟨⟨x0, x1, s2, s3, s4⟩, .mk x0 x1 y2 y3 vs, ?_, .mk y4 rfl rfl g2 g3 g4 p1.symm (fun i x p hx hp => (p2 i x p hx hp).1), .mk i0 i1 (by show y2.length ≤ _; omega) (by show y3.length ≤ _; omega) (fun s hs => Nat.le_trans (r3 s hs) b3) (by show vs.length ≤ _; omega) (fun p hp => ?_)⟩
    · have := dropSplit cs 0 1
      rw [e0, dropSplit cs (0 + 1) 1, e1, dropSplit cs (0 + 1 + 1) 1, e2, dropSplit cs (0 + 1 + 1 + 1) 1, e3, dropSplit cs (0 + 1 + 1 + 1 + 1) 1, e4, show cs.drop (0 + 1 + 1 + 1 + 1 + 1) = [] from List.drop_of_length_le (by omega)] at this
      rw [List.drop_zero] at this
      rw [this]
      rfl
    · obtain ⟨i, hi, rfl⟩ := List.getElem_of_mem hp
      have hi : i < vs.length := hi
      exact (p2 i y4[i] vs[i] (List.getElem?_eq_getElem (by omega)) (List.getElem?_eq_getElem hi)).2.mono b4
set_option maxRecDepth 100000 in
theorem open_value {r : Reach} {b0 : Nat} {v : Value} {d : DataW H} {ps : List MemPlace} (hval : Value.okWide Tryz.prog W r b0 27 v) (hd : DataW.Trod enc Tryz.prog W 0 (fun _ => true) true 27 v d ps) :
    ∃ (h : VH) (x : Val), v = valV h ∧ ValAt W h x ∧ VB (Rows.uptoBulk d) x := by
  obtain ⟨cs, rfl, hc⟩ := open_agg Tryz.underlying27 hval
  obtain ⟨n, hn⟩ := hd
  rw [hc] at hn
  obtain ⟨h, x, rfl, h1, h2⟩ := rd_value n cs d ⟨ps, hn⟩
  exact ⟨h, x, rfl, h1, h2⟩
end
end

/- Same of two values that are alike -/
set_option maxRecDepth 100000 in
set_option maxHeartbeats 2000000 in
theorem law_tree_from {W : World} (hE : NumT W) {h : VH} {v : Val} {s : Sl} {b : List UInt8} (hv : ValAt W h v) (hB : VB 1048576 v) (hs0 : By W s b) (hl : b.length ≤ 1048576) : Ret Tryz.prog 4 [valV h, s.v].toArray W fun v w' => v = .bool true ∧ Ext W w' := by
  have H := Rel.start (Sub.refl W)
  have hs := hs0.slf
  have hlen := hs.len
  have hv0 := hv
  obtain ⟨k, n, bs, ss, pl⟩ := h
  change Ret Tryz.prog 4 [.agg [iv k, iv n, bs.v, ss.v, pl.v].toArray, s.v].toArray W _
  refine cal_of_vc tabOk Tryz.func4 rfl (by kernel_rfl) 55 rfl (by simp) [0, 1, 2, 4, 5, 6, 7, 8, 9, 11, 22, 38] ?_
  (first | (refine H.wh ?_; clear H; intros; rename_i w H; constructor) | refine wk ?_)
  ((first | refine Rel.nwD H ?_ | refine Rel.nw H ?_); clear H; intro w b2 H)
  (first | (refine H.wg ?_; clear H; intros; rename_i w H; constructor) | refine wk ?_)
  refine (example_tree H.data hE).use ?_
  rintro q w ⟨rfl, V1, hV1, K⟩
  (have hKb := K.base; replace H := H.call0 K)
  (first | (refine H.wg ?_; clear H; intros; rename_i w H; constructor) | refine wk ?_)
  refine (from_tree H.data (hE.up hV1) (hv0.up hV1) hB (hs.up hV1) (by omega)).use ?_
  rintro q w ⟨V2, r, hV2, K, rfl, hr⟩
  (have hKb := K.base; replace H := H.call0 K)
  have hV12 := hV1.trans hV2
  by_cases hvf : (vfault v).1 = 0
  rotate_left
  · have e : frRes v (treShape v).isSome (treMake v b) = ([], vfault v) := by unfold frRes; rw [if_pos hvf]
    rw [e] at hr ⊢
    dsimp only at hr ⊢
    have hrl : r.len = 0 := hr.len
    (first | (refine H.wh ?_; clear H; intros; rename_i w H; constructor) | refine wk ?_)
    ((first | refine Rel.nwD H ?_ | refine Rel.nw H ?_); clear H; intro w b6 H)
    (first | (refine H.wg ?_; clear H; intros; rename_i w H; constructor) | refine wk ?_)
    refine (valueFault_ref H.data (hv0.up hV12) hB).use ?_
    rintro q w ⟨rfl, K⟩
    (have hKb := K.base; replace H := H.call0 K)
    (first | (refine H.wh ?_; clear H; intros; rename_i w H; constructor) | refine wk ?_)
    ((first | refine Rel.nwD H ?_ | refine Rel.nw H ?_); clear H; intro w b7 H)
    (first | (refine H.wg ?_; clear H; intros; rename_i w H; constructor) | refine wk ?_)
    first | exact H.base | exact ⟨rfl, H.base⟩ | exact ⟨by rw [hrl]; rfl, H.base⟩
  have hzz := vfault_zz hvf
  have hsh : (treShape v).isSome = true := rfl
  cases hm : treMake v b with
  | none =>
    have e : frRes v true none = ([], 6, -2) := by unfold frRes; rw [if_neg (fun h => h hvf)]; rfl
    rw [hsh, hm, e] at hr
    rw [hsh, e]
    have hrl : r.len = 0 := hr.len
    (first | (refine H.wh ?_; clear H; intros; rename_i w H; constructor) | refine wk ?_)
    ((first | refine Rel.nwD H ?_ | refine Rel.nw H ?_); clear H; intro w b6 H)
    (first | (refine H.wg ?_; clear H; intros; rename_i w H; constructor) | refine wk ?_)
    refine (valueFault_ref H.data (hv0.up hV12) hB).use ?_
    rintro q w ⟨rfl, K⟩
    (have hKb := K.base; replace H := H.call0 K)
    rw [hzz]
    (first | (refine H.wh ?_; clear H; intros; rename_i w H; constructor) | refine wk ?_)
    ((first | refine Rel.nwD H ?_ | refine Rel.nw H ?_); clear H; intro w b7 H)
    (first | (refine H.wg ?_; clear H; intros; rename_i w H; constructor) | refine wk ?_)
    refine (trrFile_g H.data (hv0.up hV12) hB hvf hsh (hs.up hV12) (by omega)).use ?_
    rintro q w ⟨V3, r3, b3, k3, hV3, K, rfl, hr3, hk3⟩
    (have hKb := K.base; replace H := H.call0 K)
    rw [hm] at hk3
    dsimp only at hk3
    subst hk3
    (first | (refine H.wg ?_; clear H; intros; rename_i w H; constructor) | refine wk ?_)
    ((first | refine draw_vc (id := 9) tabOk mixed [1] [0, 1, 2, 3, 4, 5, 6, 7, 8] (by kernel_rfl) ?_); intro w hdw; replace H := Rel.ext H hdw.ext)
    (first | (refine H.wg ?_; clear H; intros; rename_i w H; constructor) | refine wk ?_)
    refine (at_ref H.data 6 (-2)).use ?_
    rintro q w ⟨rfl, K⟩
    (have hKb := K.base; replace H := Rel.call H K)
    simp only [List.cons_append, List.nil_append] at H
    (first | (refine H.wg ?_; clear H; intros; rename_i w H; constructor) | refine wk ?_)
    first | exact H.base | exact ⟨rfl, H.base⟩ | exact ⟨by rw [hrl]; rfl, H.base⟩
  | some o =>
    have e : frRes v true (some o) = (o, 0, 0) := by unfold frRes; rw [if_neg (fun h => h hvf)]; rfl
    rw [hsh, hm, e] at hr
    rw [hsh, e]
    (first | (refine H.wh ?_; clear H; intros; rename_i w H; constructor) | refine wk ?_)
    ((first | refine Rel.nwD H ?_ | refine Rel.nw H ?_); clear H; intro w b6 H)
    (first | (refine H.wg ?_; clear H; intros; rename_i w H; constructor) | refine wk ?_)
    refine (valueFault_ref H.data (hv0.up hV12) hB).use ?_
    rintro q w ⟨rfl, K⟩
    (have hKb := K.base; replace H := H.call0 K)
    rw [hzz]
    (first | (refine H.wh ?_; clear H; intros; rename_i w H; constructor) | refine wk ?_)
    ((first | refine Rel.nwD H ?_ | refine Rel.nw H ?_); clear H; intro w b7 H)
    (first | (refine H.wg ?_; clear H; intros; rename_i w H; constructor) | refine wk ?_)
    refine (trrFile_g H.data (hv0.up hV12) hB hvf hsh (hs.up hV12) (by omega)).use ?_
    rintro q w ⟨V3, r3, b3, k3, hV3, K, rfl, hr3, hk3⟩
    (have hKb := K.base; replace H := H.call0 K)
    rw [hm] at hk3
    obtain ⟨rfl, rfl⟩ := hk3
    (first | (refine H.wg ?_; clear H; intros; rename_i w H; constructor) | refine wk ?_)
    refine (bytes_ref H.data (hr.up hV3) hr3).use ?_
    rintro q w ⟨rfl, K⟩
    (have hKb := K.base; replace H := Rel.call H K)
    simp only [List.cons_append, List.nil_append] at H
    rw [decide_eq_true rfl]
    (first | (refine H.wg ?_; clear H; intros; rename_i w H; constructor) | refine wk ?_)
    (first | exact H.base | exact ⟨by simp, H.base⟩ | exact ⟨rfl, H.base⟩)
end Go.Proofs.YtffaffojkfalhaaGreatDoor
