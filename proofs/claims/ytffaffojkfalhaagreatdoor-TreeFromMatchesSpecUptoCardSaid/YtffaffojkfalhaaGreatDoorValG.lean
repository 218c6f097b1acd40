/-
  Plain values: Same; nodeCode and nodeSize of the reference.
-/
import Derived.Test.YtffaffojkfalhaaGreatDoorValE
import Derived.Test.YtffaffojkfalhaaGreatDoorStrA
namespace Go.Proofs.YtffaffojkfalhaaGreatDoor
open Go Go.RowKit

theorem Val.ext {a b : Val} (h1 : a.kind = b.kind) (h2 : a.num = b.num) (h3 : a.bytes = b.bytes) (h4 : a.names = b.names) (h5 : a.parts = b.parts) : a = b := by
  cases a; cases b
  simp only [Val.kind, Val.num, Val.bytes, Val.names, Val.parts] at h1 h2 h3 h4 h5
  subst h1 h2 h3 h4 h5
  rfl
section
variable {V W : World}
set_option maxRecDepth 100000 in
set_option maxHeartbeats 1000000 in
theorem same_value : ∀ (N : Nat) {V W : World}, Sub V W → ∀ {h h' : VH} {a b : Val}, SizeOf.sizeOf a < N → ValAt V h a → ValAt V h' b → VB 1099511627776 a →
    Ret Tryz.prog 12 [valV h, valV h'].toArray W fun q w' => ∃ r : Bool, q = .bool r ∧ (r = true ↔ a = b) ∧ Rel W V [] V w' := by
  intro N
  induction N with
  | zero => intro V W _ h h' a b hs; omega
  | succ N ih =>
    intro V W hV h h' a b hs ha hb hB
    have H := Rel.start hV
    have l3 := ha.plen
    have l3' := hb.plen
    have hpl := hB.parts
    have hnl := hB.names
    have e1 := ha.kind
    have e2 := ha.num
    have f1 := hb.kind
    have f2 := hb.num
    have hns := ha.names
    have hns' := hb.names
    have hbs := ha.bytes
    have hbs' := hb.bytes
    obtain ⟨hk, hn, bs, ss, pl⟩ := h
    obtain ⟨hk', hn', bs', ss', pl'⟩ := h'
    dsimp only at e1 e2 l3 hns hbs f1 f2 l3' hns' hbs'
    subst e1 e2 f1 f2
    change Ret Tryz.prog 12 [.agg [iv a.kind, iv a.num, bs.v, ss.v, pl.v].toArray, .agg [iv b.kind, iv b.num, bs'.v, ss'.v, pl'.v].toArray].toArray W _
    refine cal_of_vc tabOk Tryz.func12 rfl (by kernel_rfl) 62 rfl (by simp) [0, 1, 2, 3, 4, 5, 42, 47, 61] ?_
    (first | (refine H.wh ?_; clear H; intros; rename_i w H; constructor) | refine wk ?_)
    ((first | refine Rel.nwD H ?_ | refine Rel.nw H ?_); clear H; intro w b2 H)
    (first | (refine H.wh ?_; clear H; intros; rename_i w H; constructor) | refine wk ?_)
    ((first | refine Rel.nwD H ?_ | refine Rel.nw H ?_); clear H; intro w b3 H)
    by_cases c1 : a.kind = b.kind
    rotate_left
    · (first | (refine H.wg ?_; clear H; intros; rename_i w H; constructor) | refine wk ?_)
      exact ⟨false, rfl, ⟨fun h => (by cases h), fun h => absurd (by rw [h]) c1⟩, H.sx⟩
    by_cases c2 : a.num = b.num
    rotate_left
    · (first | (refine H.wg ?_; clear H; intros; rename_i w H; constructor) | refine wk ?_)
      exact ⟨false, rfl, ⟨fun h => (by cases h), fun h => absurd (by rw [h]) c2⟩, H.sx⟩
    (first | (refine H.wg ?_; clear H; intros; rename_i w H; constructor) | refine wk ?_)
    refine (bytes_ref H.data hbs hbs').use ?_
    rintro q w ⟨rfl, K⟩
    (have hKb := K.base; replace H := H.call0 K)
    by_cases c3 : a.bytes = b.bytes
    rotate_left
    · rw [decide_eq_false c3]
      (first | (refine H.wg ?_; clear H; intros; rename_i w H; constructor) | refine wk ?_)
      exact ⟨false, rfl, ⟨fun h => (by cases h), fun h => absurd (by rw [h]) c3⟩, H.sx⟩
    rw [decide_eq_true c3]
    (first | (refine H.wg ?_; clear H; intros; rename_i w H; constructor) | refine wk ?_)
    refine (strings_ref H.data hns hns' hnl).use ?_
    rintro q w ⟨rfl, K⟩
    (have hKb := K.base; replace H := H.call0 K)
    by_cases c4 : a.names = b.names
    rotate_left
    · rw [decide_eq_false c4]
      (first | (refine H.wg ?_; clear H; intros; rename_i w H; constructor) | refine wk ?_)
      exact ⟨false, rfl, ⟨fun h => (by cases h), fun h => absurd (by rw [h]) c4⟩, H.sx⟩
    rw [decide_eq_true c4]
    by_cases c5 : a.parts.length = b.parts.length
    rotate_left
    · (first | (refine H.wg ?_; clear H; intros; rename_i w H; constructor) | refine wk ?_)
      exact ⟨false, rfl, ⟨fun h => (by cases h), fun h => absurd (by rw [h]) c5⟩, H.sx⟩
    (first | (refine H.wg ?_; clear H; intros; rename_i w H; constructor) | refine wk ?_)
    refine loop_inv (S := Nat) tabOk [0, 1, 2, 3, 42] (fun k => [(5, iv k)]) (fun k w' => k ≤ a.parts.length ∧ a.parts.take k = b.parts.take k ∧ Rel W V [.blk b3 [iv b.kind, iv b.num, bs'.v, ss'.v, pl'.v] 27, .blk b2 [iv a.kind, iv a.num, bs.v, ss.v, pl.v] 27] V w') (fun k _ => a.parts.length - k) 0 ?_
    (conv => whnf)
    refine ⟨(by repeat (first | exact trivial | refine ⟨rfl, ?_⟩)), ⟨by omega, rfl, H.sx⟩, ?_⟩
    clear H
    rintro k w ⟨hk, hz, H⟩
    by_cases hlt : k < a.parts.length
    rotate_left
    · rw [List.take_of_length_le (by omega), List.take_of_length_le (by omega)] at hz
      (first | (refine H.wg ?_; clear H; intros; rename_i w H; constructor) | refine wk ?_)
      exact ⟨true, rfl, ⟨fun _ => Val.ext c1 c2 c3 c4 hz, fun _ => rfl⟩, H.sx⟩
    have hlt' : k < b.parts.length := by omega
    obtain ⟨hp, x, hx, q0, q1, q2, q3, q4⟩ := ha.part5 hlt
    obtain ⟨hp', x', hx', q0', q1', q2', q3', q4'⟩ := hb.part5 hlt'
    have hmem := List.getElem_mem hlt
    (first | (refine H.wg ?_; clear H; intros; rename_i w H; constructor) | refine wk ?_)
    ((first | refine draw_vc (id := 6) tabOk mixed [] [0, 1, 2, 3, 4, 5, 6, 7, 8, 9, 10, 11] (by kernel_rfl) ?_); intro w hdw; replace H := Rel.ext H hdw.ext)
    (first | (refine H.wg ?_; clear H; intros; rename_i w H; constructor) | refine wk ?_)
    refine (ih H.data (by have := Val.part_lt hmem; omega) hx hx' (hB.part _ hmem)).use ?_
    rintro q w ⟨r, rfl, hr, K⟩
    (have hKb := K.base; replace H := H.call0 K)
    cases r with
    | false =>
      have hne : ¬ a.parts[k] = b.parts[k] := fun h => by have := hr.2 h; cases this
      (first | (refine H.wg ?_; clear H; intros; rename_i w H; constructor) | refine wk ?_)
      refine ⟨false, rfl, ⟨fun h => (by cases h), fun h => absurd ?_ hne⟩, H.sx⟩
      subst h
      rfl
    | true =>
      have he := hr.1 rfl
      (first | (refine H.wg ?_; clear H; intros; rename_i w H; constructor) | refine wk ?_)
      refine ⟨(by repeat (first | exact trivial | refine ⟨rfl, ?_⟩)), k + 1, (by repeat (first | exact trivial | refine ⟨rfl, ?_⟩)), ⟨by omega, ?_, H.sx⟩, by omega⟩
      rw [List.take_succ_eq_append_getElem hlt, List.take_succ_eq_append_getElem hlt', hz, he]
set_option maxRecDepth 100000 in
theorem nodeSize_ref (hV : Sub V W) {h : VH} {v : Val} (hv : ValAt V h v) (hB : VB 1048576 v) (hz : nodeCode v = 0) : Ret Tryz.prog 41 [valV h].toArray W fun q w' => q = iv (nodeSz v) ∧ Rel W V [] V w' := by
  have H := Rel.start hV
  have l3 := hv.plen
  have e1 := hv.kind
  have e2 := hv.num
  have hns := hv.names
  have hbs := hv.bytes
  have l2 := hns.len
  have l1 := hbs.len
  obtain ⟨hr, hf, h600, hna, _⟩ := nodeCode_zero hz
  unfold formBad at hf
  have hn64 := hB.num
  have hbl := hB.bytes
  obtain ⟨hk, hn, bs, ss, pl⟩ := h
  dsimp only at e1 e2 l1 l2 l3 hns hbs
  subst e1 e2
  change Ret Tryz.prog 41 [.agg [iv v.kind, iv v.num, bs.v, ss.v, pl.v].toArray].toArray W _
  have F : nodeSz v = _ := nodeSz.eq_1 v
  refine cal_of_vc tabOk Tryz.func41 rfl (by kernel_rfl) 48 rfl (by simp) [0, 1, 2, 3, 4, 7, 15, 19, 35] ?_
  (first | (refine H.wh ?_; clear H; intros; rename_i w H; constructor) | refine wk ?_)
  ((first | refine Rel.nwD H ?_ | refine Rel.nw H ?_); clear H; intro w b1 H)
  by_cases k1 : v.kind = 1
  · rw [if_pos k1] at F
    (first | (refine H.wg ?_; clear H; intros; rename_i w H; constructor) | refine wk ?_)
    refine (put_ref (n := v.num) H.data hn64).use ?_
    rintro q w ⟨r, rfl, K⟩
    (have hKb := K.base; replace H := Rel.call H K)
    simp only [List.cons_append, List.nil_append] at H
    have hrl := H.rowLen (i := 0) rfl (fun _ => rfl) (by decide)
    have hp := putN_len hn64.1 hn64.2
    (first | (refine H.wg ?_; clear H; intros; rename_i w H; constructor) | refine wk ?_)
    refine ⟨?_, H.sx⟩
    rw [F, hrl]
    rfl
  rw [if_neg k1] at F
  by_cases k2 : v.kind = 2
  · rw [if_pos k2] at F
    by_cases h4 : 4000 < v.bytes.length
    · rw [if_pos h4] at F
      (first | (refine H.wg ?_; clear H; intros; rename_i w H; constructor) | refine wk ?_)
      rw [F]
      exact ⟨rfl, H.sx⟩
    rw [if_neg h4] at F
    have hp := putC_len (b := v.bytes) (by omega)
    (first | (refine H.wg ?_; clear H; intros; rename_i w H; constructor) | refine wk ?_)
    refine (putChunk_ref H.data hbs (by omega)).use ?_
    rintro q w ⟨r, rfl, K⟩
    (have hKb := K.base; replace H := Rel.call H K)
    simp only [List.cons_append, List.nil_append] at H
    have hrl := H.rowLen (i := 0) rfl (fun _ => rfl) (by decide)
    (first | (refine H.wg ?_; clear H; intros; rename_i w H; constructor) | refine wk ?_)
    refine ⟨?_, H.sx⟩
    rw [F, hrl]
    rfl
  rw [if_neg k2] at F
  (first | (refine H.wg ?_; clear H; intros; rename_i w H; constructor) | refine wk ?_)
  rw [l3]
  refine (put_ref (n := v.parts.length) H.data (by constructor <;> omega)).use ?_
  rintro q w ⟨r, rfl, K⟩
  (have hKb := K.base; replace H := Rel.call H K)
  simp only [List.cons_append, List.nil_append] at H
  have hrl := H.rowLen (i := 0) rfl (fun _ => rfl) (by decide)
  have hp := putN_len (n := v.parts.length) (by omega) (by omega)
  have hnl : v.names.length ≤ 600 := by omega
  (first | (refine H.wg ?_; clear H; intros; rename_i w H; constructor) | refine wk ?_)
  refine loop_inv (S := Nat × Nat) tabOk [0, 1, 2, 7, 15, 19] (fun k => [(3, iv k.2), (4, iv k.1)]) (fun k w' => k.1 ≤ v.names.length ∧ k.2 = 1 + (putN v.parts.length).length + ((v.names.take k.1).map fun s => 1 + s.length).sum ∧ k.2 ≤ 100 + k.1 * 33 ∧ Rel W V [.blk b1 [iv v.kind, iv v.num, bs.v, ss.v, pl.v] 27] V w') (fun k _ => v.names.length - k.1) (0, 1 + (putN v.parts.length).length) ?_
  (conv => whnf)
  refine ⟨?_, ⟨by omega, by simp, by omega, H.sx⟩, ?_⟩
  · rw [hrl]
    exact ⟨rfl, rfl, trivial⟩
  clear H
  rintro ⟨k, s⟩ w ⟨hk, hs, hsb, H⟩
  dsimp only at hk hs hsb H
  by_cases hlt : k < v.names.length
  rotate_left
  · rw [List.take_of_length_le (by omega)] at hs
    (first | (refine H.wg ?_; clear H; intros; rename_i w H; constructor) | refine wk ?_)
    rw [F, ← hs]
    exact ⟨rfl, H.sx⟩
  obtain ⟨hp', hq'⟩ := hns.get1 (g := str) (fun _ => rfl) hlt
  have hnm := nameOk_len (hna _ (List.getElem_mem hlt))
  have hsz : (ByteArray.mk (v.names[k]).toArray).size = (v.names[k]).length := rfl
  (first | (refine H.wg ?_; clear H; intros; rename_i w H; constructor) | refine wk ?_)
  refine ⟨(by repeat (first | exact trivial | refine ⟨rfl, ?_⟩)), (k + 1, s + 1 + v.names[k].length), ?_, ⟨by omega, ?_, by dsimp only; omega, H.sx⟩, by dsimp only; omega⟩
  · exact ⟨rfl, rfl, trivial⟩
  · dsimp only
    rw [List.take_succ_eq_append_getElem hlt]
    simp only [List.map_append, List.sum_append, List.map_cons, List.map_nil, List.sum_cons, List.sum_nil]
    omega
end
end Go.Proofs.YtffaffojkfalhaaGreatDoor
namespace Go.Proofs.YtffaffojkfalhaaGreatDoor
open Go Go.RowKit

theorem names_first {l : List (List UInt8)} : (∀ s ∈ l, nameOk s = true) ↔ l.any (fun s => !nameOk s) = false := by
  rw [List.any_eq_false]
  simp
section
variable {V W : World}
set_option maxRecDepth 100000 in
set_option maxHeartbeats 2000000 in
theorem nodeCode_ref (hV : Sub V W) {h : VH} {v : Val} (hv : ValAt V h v) (hB : VB 1099511627776 v) : Ret Tryz.prog 40 [valV h].toArray W fun q w' => q = iv (nodeCode v) ∧ Rel W V [] V w' := by
  have H := Rel.start hV
  have l3 := hv.plen
  have e1 := hv.kind
  have e2 := hv.num
  have hns := hv.names
  have l2 := hns.len
  have l1 := hv.bytes.len
  have hnl := hB.names
  have hbl := hB.bytes
  have hpl := hB.parts
  obtain ⟨hk, hn, bs, ss, pl⟩ := h
  dsimp only at e1 e2 l1 l2 l3 hns
  subst e1 e2
  change Ret Tryz.prog 40 [.agg [iv v.kind, iv v.num, bs.v, ss.v, pl.v].toArray].toArray W _
  have n5 : ¬ (1 ≤ v.kind ∧ v.kind ≤ 4) → nodeCode v = 5 := fun h => by rw [nodeCode, if_pos h]
  have n6 : (1 ≤ v.kind ∧ v.kind ≤ 4) → formBad v → nodeCode v = 6 := fun h h2 => by rw [nodeCode, if_neg (by omega), if_pos h2]
  refine cal_of_sem tabOk Tryz.func40 rfl (by kernel_rfl) 104 rfl (by simp) [0, 1, 2, 3, 4, 5, 9, 50, 62, 66, 71, 80, 85, 90, 103] ?_
  refine SemC.seqGo tabOk ?_
  (first | (refine H.wh ?_; clear H; intros; rename_i w H; constructor) | refine wk ?_)
  ((first | refine Rel.nwD H ?_ | refine Rel.nw H ?_); clear H; intro w b1 H)
  (first | (refine H.wg ?_; clear H; intros; rename_i w H; constructor) | refine wk ?_)
  refine SemC.seqGo tabOk ?_
  (first | (refine H.wg ?_; clear H; intros; rename_i w H; constructor) | refine wk ?_)
  refine (in_ref v.kind 1 4 w).use ?_
  rintro q w' ⟨rfl, rfl⟩
  by_cases hr : 1 ≤ v.kind ∧ v.kind ≤ 4
  rotate_left
  · (first | (refine H.wg ?_; clear H; intros; rename_i w H; constructor) | refine wk ?_)
    exact ⟨by rw [n5 hr], H.sx⟩
  (first | (refine H.wg ?_; clear H; intros; rename_i w H; constructor) | refine wk ?_)
  have n6 := n6 hr
  unfold formBad at n6
  refine SemC.seqCut tabOk (fun _ : Unit => [(1, .pointer (some ⟨b1, 0, none⟩))]) (fun _ w' => (¬ ((v.num ≠ 0 ∧ v.kind ≠ 1) ∨ (0 < v.bytes.length ∧ v.kind ≠ 2) ∨ (0 < v.names.length ∧ v.kind ≠ 4) ∨ (0 < v.parts.length ∧ v.kind < 3))) ∧ Rel W V [.blk b1 [iv v.kind, iv v.num, bs.v, ss.v, pl.v] 27] V w') ?_ ?_
  · by_cases k1 : v.kind = 1
    all_goals by_cases a1 : v.num = 0
    all_goals by_cases k2 : v.kind = 2
    all_goals first | (exfalso; omega) | skip
    all_goals by_cases a2 : v.bytes.length = 0
    all_goals by_cases k4 : v.kind = 4
    all_goals first | (exfalso; omega) | skip
    all_goals by_cases a3 : v.names.length = 0
    all_goals by_cases a4 : v.parts.length = 0
    all_goals
      (first | (refine H.wg ?_; clear H; intros; rename_i w H; constructor) | refine wk ?_)
      first
        | exact ⟨by rw [n6 (by omega)], H.sx⟩
        | exact ⟨(), (by repeat (first | exact trivial | refine ⟨rfl, ?_⟩)), by omega, H.sx⟩
  clear H
  rintro _ w ⟨hb4, H⟩
  refine SemC.seqCut tabOk (fun _ : Unit => [(1, .pointer (some ⟨b1, 0, none⟩))]) (fun _ w' => (¬ formBad v) ∧ Rel W V [.blk b1 [iv v.kind, iv v.num, bs.v, ss.v, pl.v] 27] V w') ?_ ?_
  · by_cases k4 : v.kind = 4
    all_goals by_cases a4 : v.names.length = v.parts.length
    all_goals
      (first | (refine H.wg ?_; clear H; intros; rename_i w H; constructor) | refine wk ?_)
      first
        | exact ⟨by rw [n6 (by omega)], H.sx⟩
        | exact ⟨(), (by repeat (first | exact trivial | refine ⟨rfl, ?_⟩)), by unfold formBad; omega, H.sx⟩
  clear H
  rintro _ w ⟨hf, H⟩
  refine SemC.seqGo tabOk ?_
  by_cases h600 : 600 < v.parts.length
  · have n14 : nodeCode v = 14 := by rw [nodeCode, if_neg (by omega), if_neg hf, if_pos h600]
    (first | (refine H.wg ?_; clear H; intros; rename_i w H; constructor) | refine wk ?_)
    exact ⟨by rw [n14], H.sx⟩
  (first | (refine H.wg ?_; clear H; intros; rename_i w H; constructor) | refine wk ?_)
  refine SemC.seqCut tabOk (fun _ : Unit => [(1, .pointer (some ⟨b1, 0, none⟩))]) (fun _ w' => (v.names.any (fun s => !nameOk s) = false) ∧ Rel W V [.blk b1 [iv v.kind, iv v.num, bs.v, ss.v, pl.v] 27] V w') ?_ ?_
  · (first | (refine H.wg ?_; clear H; intros; rename_i w H; constructor) | refine wk ?_)
    refine loop_inv (S := Nat) tabOk [0, 1, 4, 5, 9, 50, 62, 66, 85, 90, 103] (fun k => [(3, iv k)]) (fun k w' => k ≤ v.names.length ∧ (v.names.take k).any (fun s => !nameOk s) = false ∧ Rel W V [.blk b1 [iv v.kind, iv v.num, bs.v, ss.v, pl.v] 27] V w') (fun k _ => v.names.length - k) 0 ?_
    (conv => whnf)
    refine ⟨(by repeat (first | exact trivial | refine ⟨rfl, ?_⟩)), ⟨by omega, by simp, H.sx⟩, ?_⟩
    clear H
    rintro k w ⟨hk, hz, H⟩
    by_cases hlt : k < v.names.length
    rotate_left
    · rw [List.take_of_length_le (by omega)] at hz
      (first | (refine H.wg ?_; clear H; intros; rename_i w H; constructor) | refine wk ?_)
      exact ⟨(), (by repeat (first | exact trivial | refine ⟨rfl, ?_⟩)), hz, H.sx⟩
    obtain ⟨hp, hc⟩ := hns.get1 (g := str) (fun _ => rfl) hlt
    (first | (refine H.wg ?_; clear H; intros; rename_i w H; constructor) | refine wk ?_)
    refine (name_ref w v.names[k]).use ?_
    rintro q w' ⟨rfl, rfl⟩
    cases hnm : nameOk v.names[k] with
    | false =>
      (first | (refine H.wg ?_; clear H; intros; rename_i w H; constructor) | refine wk ?_)
      refine ⟨?_, H.sx⟩
      rw [nodeCode, if_neg (by omega), if_neg hf, if_neg h600, if_pos]
      rw [List.any_eq_true]
      exact ⟨v.names[k], List.getElem_mem hlt, by rw [hnm]; rfl⟩
    | true =>
      (first | (refine H.wg ?_; clear H; intros; rename_i w H; constructor) | refine wk ?_)
      exact ⟨(by repeat (first | exact trivial | refine ⟨rfl, ?_⟩)), k + 1, (by repeat (first | exact trivial | refine ⟨rfl, ?_⟩)), ⟨by omega, by rw [any_take hlt, hz, hnm]; rfl, H.sx⟩, by omega⟩
  clear H
  rintro _ w ⟨hany, H⟩
  have hcode : nodeCode v = if v.names.Nodup then 0 else 8 := by
    rw [nodeCode, if_neg (by omega), if_neg hf, if_neg (by omega), if_neg (by rw [hany]; simp)]
    by_cases hn : v.names.Nodup
    · rw [if_neg (by simpa using hn), if_pos hn]
    · rw [if_pos hn, if_neg hn]
  refine SemC.seqGo tabOk ?_
  (first | (refine H.wg ?_; clear H; intros; rename_i w H; constructor) | refine wk ?_)
  refine loop_inv (S := Nat) tabOk [0, 1, 3, 9, 50, 62, 66, 71, 80] (fun k => [(4, iv k)]) (fun k w' => k ≤ v.names.length ∧ (v.names.take k).Nodup ∧ Rel W V [.blk b1 [iv v.kind, iv v.num, bs.v, ss.v, pl.v] 27] V w') (fun k _ => v.names.length - k) 0 ?_
  (conv => whnf)
  refine ⟨(by repeat (first | exact trivial | refine ⟨rfl, ?_⟩)), ⟨by omega, by simp, H.sx⟩, ?_⟩
  clear H
  rintro k w ⟨hk, hz, H⟩
  by_cases hlt : k < v.names.length
  rotate_left
  · rw [List.take_of_length_le (by omega)] at hz
    (first | (refine H.wg ?_; clear H; intros; rename_i w H; constructor) | refine wk ?_)
    refine SemC.go tabOk ?_
    (first | (refine H.wg ?_; clear H; intros; rename_i w H; constructor) | refine wk ?_)
    exact ⟨by rw [hcode, if_pos hz], H.sx⟩
  obtain ⟨hp, hc⟩ := hns.get1 (g := str) (fun _ => rfl) hlt
  (first | (refine H.wg ?_; clear H; intros; rename_i w H; constructor) | refine wk ?_)
  refine loop_inv (S := Nat) tabOk [0, 1, 3, 4, 9, 50, 62, 66, 71, 80, 85] (fun j => [(5, iv j)]) (fun j w' => j ≤ k ∧ v.names[k] ∉ v.names.take j ∧ Rel W V [.blk b1 [iv v.kind, iv v.num, bs.v, ss.v, pl.v] 27] V w') (fun j _ => k - j) 0 ?_
  (conv => whnf)
  refine ⟨(by repeat (first | exact trivial | refine ⟨rfl, ?_⟩)), ⟨by omega, by simp, H.sx⟩, ?_⟩
  clear H
  rintro j w ⟨hj, hnz, H⟩
  by_cases hjt : j < k
  rotate_left
  · obtain rfl : j = k := by omega
    (first | (refine H.wg ?_; clear H; intros; rename_i w H; constructor) | refine wk ?_)
    refine ⟨(by repeat (first | exact trivial | refine ⟨rfl, ?_⟩)), j + 1, (by repeat (first | exact trivial | refine ⟨rfl, ?_⟩)), ⟨by omega, ?_, H.sx⟩, by omega⟩
    rw [List.take_succ_eq_append_getElem hlt, List.nodup_append]
    exact ⟨hz, by simp, fun a ha b hb => by rw [List.mem_singleton.1 hb]; exact fun e => hnz (e ▸ ha)⟩
  obtain ⟨hp2, hc2⟩ := hns.get1 (g := str) (fun _ => rfl) (show j < v.names.length by omega)
  (first | (refine H.wg ?_; clear H; intros; rename_i w H; constructor) | refine wk ?_)
  ((first | refine draw_vc (id := 20) tabOk mixed [] [0, 1, 2, 3, 4, 5, 6, 7, 8, 9, 10] (by kernel_rfl) ?_); intro w hdw; replace H := Rel.ext H hdw.ext)
  (first | (refine H.wg ?_; clear H; intros; rename_i w H; constructor) | refine wk ?_)
  refine condG_dec (fun h5 => ?_) (fun h5 => ?_)
  · (first | (refine H.wg ?_; clear H; intros; rename_i w H; constructor) | refine wk ?_)
    refine ⟨?_, H.sx⟩
    rw [hcode, if_neg]
    intro hn
    have := (List.nodup_iff_pairwise_ne.1 hn)
    rw [List.pairwise_iff_getElem] at this
    exact this j k (by omega) hlt hjt h5.symm
  · (first | (refine H.wg ?_; clear H; intros; rename_i w H; constructor) | refine wk ?_)
    exact ⟨(by repeat (first | exact trivial | refine ⟨rfl, ?_⟩)), j + 1, (by repeat (first | exact trivial | refine ⟨rfl, ?_⟩)), ⟨by omega, take_mem (by omega) hnz h5, H.sx⟩, by omega⟩
end
end Go.Proofs.YtffaffojkfalhaaGreatDoor
