/-
  Files of trees: the examples.
-/
import Derived.Test.YtffaffojkfalhaaGreatDoorTreH
import Derived.Test.YtffaffojkfalhaaGreatDoorValG
import Derived.Test.YtffaffojkfalhaaGreatDoorCnvR
import Derived.Test.YtffaffojkfalhaaGreatDoorLibE
namespace Go.Proofs.YtffaffojkfalhaaGreatDoor
open Go Go.RowKit

abbrev exV1 : Val := .mk 1 1 [] [] []
abbrev exV2 : Val := .mk 1 2 [] [] []
abbrev exVl : Val := .mk 3 0 [] [] [exV1, exV2]
abbrev exV : Val := .mk 4 0 [] [[97]] [exVl]
abbrev exL : BL := [([], [123]), ([], [97]), ([], [58]), ([32], [91]), ([], [49]), ([], [44]), ([32], [50]), ([], [93]), ([], [125])]
abbrev exT : List UInt8 := [123, 97, 58, 32, 91, 49, 44, 32, 50, 93, 125]
theorem ex_wf : WfV exV := .rcd (by simp; decide) rfl (by
  simp only [List.mem_singleton, forall_eq]
  refine .lst ?_
  intro p hp
  rcases List.mem_cons.1 hp with rfl | hp
  · exact .num (by constructor <;> decide)
  · simp only [List.mem_singleton] at hp
    subst hp
    exact .num (by constructor <;> decide))
theorem itoa_one {n : Nat} (h : n < 10) : Lib.itoa (n : Int) = [UInt8.ofNat (48 + n)] := by
  unfold Lib.itoa
  rw [if_neg (by omega), Int.toNat_natCast, Lib.decDigits_one h]
theorem ex_tok : tokV exV = exL.map Prod.snd := by
  rw [tokV_rcd]
  have e3 : tokL 3 [] [exV1, exV2] = [[49], [44], [50]] := by
    have h1 : tokV exV1 = [[49]] := by rw [tokV_num]; exact congrArg (fun x => [x]) (itoa_one (n := 1) (by decide))
    have h2 : tokV exV2 = [[50]] := by rw [tokV_num]; exact congrArg (fun x => [x]) (itoa_one (n := 2) (by decide))
    show ([] ++ ([] ++ tokV exV1)) ++ (([[44]] ++ ([] ++ tokV exV2)) ++ []) = _
    rw [h1, h2]
    rfl
  have e4 : tokV exVl = [91] :: ([[49], [44], [50]] ++ [[93]]) := by
    show tokV (.mk 3 0 [] [] [exV1, exV2]) = _
    rw [tokV_lst, e3]
    rfl
  have e5 : tokL 4 [[97]] [exVl] = [[97], [58]] ++ tokV exVl := by
    show ([] ++ ([[97], [58]] ++ tokV exVl)) ++ [] = _
    simp
  rw [e5, e4]
  rfl
theorem ex_pre : pre 0 exV = [(exV, 0), (exVl, 1), (exV1, 2), (exV2, 2)] := by
  rw [pre_eq]
  simp [pre_eq]
theorem ex_codes : nodeCode exV1 = 0 ∧ nodeCode exV2 = 0 ∧ nodeCode exVl = 0 ∧ nodeCode exV = 0 := by
  have n1 : nodeCode exV1 = 0 := by simp [nodeCode, formBad, Val.kind, Val.num, Val.bytes, Val.names, Val.parts]
  have n2 : nodeCode exV2 = 0 := by simp [nodeCode, formBad, Val.kind, Val.num, Val.bytes, Val.names, Val.parts]
  have n3 : nodeCode exVl = 0 := by simp [nodeCode, formBad, Val.kind, Val.num, Val.bytes, Val.names, Val.parts]
  have n4 : nodeCode exV = 0 := by
    have : nameOk [97] = true := by decide
    simp [nodeCode, formBad, this, Val.kind, Val.num, Val.bytes, Val.names, Val.parts]
  exact ⟨n1, n2, n3, n4⟩
theorem ex_chk : chk 0 exV 0 = .ok 4 := by
  obtain ⟨n1, n2, n3, n4⟩ := ex_codes
  unfold chk
  rw [ex_pre]
  simp [scan, atCode, n1, n2, n3, n4]
theorem ex_B : VB 1048576 exV := .mk (i64_c 4) (i64_c 0) (Nat.zero_le _) (by simp) (by simp) (by simp) (by
  simp only [List.mem_singleton, forall_eq]
  refine .mk (i64_c 3) (i64_c 0) (Nat.zero_le _) (Nat.zero_le _) (by simp) (by simp) ?_
  intro p hp
  rcases List.mem_cons.1 hp with rfl | hp
  · exact vb_num (i64_c 1)
  · simp only [List.mem_singleton] at hp
    subst hp
    exact vb_num (i64_c 2))
theorem ex_fault : (vfault exV).1 = 0 := by
  have hl := enc_len exV ex_chk
  rw [ex_pre] at hl
  simp only [szX, List.map_cons, List.map_nil, List.sum_cons, List.sum_nil] at hl
  have key : ∀ {v : Val}, nodeCode v = 0 → v.bytes = [] → v.names.length ≤ 1 → VB 1048576 v → nodeSzX v ≤ 100 := fun {v} h hb hn hB => by
    have h64 := hB.num
    have hk := hB.kind
    obtain ⟨h1, h2, h3, h4, _⟩ := nodeCode_zero h
    have a1 := putN_len h64.1 h64.2
    have a2 := putN_len (n := v.kind) hk.1 hk.2
    have a3 := putN_len (n := v.parts.length) (by omega) (by omega)
    have a4 := names_sum h4
    have a5 := putC_len (b := []) (by simp)
    rw [List.length_nil] at a5
    unfold nodeSzX
    rw [hb]
    split
    · omega
    · split
      · omega
      · have := Nat.mul_le_mul_right 33 hn
        omega
  unfold vfault
  rw [ex_chk]
  simp only
  rw [if_neg]
  obtain ⟨n1, n2, n3, n4⟩ := ex_codes
  have hB := ex_B
  have hBl := hB.part exVl (by simp [Val.parts])
  have q1 := key n1 rfl (by simp [Val.names]) (hBl.part exV1 (by simp [Val.parts]))
  have q2 := key n2 rfl (by simp [Val.names]) (hBl.part exV2 (by simp [Val.parts]))
  have q3 := key n3 rfl (by simp [Val.names]) hBl
  have q4 := key n4 rfl (by simp [Val.names]) hB
  omega
theorem ex_bk : BksL exL := by
  have : ∀ p ∈ exL, ∀ c ∈ p.1, bkB c = true := by decide
  exact this
theorem ex_fit : Fit exT exV exL [] := ⟨rfl, ex_bk, (fun c hc => by cases hc), ex_tok.symm, ex_wf⟩
theorem ex_fit2 : Fit (exT ++ [10]) exV exL [10] := ⟨rfl, ex_bk, (fun c hc => by rw [List.mem_singleton.1 hc]; decide), ex_tok.symm, ex_wf⟩
theorem ex_to : treTo exT = some (exV, [2, 18, 0]) := by
  rw [treTo_of ex_fit ex_fault]
  have e : treRes (othB exL []) = [2, 18, 0] := by kernel_rfl
  rw [e]
theorem ex_make : treMake exV [] = some (exT ++ [10]) := by
  have e : othB exL [10] = [] := by kernel_rfl
  have h1 := ex_fit2.out
  have h2 := treTo_of ex_fit2 ex_fault
  rw [e] at h1 h2
  rw [treMake_yes (Z := []) (by rw [treRd, if_pos rfl]) (by rw [h1]; decide) (by rw [h1, h2]; rfl), h1]
theorem ex_at {V : World} {a b c t u x : Nat} (ha : Blk V a [str [97]] t) (hb : Blk V b ([numH 1, numH 2].flatMap valC) u) (hc : Blk V c ([(⟨3, 0, ⟨none, 0, 0⟩, ⟨none, 0, 0⟩, ⟨some ⟨b, 0, none⟩, 2, 2⟩⟩ : VH)].flatMap valC) x) : ValAt V ⟨4, 0, ⟨none, 0, 0⟩, ⟨some ⟨a, 0, none⟩, 1, 1⟩, ⟨some ⟨c, 0, none⟩, 1, 1⟩⟩ exV :=
  .mk [_] rfl rfl (SlF.nil _ _) ⟨rfl, Nat.le_refl _, ha.cells⟩ ⟨rfl, Nat.le_refl _, hc.cells⟩ rfl fun i p q hp hq => by
    match i, hp, hq with
    | 0, hp, hq =>
      cases hp
      cases hq
      exact .mk [numH 1, numH 2] rfl rfl (SlF.nil _ _) (SlF.nil _ _) ⟨rfl, Nat.le_refl _, hb.cells⟩ rfl fun j p q hp hq => by
        match j, hp, hq with
        | 0, hp, hq => cases hp; cases hq; exact valAt_num V 1
        | 1, hp, hq => cases hp; cases hq; exact valAt_num V 2
        | j + 2, hp, hq => simp at hp
    | i + 1, hp, hq => simp at hp
section
variable {V W : World}
set_option maxRecDepth 100000 in
set_option maxHeartbeats 4000000 in
theorem example_tree (hV : Sub V W) (hE : NumT V) : Ret Tryz.prog 9 [].toArray W fun q w' => q = .bool true ∧ ∃ V', Sub V V' ∧ Rel W V [] V' w' := by
  have H := Rel.start hV
  refine cal_of_vc tabOk Tryz.func9 rfl (by kernel_rfl) 49 rfl (by simp) [0, 1, 2, 3, 4, 5, 6] ?_
  (first | (refine H.wh ?_; clear H; intros; rename_i w H; constructor) | refine wk ?_)
  ((first | refine Rel.nwD H ?_ | refine Rel.nw H ?_); clear H; intro w b8 H)
  replace H := H.blkEq (c' := (exT : List UInt8).flatMap byC) rfl
  (first | (refine H.wg ?_; clear H; intros; rename_i w H; constructor) | refine wk ?_)
  refine Rel.convBB (b := b8) (l := exT) Tryz.underlying22 Tryz.underlying5 H rfl ?_
  clear H
  intro V2 w hV2 hx H
  (first | (refine H.wg ?_; clear H; intros; rename_i w H; constructor) | refine wk ?_)
  refine (to_tree H.data (hE.up hV2) hx (by decide)).use ?_
  rintro q w ⟨V3, h, r, hV3, K, rfl, hv, hr⟩
  (have hKb := K.base; replace H := H.call0 K)
  have e : toRes (treTo exT) exT.length = ⟨exV, [2, 18, 0], 0, 0⟩ := by unfold toRes; rw [if_neg (by decide), ex_to]
  rw [e] at hv hr ⊢
  dsimp only at hv hr ⊢
  (first | (refine H.wh ?_; clear H; intros; rename_i w H; constructor) | refine wk ?_)
  ((first | refine Rel.nwD H ?_ | refine Rel.nw H ?_); clear H; intro w b1 H)
  (first | (refine H.wh ?_; clear H; intros; rename_i w H; constructor) | refine wk ?_)
  ((first | refine Rel.nwD H ?_ | refine Rel.nw H ?_); clear H; intro w b3 H)
  (first | (refine H.wh ?_; clear H; intros; rename_i w H; constructor) | refine wk ?_)
  ((first | refine Rel.nwD H ?_ | refine Rel.nw H ?_); clear H; intro w b14 H)
  obtain ⟨V4, hV4, H1, hb14⟩ := H.freezeBlk
  clear H
  have H := H1
  clear H1
  (first | (refine H.wh ?_; clear H; intros; rename_i w H; constructor) | refine wk ?_)
  ((first | refine Rel.nwD H ?_ | refine Rel.nw H ?_); clear H; intro w b17 H)
  obtain ⟨V5, hV5, H1, hb17⟩ := H.freezeBlk
  clear H
  have H := H1
  clear H1
  (first | (refine H.wh ?_; clear H; intros; rename_i w H; constructor) | refine wk ?_)
  ((first | refine Rel.nwD H ?_ | refine Rel.nw H ?_); clear H; intro w b19 H)
  obtain ⟨V6, hV6, H1, hb19⟩ := H.freezeBlk
  clear H
  have H := H1
  clear H1
  have hw := ex_at (hV6.cel _ _ _ _ (hV5.cel _ _ _ _ hb14)) (hV6.cel _ _ _ _ hb17) hb19
  have hV46 := (hV4.trans hV5).trans hV6
  have hV26 := (hV2.trans hV3).trans hV46
  have hw0 := hw
  (first | (refine H.wh ?_; clear H; intros; rename_i w H; constructor) | refine wk ?_)
  ((first | refine Rel.nwD H ?_ | refine Rel.nw H ?_); clear H; intro w b4 H)
  (first | (refine H.wg ?_; clear H; intros; rename_i w H; constructor) | refine wk ?_)
  refine (from_tree H.data (hE.up hV26) hw ex_B (SlF.nil byC _) (by simp)).use ?_
  rintro q w ⟨V7, r7, hV7, K, rfl, hr7⟩
  (have hKb := K.base; replace H := Rel.call H K)
  simp only [List.nil_append] at H
  have e7 : frRes exV (treShape exV).isSome (treMake exV []) = (exT ++ [10], 0, 0) := by
    rw [ex_make]
    unfold frRes
    rw [if_neg (fun h => h ex_fault)]
    rfl
  rw [e7] at hr7 ⊢
  dsimp only at hr7 ⊢
  (first | (refine H.wh ?_; clear H; intros; rename_i w H; constructor) | refine wk ?_)
  ((first | refine Rel.nwD H ?_ | refine Rel.nw H ?_); clear H; intro w b6 H)
  (first | (refine H.wg ?_; clear H; intros; rename_i w H; constructor) | refine wk ?_)
  have hV37 : Sub V3 V7 := hV46.trans hV7
  refine (same_value (SizeOf.sizeOf exV + 1) H.data (Nat.lt_succ_self _) (hv.up hV37) (hw0.up hV7) (vb_big ex_B)).use ?_
  rintro q w ⟨r0, rfl, hsame, K⟩
  (have hKb := K.base; replace H := Rel.call H K)
  simp only [List.cons_append, List.nil_append] at H
  obtain rfl := hsame.2 rfl
  (first | (refine H.wh ?_; clear H; intros; rename_i w H; constructor) | refine wk ?_)
  ((first | refine Rel.nwD H ?_ | refine Rel.nw H ?_); clear H; intro w b41 H)
  replace H := H.blkEq (c' := ([2, 18, 0] : List UInt8).flatMap byC) rfl
  obtain ⟨V8, hV8, H1, hb41⟩ := H.freezeBlk
  clear H
  have H := H1
  clear H1
  (first | (refine H.wg ?_; clear H; intros; rename_i w H; constructor) | refine wk ?_)
  refine (bytes_ref H.data (hr.up (hV37.trans hV8)) (⟨rfl, Nat.le_refl _, hb41.cells⟩ : Byt V8 ⟨some ⟨_, 0, none⟩, 3, 3⟩ [2, 18, 0])).use ?_
  rintro q w ⟨rfl, K⟩
  (have hKb := K.base; replace H := Rel.call H K)
  simp only [List.cons_append, List.nil_append] at H
  rw [decide_eq_true rfl]
  (first | (refine H.wg ?_; clear H; intros; rename_i w H; constructor) | refine wk ?_)
  have hr7' := hr7.up hV8
  refine ⟨exT ++ [10], hr7'.len, byC_map _ ▸ (hr7'.up H.data).cells, ?_⟩
  (first | (refine H.wg ?_; clear H; intros; rename_i w H; constructor) | refine wk ?_)
  replace H : Rel W V [] V8 w := H.sx
  exact H.less hV26 (hV7.trans hV8)
end
end Go.Proofs.YtffaffojkfalhaaGreatDoor
