/-
  Files of tables: the examples.
-/
import Derived.Test.YtkfcdjomkcmkeaaGreatDoorTblG
import Derived.Test.YtkfcdjomkcmkeaaGreatDoorTblF
import Derived.Test.YtkfcdjomkcmkeaaGreatDoorTblS
import Derived.Test.YtkfcdjomkcmkeaaGreatDoorValG
namespace Go.Proofs.YtkfcdjomkcmkeaaGreatDoor
open Go Go.RowKit

theorem chk_two (a b : List UInt8) : chk 0 (tblVal [[a, b]]) 0 = .ok 4 := by
  have e : pre 0 (tblVal [[a, b]]) = [(tblVal [[a, b]], 0), (rowV [a, b], 1), (cellV a, 2), (cellV b, 2)] := by
    rw [pre_eq]
    simp [pre_eq]
  have n2 : ∀ d, nodeCode (cellV d) = 0 := fun d => by simp [nodeCode, formBad, Val.kind, Val.num, Val.bytes, Val.names, Val.parts]
  have n3 : nodeCode (rowV [a, b]) = 0 := by simp [nodeCode, formBad, Val.kind, Val.num, Val.bytes, Val.names, Val.parts]
  have n5 : nodeCode (tblVal [[a, b]]) = 0 := by simp [nodeCode, formBad, Val.kind, Val.num, Val.bytes, Val.names, Val.parts]
  unfold chk
  rw [e]
  simp [scan, atCode, n2, n3, n5]
theorem vfault_two {a b : List UInt8} (hl : a.length + b.length ≤ 300) : (vfault (tblVal [[a, b]])).1 = 0 := by
  have hs : enc (tblVal [[a, b]]) = putN 3 ++ (putN 1 ++ (putN 3 ++ (putN 2 ++ ((putN 2 ++ putC a) ++ (putN 2 ++ putC b))))) := by
    show enc (.mk 3 0 [] [] [rowV [a, b]]) = _
    rw [enc_one]
    show _ ++ (_ ++ (enc (.mk 3 0 [] [] [cellV a, cellV b]))) = _
    rw [enc_two, enc_byt, enc_byt]
  have hl2 := congrArg List.length hs
  have a3 := putC_len (b := a) (by omega)
  have a4 := putC_len (b := b) (by omega)
  have a8 := putN_len (n := 3) (by decide) (by decide)
  have a9 := putN_len (n := 1) (by decide) (by decide)
  have a10 := putN_len (n := 2) (by decide) (by decide)
  simp only [List.length_append] at hl2
  unfold vfault
  rw [chk_two]
  simp only
  rw [if_neg (by omega)]
abbrev exA : List UInt8 := [97, 59, 34, 98, 34]
abbrev exB : List UInt8 := [120, 44, 34, 121, 44, 122, 34, 10]
theorem exA_find : tblFind exA = some (2, [[([97], false), ([98], true)]], true) := by kernel_rfl
theorem exB_find : tblFind exB = some (0, [[([120], false), ([121, 44, 122], true)]], false) := by kernel_rfl
theorem exA_to : tblTo exA = some (tblVal [[[97], [98]]], [14, 2, 2]) := by
  unfold tblTo
  rw [exA_find]
  simp only
  unfold tblAns
  refine (if_pos (vfault_two (a := [97]) (b := [98]) (by simp))).trans ?_
  kernel_rfl
theorem exB_to : tblTo exB = some (tblVal [[[120], [121, 44, 122]]], []) := by
  unfold tblTo
  rw [exB_find]
  simp only
  unfold tblAns
  refine (if_pos (vfault_two (a := [120]) (b := [121, 44, 122]) (by simp))).trans ?_
  kernel_rfl
theorem exB_make : tblMake (tblVal [[[120], [121, 44, 122]]]) [] = some exB := by
  have h := tblMake_yes (v := tblVal [[[120], [121, 44, 122]]]) (b := []) (T := [[[120], [121, 44, 122]]]) (fl := 0) (Z := []) (tblShape_val (by simp) (by simp)) tblRd_nil (by rw [show tblOut 0 [] [[[120], [121, 44, 122]]] = exB by kernel_rfl]; simp) (by rw [show tblOut 0 [] [[[120], [121, 44, 122]]] = exB by kernel_rfl]; exact exB_to)
  rw [h]
  congr 1
theorem tblLoss_len {b : List UInt8} {ls : List LossD} (h : tblLoss b = some ls) : ls.length ≤ 1000000 := by
  unfold tblLoss at h
  cases hr : tblRd b with
  | none => rw [hr] at h; cases h
  | some x =>
    rw [hr] at h
    cases h
    exact Nat.le_trans (lossTbl_len _ _) (by decide)
theorem tblAt_two {V : World} {a b : Sl} {x y : List UInt8} {c d : Nat} {t u : TypeId} (ha : Byt V a x) (hb : Byt V b y) (hc : Blk V c [a.v, b.v] t) (hd : Blk V d [(⟨some ⟨c, 0, none⟩, 2, 2⟩ : Sl).v] u) : TblAt V ⟨some ⟨d, 0, none⟩, 1, 1⟩ [[x, y]] :=
  ⟨[⟨some ⟨c, 0, none⟩, 2, 2⟩], ⟨rfl, Nat.le_refl _, hd.cells⟩, rfl, fun i p q hp hq => by
    match i, hp, hq with
    | 0, hp, hq =>
      cases hp
      cases hq
      exact ⟨[a, b], ⟨rfl, Nat.le_refl _, hc.cells⟩, rfl, fun j p q hp hq => by
        match j, hp, hq with
        | 0, hp, hq => cases hp; cases hq; exact ha
        | 1, hp, hq => cases hp; cases hq; exact hb
        | j + 2, hp, hq => simp at hp⟩
    | i + 1, hp, hq => simp at hp⟩
section
variable {w0 V0 V w : World} {own own' : List Res}
/-- .. as an owned row, wherever the block stands among what is owned -/
theorem Rel.convBR {P : Program} {t e : TypeId} (ht : P.underlying t = some (.slice e)) (he : P.underlying e = some (.int .u8)) {b : Nat} {l : List UInt8} (H : Rel w0 V0 own V w) {n : Nat} (hn : n = l.length) (hnl : n ≤ maxLen) {k : Value → World → Prop}
    (hk : ∀ w', Rel w0 V0 (.row ⟨some ⟨b, 0, none⟩, n, n⟩ e 1 (l.flatMap byC) :: own') V w' → k (.slice (some ⟨b, 0, none⟩) n n) w') (hm : Out1 own (.blk b (l.flatMap byC) e) own' := by first | exact Out1.h | exact .t .h | exact .t (.t .h) | exact .t (.t (.t .h))) : SemOk P (convert t t (.slice (some ⟨b, 0, none⟩) n n)) w k := by
  replace H := H.perm hm.perm
  have hb := H.bk_0
  refine .of (run_convert_same P w t e ht he hb) ?_
  have hlt := hb.lt
  have hfl : (l.flatMap byC).length = n := by rw [byC_map, List.length_map, hn]
  refine hk _ (H.put (i := 0) (r' := .row ⟨some ⟨b, 0, none⟩, n, n⟩ e 1 (l.flatMap byC)) rfl rfl rfl rfl (by simp) (fun c hc hne => by
      have : b ≠ c := fun e => hne (by rw [e]; rfl)
      simp [Array.getElem?_setIfInBounds_ne this]) (show Row _ _ _ _ _ from ⟨by show _ = n * 1; omega, .inr ⟨b, (l.flatMap byC).toArray, rfl, ⟨((l.flatMap byC).length, (l.flatMap byC).length + 1), by simp [hlt], fun j hj h => ?_⟩, Nat.le_refl _, hnl, by show _ = n * 1; simp only [List.size_toArray]; omega, by show (l.flatMap byC).take (n * 1) = _; rw [List.take_of_length_le (by omega)]⟩⟩) fun c hc => .inl hc)
  simp only [List.size_toArray] at hj
  simp only at h
  omega
theorem plain_two (H : Rel w0 V0 own V w) (x y : List UInt8) (hx : x.length ≤ 100) {r1 r2 : Sl} {c d t u : Nat} {K : Value → World → Prop} {Z : List PanicEntry → World → Prop}
    (hk : ∀ V' w' h, Sub V V' → ValAt V' h (tblVal [[x, y]]) → Rel w0 V0 [] V' w' → K (valV h) w') (hm : Pick own [.row r1 5 1 (x.flatMap byC), .row r2 5 1 (y.flatMap byC), .blk c [r1.v, r2.v] t, .blk d [(⟨some ⟨c, 0, none⟩, 2, 2⟩ : Sl).v] u] := by repeat constructor) :
    Cal Tryz.prog 15 [.slice (some ⟨d, 0, none⟩) 1 1].toArray w K Z := by
  replace H := H.pick hm
  obtain ⟨V2, h2, H, q1⟩ := Rel.freezeF H (fun _ => rfl) (by decide)
  obtain ⟨V3, h3, H, q2⟩ := Rel.freezeF H (fun _ => rfl) (by decide)
  obtain ⟨V4, h4, H, q3⟩ := H.freezeBlk
  obtain ⟨V5, h5, H, q4⟩ := H.freezeBlk
  have hT7 := tblAt_two ((q1.up h3).up (h4.trans h5)) (q2.up (h4.trans h5)) (h5.cel _ _ _ _ q3) q4
  refine (plainTable_ref H.data hT7 (by simp) (by simp)).use ?_
  rintro q w ⟨V8, h8, hV8, K, rfl, hv8⟩
  have hKb := K.base
  replace H := Rel.call H K
  exact hk V8 w h8 (((h2.trans h3).trans (h4.trans h5)).trans hV8) hv8 H
end
section
variable {V W : World}
set_option maxRecDepth 100000 in
set_option maxHeartbeats 4000000 in
theorem example_tbl (hV : Sub V W) (hT : Tabs V) (hM : MaxB V) : Ret Tryz.prog 5 [].toArray W fun q w' => q = .bool true ∧ ∃ V', Sub V V' ∧ Rel W V [] V' w' := by
  have H := Rel.start hV
  refine cal_of_vc tabOk Tryz.func5 rfl (by kernel_rfl) 53 rfl (by simp) [0, 1, 2, 3, 4, 5] ?_
  (first | (refine H.wh ?_; clear H; intros; rename_i w H; constructor) | refine wk ?_)
  ((first | refine Rel.nwD H ?_ | refine Rel.nw H ?_); clear H; intro w b7 H)
  replace H := H.blkEq (c' := (exA : List UInt8).flatMap byC) rfl
  (first | (refine H.wg ?_; clear H; intros; rename_i w H; constructor) | refine wk ?_)
  refine Rel.convBB (b := b7) (l := exA) Tryz.underlying22 Tryz.underlying5 H rfl ?_
  clear H
  intro V2 w hV2 hx H
  (first | (refine H.wg ?_; clear H; intros; rename_i w H; constructor) | refine wk ?_)
  refine (to_tbl H.data (tabs_up' hT hV2) (hM.up hV2) hx (by decide)).use ?_
  rintro q w ⟨V3, h, r, hV3, K, rfl, hv, hr⟩
  (have hKb := K.base; replace H := H.call0 K)
  have e : toRes (tblTo exA) exA.length = ⟨tblVal [[[97], [98]]], [14, 2, 2], 0, 0⟩ := by unfold toRes; rw [if_neg (by decide), exA_to]
  rw [e] at hv hr ⊢
  dsimp only at hv hr ⊢
  (first | (refine H.wh ?_; clear H; intros; rename_i w H; constructor) | refine wk ?_)
  ((first | refine Rel.nwD H ?_ | refine Rel.nw H ?_); clear H; intro w b1 H)
  (first | (refine H.wh ?_; clear H; intros; rename_i w H; constructor) | refine wk ?_)
  ((first | refine Rel.nwD H ?_ | refine Rel.nw H ?_); clear H; intro w b3 H)
  (first | (refine H.wh ?_; clear H; intros; rename_i w H; constructor) | refine wk ?_)
  ((first | refine Rel.nwD H ?_ | refine Rel.nw H ?_); clear H; intro w b14 H)
  replace H := H.blkEq (c' := (([120] : List UInt8) : List UInt8).flatMap byC) rfl
  (first | (refine H.wg ?_; clear H; intros; rename_i w H; constructor) | refine wk ?_)
  refine Rel.convBB (b := b14) (l := ([120] : List UInt8)) Tryz.underlying22 Tryz.underlying5 H rfl ?_
  clear H
  intro V4 w hV4 hx4 H
  (first | (refine H.wh ?_; clear H; intros; rename_i w H; constructor) | refine wk ?_)
  ((first | refine Rel.nwD H ?_ | refine Rel.nw H ?_); clear H; intro w b16 H)
  replace H := H.blkEq (c' := (([121, 44, 122] : List UInt8) : List UInt8).flatMap byC) rfl
  (first | (refine H.wg ?_; clear H; intros; rename_i w H; constructor) | refine wk ?_)
  refine Rel.convBB (b := b16) (l := ([121, 44, 122] : List UInt8)) Tryz.underlying22 Tryz.underlying5 H rfl ?_
  clear H
  intro V5 w hV5 hx5 H
  (first | (refine H.wh ?_; clear H; intros; rename_i w H; constructor) | refine wk ?_)
  ((first | refine Rel.nwD H ?_ | refine Rel.nw H ?_); clear H; intro w b18 H)
  obtain ⟨V6, hV6, H1, hb18⟩ := H.freezeBlk
  clear H
  have H := H1
  clear H1
  (first | (refine H.wh ?_; clear H; intros; rename_i w H; constructor) | refine wk ?_)
  ((first | refine Rel.nwD H ?_ | refine Rel.nw H ?_); clear H; intro w b19 H)
  obtain ⟨V7, hV7, H1, hb19⟩ := H.freezeBlk
  clear H
  have H := H1
  clear H1
  have hT7 := tblAt_two ((hx4.up hV5).up (hV6.trans hV7)) (hx5.up (hV6.trans hV7)) (hV7.cel _ _ _ _ hb18) hb19
  (first | (refine H.wg ?_; clear H; intros; rename_i w H; constructor) | refine wk ?_)
  refine (plainTable_ref H.data hT7 (by simp) (by simp)).use ?_
  rintro q w ⟨V8, h8, hV8, K, rfl, hv8⟩
  (have hKb := K.base; replace H := Rel.call H K)
  simp only [List.nil_append] at H
  have hV38 := ((hV4.trans hV5).trans (hV6.trans hV7)).trans hV8
  have hV28 := (hV2.trans hV3).trans hV38
  have hB8 : VB 1048576 (tblVal [[[120], [121, 44, 122]]]) := vb_tbl (by simp) (by simp)
  (first | (refine H.wg ?_; clear H; intros; rename_i w H; constructor) | refine wk ?_)
  refine (from_tbl H.data (tabs_up' hT hV28) (hM.up hV28) hv8 hB8 (SlF.nil byC _) (by simp)).use ?_
  rintro q w ⟨V9, r9, hV9, K, rfl, hr9⟩
  (have hKb := K.base; replace H := Rel.call H K)
  simp only [List.nil_append] at H
  have e9 : frRes (tblVal [[[120], [121, 44, 122]]]) (tblShape (tblVal [[[120], [121, 44, 122]]])).isSome (tblMake (tblVal [[[120], [121, 44, 122]]]) []) = (exB, 0, 0) := by
    rw [exB_make, show (tblShape (tblVal [[[120], [121, 44, 122]]])).isSome = true by rw [tblShape_val (by simp) (by simp)]; rfl]
    unfold frRes
    rw [if_neg (fun h => h (vfault_two (a := [120]) (b := [121, 44, 122]) (by simp)))]
    rfl
  rw [e9] at hr9 ⊢
  dsimp only at hr9 ⊢
  (first | (refine H.wh ?_; clear H; intros; rename_i w H; constructor) | refine wk ?_)
  ((first | refine Rel.nwD H ?_ | refine Rel.nw H ?_); clear H; intro w b5 H)
  (first | (refine H.wg ?_; clear H; intros; rename_i w H; constructor) | refine wk ?_)
  obtain ⟨V10, hV10, H1, hb5⟩ := H.freezeBlk
  clear H
  have H := H1
  clear H1
  obtain ⟨V11, hV11, H1, hb3⟩ := H.freezeBlk
  clear H
  have H := H1
  clear H1
  obtain ⟨V12, hV12, H1, hb1⟩ := H.freezeBlk
  clear H
  have H := H1
  clear H1
  have hV912 := (hV10.trans hV11).trans hV12
  have k5 : Blk V12 b5 [iv 0, iv 0] 29 := hV12.cel _ _ _ _ (hV11.cel _ _ _ _ hb5)
  have k3 : Blk V12 b3 [iv 0, iv 0] 29 := hV12.cel _ _ _ _ hb3
  have o5 := k5.cel (i := 0) rfl
  have o3 := k3.cel (i := 0) rfl
  have c0 := hb1.cel (i := 0) rfl
  have c1 := hb1.cel (i := 1) rfl
  have c2 := hb1.cel (i := 2) rfl
  have c3 := hb1.cel (i := 3) rfl
  have c4 := hb1.cel (i := 4) rfl
  ((first | refine draw_vcTX (id := 3) tabOk mixed (Kv V12) Kv.trans [10, 11, 12, 13, 14, 15, 16] [9] [0, 1, 2, 3, 4, 5, 6, 7, 8, 9, 10, 11, 12, 13, 14, 15, 16, 17, 18, 19, 20, 21, 22, 23, 24, 25, 26, 27, 28, 29] [(10, []), (11, [10]), (12, []), (13, [12]), (14, [10, 11, 12, 13]), (15, [10, 11, 12, 13, 14]), (16, [10, 11, 12, 13, 14, 15]), (17, [10, 11, 12, 13, 14, 15, 16]), (21, [10, 11, 12, 13, 14, 15, 16, 17]), (22, [10, 11, 12, 13, 14, 15, 16, 17, 21])] (by kernel_rfl) ?_); intro w hdw; replace H := Rel.ext H hdw.ext)
  repeat' ((first | (refine H.wh ?_; clear H; intros; rename_i w H; constructor) | refine wk ?_); first | (first | refine Kv.go H ?_ | refine Kv.go2 H (by assumption) ?_ | (refine And.intro (fun w1 hkp => ?_) ?_; focus ((first | have H := Kv.in H hkp | have H := Kv.in2 H (by assumption) hkp); ((repeat ((conv => whnf); first | refine an ?_ | refine H.ce ?_ | refine H.db ?_ | refine ea ?_ | refine ol ?_ | fail | refine cT ?_ | refine cF ?_ | refine cN ?_ | refine cM ?_ | refine H.lw ?_ | refine H.ll ?_)); (conv => whnf)); all_goals (first | exact ⟨rfl, rfl⟩ | exact rfl))) | refine And.intro ?_ ?_ | ((first | refine Rel.nwD H ?_ | refine Rel.nw H ?_); clear H; intro w _ H)) | (refine Rel.convBR (l := [97]) Tryz.underlying22 Tryz.underlying5 H (n := 1) rfl (by simp [maxLen]) ?_; clear H; intro w H) | (refine Rel.convBR (l := [98]) Tryz.underlying22 Tryz.underlying5 H (n := 1) rfl (by simp [maxLen]) ?_; clear H; intro w H))
  all_goals
    (first | (refine H.wh ?_; clear H; intros; rename_i w H; constructor) | refine wk ?_)
    refine plain_two H [97] [98] (by simp) ?_
    clear H
    intro V13 w h13 hV13 hv13 H
    repeat' ((first | (refine H.wh ?_; clear H; intros; rename_i w H; constructor) | refine wk ?_); (first | refine Kv.go H ?_ | refine Kv.go2 H (by assumption) ?_ | (refine And.intro (fun w1 hkp => ?_) ?_; focus ((first | have H := Kv.in H hkp | have H := Kv.in2 H (by assumption) hkp); ((repeat ((conv => whnf); first | refine an ?_ | refine H.ce ?_ | refine H.db ?_ | refine ea ?_ | refine ol ?_ | fail | refine cT ?_ | refine cF ?_ | refine cN ?_ | refine cM ?_ | refine H.lw ?_ | refine H.ll ?_)); (conv => whnf)); all_goals (first | exact ⟨rfl, rfl⟩ | exact rfl))) | refine And.intro ?_ ?_ | ((first | refine Rel.nwD H ?_ | refine Rel.nw H ?_); clear H; intro w _ H)))
    (first | (refine H.wh ?_; clear H; intros; rename_i w H; constructor) | refine wk ?_)
    have hV313 : Sub V3 V13 := hV38.trans (hV9.trans (hV912.trans hV13))
    refine (same_value (SizeOf.sizeOf (tblVal [[[97], [98]]]) + 1) H.data (Nat.lt_succ_self _) (hv.up hV313) hv13 (vb_big (vb_tbl (by simp) (by simp)))).use ?_
    rintro q w ⟨r0, rfl, hsame, K⟩
    (have hKb := K.base; replace H := H.call0 K)
    obtain rfl := hsame.2 rfl
    repeat' ((first | (refine H.wh ?_; clear H; intros; rename_i w H; constructor) | refine wk ?_); (first | refine Kv.go H ?_ | refine Kv.go2 H (by assumption) ?_ | (refine And.intro (fun w1 hkp => ?_) ?_; focus ((first | have H := Kv.in H hkp | have H := Kv.in2 H (by assumption) hkp); ((repeat ((conv => whnf); first | refine an ?_ | refine H.ce ?_ | refine H.db ?_ | refine ea ?_ | refine ol ?_ | fail | refine cT ?_ | refine cF ?_ | refine cN ?_ | refine cM ?_ | refine H.lw ?_ | refine H.ll ?_)); (conv => whnf)); all_goals (first | exact ⟨rfl, rfl⟩ | exact rfl))) | refine And.intro ?_ ?_ | ((first | refine Rel.nwD H ?_ | refine Rel.nw H ?_); clear H; intro w _ H)))
    (first | (refine H.wh ?_; clear H; intros; rename_i w H; constructor) | refine wk ?_)
    replace H := H.blkEq (c' := ([14, 2, 2] : List UInt8).flatMap byC) rfl
    obtain ⟨V14, hV14, H1, hb45⟩ := H.freezeBlk
    clear H
    have H := H1
    clear H1
    have hV1214 := hV13.trans hV14
    refine (bytes_ref H.data (hr.up (hV313.trans hV14)) (⟨rfl, Nat.le_refl _, hb45.cells⟩ : Byt V14 ⟨some ⟨_, 0, none⟩, 3, 3⟩ [14, 2, 2])).use ?_
    rintro q w ⟨rfl, K⟩
    (have hKb := K.base; replace H := H.call0 K)
    rw [decide_eq_true rfl]
    repeat' ((first | (refine H.wh ?_; clear H; intros; rename_i w H; constructor) | refine wk ?_); (first | refine Kv.go H ?_ | refine Kv.go2 H (by assumption) ?_ | (refine And.intro (fun w1 hkp => ?_) ?_; focus ((first | have H := Kv.in H hkp | have H := Kv.in2 H (by assumption) hkp); ((repeat ((conv => whnf); first | refine an ?_ | refine H.ce ?_ | refine H.db ?_ | refine ea ?_ | refine ol ?_ | fail | refine cT ?_ | refine cF ?_ | refine cN ?_ | refine cM ?_ | refine H.lw ?_ | refine H.ll ?_)); (conv => whnf)); all_goals (first | exact ⟨rfl, rfl⟩ | exact rfl))) | refine And.intro ?_ ?_ | ((first | refine Rel.nwD H ?_ | refine Rel.nw H ?_); clear H; intro w _ H)))
    (first | (refine H.wh ?_; clear H; intros; rename_i w H; constructor) | refine wk ?_)
    have hr9' := hr9.up (hV912.trans (hV13.trans hV14))
    refine ⟨exB, hr9'.len, byC_map _ ▸ (hr9'.up H.data).cells, ?_⟩
    repeat' ((first | (refine H.wh ?_; clear H; intros; rename_i w H; constructor) | refine wk ?_); (first | refine Kv.go H ?_ | refine Kv.go2 H (by assumption) ?_ | (refine And.intro (fun w1 hkp => ?_) ?_; focus ((first | have H := Kv.in H hkp | have H := Kv.in2 H (by assumption) hkp); ((repeat ((conv => whnf); first | refine an ?_ | refine H.ce ?_ | refine H.db ?_ | refine ea ?_ | refine ol ?_ | fail | refine cT ?_ | refine cF ?_ | refine cN ?_ | refine cM ?_ | refine H.lw ?_ | refine H.ll ?_)); (conv => whnf)); all_goals (first | exact ⟨rfl, rfl⟩ | exact rfl))) | refine And.intro ?_ ?_ | ((first | refine Rel.nwD H ?_ | refine Rel.nw H ?_); clear H; intro w _ H)))
    (first | (refine H.wh ?_; clear H; intros; rename_i w H; constructor) | refine wk ?_)
    exact H.less hV28 (hV9.trans (hV912.trans hV1214))
end
end Go.Proofs.YtkfcdjomkcmkeaaGreatDoor
