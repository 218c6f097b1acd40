/-
  Text files, the reference: To, what residues are good, losses.
-/
import Derived.Test.YtgnaojphgdaalaaDoorTxtT
import Derived.Test.YtgnaojphgdaalaaDoorTxtI
import Derived.Test.YtgnaojphgdaalaaDoorCnvL
namespace Go.Proofs.YtgnaojphgdaalaaDoor
open Go Go.RowKit

theorem txtLoss_isSome (b : List UInt8) : (txtLoss b).isSome = (txtRd b).isSome := by
  unfold txtLoss
  cases txtRd b with
  | none => rfl
  | some x => rfl
section
variable {V W : World}
set_option maxRecDepth 100000 in
set_option maxHeartbeats 1000000 in
theorem txtGood_g (hV : Sub V W) {s : Sl} {b : List UInt8} (hs : Byt V s b) (hl : b.length ≤ 1000000000) : Ret Tryd.prog 21 [s.v].toArray W fun q w' => q = .bool (txtLoss b).isSome ∧ Rel W V [] V w' := by
  have H := Rel.start hV
  have hlen := hs.len
  rw [txtLoss_isSome]
  unfold txtRd
  refine cal_of_vc tabOk Tryd.func21 rfl (by kernel_rfl) 23 rfl (by simp) [0, 2, 3, 4, 5, 8] ?_
  by_cases hb : b = []
  · rw [if_pos hb]
    rw [hb, List.length_nil] at hlen
    (first | (refine H.wg ?_; clear H; intros; rename_i w H; constructor) | refine wk ?_)
    exact H.sx
  rw [if_neg hb]
  have hbl := List.length_pos_iff.2 hb
  (first | (refine H.wg ?_; clear H; intros; rename_i w H; constructor) | refine wk ?_)
  refine (textKinds_ref H.data hs hl).use ?_
  rintro q w ⟨V2, r, c, ok, hV2, K, rfl, hk⟩
  (have hKb := K.base; replace H := H.call0 K)
  cases hr : txtRaw b with
  | none =>
    rw [hr] at hk
    dsimp only at hk
    subst hk
    (first | (refine H.wg ?_; clear H; intros; rename_i w H; constructor) | refine wk ?_)
    exact H.less (Sub.refl _) hV2
  | some x =>
    obtain ⟨e, rs⟩ := x
    rw [hr] at hk
    obtain ⟨rfl, rfl, hr2⟩ := hk
    obtain ⟨h1, h2, h3, h4⟩ := txtRaw_some hr
    obtain ⟨o1, o2, o3, o4⟩ := runsOf_K rs 3 h2
    (first | (refine H.wg ?_; clear H; intros; rename_i w H; constructor) | refine wk ?_)
    refine (txtRes_ref H.data hr2 (by omega) o3 h1).use ?_
    rintro q w ⟨V3, r3, hV3, K, rfl, hr3⟩
    (have hKb := K.base; replace H := H.call0 K)
    (first | (refine H.wg ?_; clear H; intros; rename_i w H; constructor) | refine wk ?_)
    refine (bytes_ref H.data hr3 ((hs.up hV2).up hV3)).use ?_
    rintro q w ⟨rfl, K⟩
    (have hKb := K.base; replace H := H.call0 K)
    (first | (refine H.wg ?_; clear H; intros; rename_i w H; constructor) | refine wk ?_)
    refine ⟨?_, H.less (Sub.refl _) (hV2.trans hV3)⟩
    dsimp only
    unfold txtRes
    rw [o1, ← h4]
    by_cases ht : txtTriv e (runsK rs) = true
    · rw [if_pos ht, if_pos ht, decide_eq_false (fun h => hb h.symm)]
      rfl
    · rw [if_neg ht, if_neg ht, decide_eq_true rfl]
      rfl
set_option maxRecDepth 100000 in
set_option maxHeartbeats 2000000 in
theorem txtTo_ref (hV : Sub V W) {s : Sl} {l : List UInt8} (hs : Byt V s l) (hl : l.length ≤ 100000) : Ret Tryd.prog 13 [s.v].toArray W (ToG W V (txtTo l)) := by
  have H := Rel.start hV
  have hlen := hs.len
  refine cal_of_vc tabOk Tryd.func13 rfl (by kernel_rfl) 81 rfl (by simp) [0, 2, 3, 4, 5, 6, 7, 8, 9, 10, 19, 54, 65] ?_
  (first | (refine H.wh ?_; clear H; intros; rename_i w H; constructor) | refine wk ?_)
  ((first | refine Rel.nwD H ?_ | refine Rel.nw H ?_); clear H; intro w b2 H)
  (first | (refine H.wg ?_; clear H; intros; rename_i w H; constructor) | refine wk ?_)
  refine (fileChars_ref H.data hs (by omega)).use ?_
  rintro q w ⟨V2, r, hV2, K, rfl, hr⟩
  (have hKb := K.base; replace H := H.call0 K)
  obtain ⟨he, e5, hch⟩ := fileC_enc l
  obtain ⟨l1, l2⟩ := encC_len hch he
  obtain ⟨cs, hcs⟩ : ∃ cs, cs = (fileC l).1 := ⟨_, rfl⟩
  obtain ⟨e, hee⟩ : ∃ e, e = (fileC l).2 := ⟨_, rfl⟩
  rw [← hcs] at hr hch l1 l2
  rw [← hee] at e5 ⊢
  have hrl := hr.len
  have hto : txtTo l = if cs.any (fun c => decide (declC c)) = true then none else some (txtVal ((lines cs).1.flatMap u8c), txtRes e (lines cs).2) := by unfold txtTo; rw [← hcs, ← hee]
  (first | (refine H.wg ?_; clear H; intros; rename_i w H; constructor) | refine wk ?_)
  refine loop_inv (S := Nat) tabOk [0, 2, 5, 6, 8, 9, 10, 65] (fun k => [(7, iv k)]) (fun k w' => k ≤ cs.length ∧ (∀ c ∈ cs.take k, ¬ declC c) ∧ Rel W V [.blk b2 (valC zeroH) 27] V2 w') (fun k _ => cs.length - k) 0 ?_
  (conv => whnf)
  refine ⟨(by repeat (first | exact trivial | refine ⟨rfl, ?_⟩)), ⟨by omega, by simp, H⟩, ?_⟩
  clear H
  rintro k w ⟨hk, hnd, H⟩
  dsimp only at hk hnd H ⊢
  by_cases hlt : k < cs.length
  · obtain ⟨p0, c0⟩ := hr.at1 (g := fun u : Nat => iv (u : Int)) (fun _ => rfl) hlt
    have hcl := isCh_lt (hch _ (List.getElem_mem hlt))
    have hmem := List.getElem_mem hlt
    have hnx : ¬ declC cs[k] → ∀ c ∈ cs.take (k + 1), ¬ declC c := fun h c hc => by
      rw [List.take_succ_eq_append_getElem hlt] at hc
      rcases List.mem_append.1 hc with h1 | h1
      · exact hnd c h1
      · rw [List.mem_singleton.1 h1]; exact h
    obtain ⟨c, hce⟩ : ∃ c, c = cs[k] := ⟨_, rfl⟩
    rw [← hce] at c0 hcl hmem hnx
    have hd : declC c → txtTo l = none := fun h => by rw [hto, if_pos (List.any_eq_true.2 ⟨c, hmem, decide_eq_true h⟩)]
    by_cases h32 : c < 32
    · by_cases h9 : c = 9
      · (first | (refine H.wg ?_; clear H; intros; rename_i w H; constructor) | refine wk ?_)
        refine (in_ref (c : Int) 127 159 _).use ?_
        rintro v w' ⟨rfl, rfl⟩
        rw [decide_eq_false (by omega)]
        (first | (refine H.wg ?_; clear H; intros; rename_i w H; constructor) | refine wk ?_)
        exact ⟨(by repeat (first | exact trivial | refine ⟨rfl, ?_⟩)), k + 1, (by repeat (first | exact trivial | refine ⟨rfl, ?_⟩)), ⟨by omega, hnx (by unfold declC; omega), H.sx⟩, by omega⟩
      by_cases h10 : c = 10
      · (first | (refine H.wg ?_; clear H; intros; rename_i w H; constructor) | refine wk ?_)
        refine (in_ref (c : Int) 127 159 _).use ?_
        rintro v w' ⟨rfl, rfl⟩
        rw [decide_eq_false (by omega)]
        (first | (refine H.wg ?_; clear H; intros; rename_i w H; constructor) | refine wk ?_)
        exact ⟨(by repeat (first | exact trivial | refine ⟨rfl, ?_⟩)), k + 1, (by repeat (first | exact trivial | refine ⟨rfl, ?_⟩)), ⟨by omega, hnx (by unfold declC; omega), H.sx⟩, by omega⟩
      by_cases h13 : c = 13
      · (first | (refine H.wg ?_; clear H; intros; rename_i w H; constructor) | refine wk ?_)
        refine (in_ref (c : Int) 127 159 _).use ?_
        rintro v w' ⟨rfl, rfl⟩
        rw [decide_eq_false (by omega)]
        (first | (refine H.wg ?_; clear H; intros; rename_i w H; constructor) | refine wk ?_)
        exact ⟨(by repeat (first | exact trivial | refine ⟨rfl, ?_⟩)), k + 1, (by repeat (first | exact trivial | refine ⟨rfl, ?_⟩)), ⟨by omega, hnx (by unfold declC; omega), H.sx⟩, by omega⟩
      rw [hd (by unfold declC; omega)]
      (first | (refine H.wg ?_; clear H; intros; rename_i w H; constructor) | refine wk ?_)
      exact ⟨V2, zeroH, ⟨none, 0, 0⟩, _, [], hV2, H.sx, valAt_zero _, SlF.nil _ _, rfl⟩
    · (first | (refine H.wg ?_; clear H; intros; rename_i w H; constructor) | refine wk ?_)
      refine (in_ref (c : Int) 127 159 _).use ?_
      rintro v w' ⟨rfl, rfl⟩
      by_cases h127 : 127 ≤ c ∧ c ≤ 159
      · rw [hd (by unfold declC; omega), decide_eq_true (by omega)]
        (first | (refine H.wg ?_; clear H; intros; rename_i w H; constructor) | refine wk ?_)
        exact ⟨V2, zeroH, ⟨none, 0, 0⟩, _, [], hV2, H.sx, valAt_zero _, SlF.nil _ _, rfl⟩
      · rw [decide_eq_false (by omega)]
        (first | (refine H.wg ?_; clear H; intros; rename_i w H; constructor) | refine wk ?_)
        exact ⟨(by repeat (first | exact trivial | refine ⟨rfl, ?_⟩)), k + 1, (by repeat (first | exact trivial | refine ⟨rfl, ?_⟩)), ⟨by omega, hnx (by unfold declC; omega), H.sx⟩, by omega⟩
  rw [List.take_of_length_le (by omega)] at hnd
  rw [if_neg (fun h => by
    obtain ⟨c, hc, hd⟩ := List.any_eq_true.1 h
    exact hnd c hc (of_decide_eq_true hd))] at hto
  rw [hto]
  obtain ⟨a1, a2, a3, a4, a5⟩ := lines_back _ cs (Nat.le_refl _)
  have hch2 : ∀ c ∈ (lines cs).1, isCh c := fun c hc => by
    rcases a5 c hc with h | h
    · rw [h]; unfold isCh; omega
    · exact hch c h
  (first | (refine H.wg ?_; clear H; intros; rename_i w H; constructor) | refine wk ?_)
  refine (lineEnds_ref H.data hr (by omega)).use ?_
  rintro q w ⟨V3, r1, r2, hV3, K, rfl, hr1, hr2⟩
  (have hKb := K.base; replace H := H.call0 K)
  obtain ⟨L, hL⟩ : ∃ L, L = (lines cs).1 := ⟨_, rfl⟩
  rw [← hL] at a4 hch2 hr1 ⊢
  have hr1l := hr1.len
  (first | (refine H.wh ?_; clear H; intros; rename_i w H; constructor) | refine wk ?_)
  ((first | refine Rel.nwD H ?_ | refine Rel.nw H ?_); clear H; intro w b9 H)
  (first | (refine H.wg ?_; clear H; intros; rename_i w H; constructor) | refine wk ?_)
  replace H := H.rowNil 5 1
  have H0 : Rel W V [.row ⟨none, 0, 0⟩ 5 1 (([] : List UInt8).flatMap byC), .blk b9 (valC (bytH ⟨none, 0, 0⟩)) 27, .blk b2 (valC zeroH) 27] V3 w := H
  clear H
  have H := H0
  clear H0
  refine loop_inv (S := Nat × Sl) tabOk [0, 2, 3, 4, 5, 6, 7, 8, 9, 19, 54] (fun q => [(10, iv q.1)]) (fun q w' => q.1 ≤ L.length ∧ ∃ V4, Sub V3 V4 ∧ Rel W V [.row q.2 5 1 (((L.take q.1).flatMap u8c).flatMap byC), .blk b9 (valC (bytH q.2)) 27, .blk b2 (valC zeroH) 27] V4 w') (fun q _ => L.length - q.1) (0, ⟨none, 0, 0⟩) ?_
  (conv => whnf)
  refine ⟨(by repeat (first | exact trivial | refine ⟨rfl, ?_⟩)), ⟨Nat.zero_le _, V3, Sub.refl _, H⟩, ?_⟩
  clear H
  rintro ⟨k, r9⟩ w ⟨hk, V4, hV4, H⟩
  dsimp only at hk H ⊢
  have hlu := u8_take L k
  by_cases hlt : k < L.length
  · obtain ⟨p0, c0⟩ := (hr1.up hV4).at1 (g := fun u : Nat => iv (u : Int)) (fun _ => rfl) hlt
    (first | (refine H.wg ?_; clear H; intros; rename_i w H; constructor) | refine wk ?_)
    ((first | refine draw_vcQ (id := 12) tabOk mixed [6] [0, 1, 2, 3, 4, 5, 6, 7, 8, 9] (by kernel_rfl) ?_ | refine draw_vcQ (id := 13) tabOk mixed [3] [0, 1, 2, 3, 4, 5, 6] (by kernel_rfl) ?_); intro w hdw; replace H := Rel.ext H hdw.ext)
    (first | (refine H.wg ?_; clear H; intros; rename_i w H; constructor) | refine wk ?_)
    refine (utf8_ref H.data (hch2 _ (List.getElem_mem hlt))).use ?_
    rintro v w ⟨V5, r4, hV5, K, rfl, hr4⟩
    (have hKb := K.base; replace H := H.call0 K)
    have hu4 := u8n_le L[k]
    (first | (refine H.wg ?_; clear H; intros; rename_i w H; constructor) | refine wk ?_)
    refine Rel.appBz H hr4 (by rw [u8c_len]; omega) ?_
    clear H
    intro rn w H
    (first | (refine H.wg ?_; clear H; intros; rename_i w H; constructor) | refine wk ?_)
    refine ⟨(by repeat (first | exact trivial | refine ⟨rfl, ?_⟩)), (k + 1, rn), (by repeat (first | exact trivial | refine ⟨rfl, ?_⟩)), ⟨by dsimp only; omega, V5, hV4.trans hV5, ?_⟩, by dsimp only; omega⟩
    dsimp only
    rw [List.take_succ_eq_append_getElem hlt, u8_snoc]
    exact H.sx
  · rw [List.take_of_length_le (by omega)] at H
    obtain ⟨V5, hV5, H, hr9⟩ := Rel.freezeF H (fun _ => rfl) (by decide)
    (first | (refine H.wg ?_; clear H; intros; rename_i w H; constructor) | refine wk ?_)
    ((first | refine draw_vcQ (id := 12) tabOk mixed [6] [0, 1, 2, 3, 4, 5, 6, 7, 8, 9] (by kernel_rfl) ?_ | refine draw_vcQ (id := 13) tabOk mixed [3] [0, 1, 2, 3, 4, 5, 6] (by kernel_rfl) ?_); intro w hdw; replace H := Rel.ext H hdw.ext)
    (first | (refine H.wg ?_; clear H; intros; rename_i w H; constructor) | refine wk ?_)
    refine (txtRes_ref H.data ((hr2.up hV4).up hV5) (by omega) a2 e5).use ?_
    rintro v w ⟨V6, r6, hV6, K, rfl, hr6⟩
    (have hKb := K.base; replace H := H.call0 K)
    (first | (refine H.wg ?_; clear H; intros; rename_i w H; constructor) | refine wk ?_)
    exact ⟨V6, bytH r9, r6, _, _, (((hV2.trans hV3).trans hV4).trans hV5).trans hV6, H.sx, valAt_byt (hr9.up hV6), hr6, rfl, rfl⟩
end
end Go.Proofs.YtgnaojphgdaalaaDoor
