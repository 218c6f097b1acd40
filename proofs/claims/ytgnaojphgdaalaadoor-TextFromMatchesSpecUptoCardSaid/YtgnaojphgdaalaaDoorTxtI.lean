/-
  Text files: To.
-/
import Derived.Test.YtgnaojphgdaalaaDoorTxtG
import Derived.Test.YtgnaojphgdaalaaDoorTxtH
namespace Go.Proofs.YtgnaojphgdaalaaDoor
open Go Go.RowKit

section
variable {V W : World}
set_option maxRecDepth 100000 in
set_option maxHeartbeats 1000000 in
theorem to_txt (hV : Sub V W) (hT : Lib.Utf8Tabs 0 1 V) {s : Sl} {l : List UInt8} (hs : Byt V s l) (hl : l.length ≤ 1099511627776) : Ret Tryd.prog 10 [s.v].toArray W (ToR W V (toRes (txtTo l) l.length)) := by
  have H := Rel.start hV
  have hlen := hs.len
  refine cal_of_vc tabOk Tryd.func10 rfl (by kernel_rfl) 35 rfl (by simp) [0, 2, 3, 4, 5, 6, 7, 8, 11, 20] ?_
  (first | (refine H.wh ?_; clear H; intros; rename_i w H; constructor) | refine wk ?_)
  ((first | refine Rel.nwD H ?_ | refine Rel.nw H ?_); clear H; intro w b2 H)
  (first | (refine H.wh ?_; clear H; intros; rename_i w H; constructor) | refine wk ?_)
  ((first | refine Rel.nwD H ?_ | refine Rel.nw H ?_); clear H; intro w b4 H)
  by_cases hbig : 1000 < l.length
  · have e : toRes (txtTo l) l.length = ⟨zeroV, [], 3, -1⟩ := by unfold toRes; rw [if_pos hbig]
    rw [e]
    (first | (refine H.wg ?_; clear H; intros; rename_i w H; constructor) | refine wk ?_)
    refine (fault_txt H.data 3 (-1)).use ?_
    rintro q w ⟨rfl, K⟩
    (have hKb := K.base; replace H := H.call0 K)
    (first | (refine H.wg ?_; clear H; intros; rename_i w H; constructor) | refine wk ?_)
    exact ⟨V, zeroH, ⟨none, 0, 0⟩, Sub.refl _, H.sx, rfl, valAt_zero _, SlF.nil _ _⟩
  (first | (refine H.wg ?_; clear H; intros; rename_i w H; constructor) | refine wk ?_)
  refine (decode_spec H.data hT hs (by omega)).use ?_
  rintro q w ⟨V2, r, hV2, K, rfl, hr⟩
  (have hKb := K.base; replace H := H.call0 K)
  obtain ⟨he, e5, hch⟩ := fileC_enc l
  obtain ⟨l1, l2⟩ := encC_len hch he
  obtain ⟨cs, hcs⟩ : ∃ cs, cs = (fileC l).1 := ⟨_, rfl⟩
  obtain ⟨e, hee⟩ : ∃ e, e = (fileC l).2 := ⟨_, rfl⟩
  rw [← hcs] at hr hch l1 l2
  rw [← hee] at e5 ⊢
  have hto : txtTo l = if cs.any (fun c => decide (declC c)) = true then none else some (txtVal ((lines cs).1.flatMap u8c), txtRes e (lines cs).2) := by unfold txtTo; rw [← hcs, ← hee]
  (first | (refine H.wg ?_; clear H; intros; rename_i w H; constructor) | refine wk ?_)
  refine (containsFunc_runes (g := 27) (caps := []) H.data hr (by omega) (fun c => decide (declC c)) (fun x _ w hw => declined_spec hw x)).use ?_
  rintro q w ⟨rfl, K⟩
  (have hKb := K.base; replace H := H.call0 K)
  cases hd : cs.any (fun c => decide (declC c)) with
  | true =>
    rw [hd, if_pos rfl] at hto
    have e : toRes (txtTo l) l.length = ⟨zeroV, [], 21, -1⟩ := by unfold toRes; rw [if_neg hbig, hto]
    rw [e]
    (first | (refine H.wg ?_; clear H; intros; rename_i w H; constructor) | refine wk ?_)
    refine (fault_txt H.data 21 (-1)).use ?_
    rintro q w ⟨rfl, K⟩
    (have hKb := K.base; replace H := H.call0 K)
    (first | (refine H.wg ?_; clear H; intros; rename_i w H; constructor) | refine wk ?_)
    exact ⟨V2, zeroH, ⟨none, 0, 0⟩, hV2, H.sx, rfl, valAt_zero _, SlF.nil _ _⟩
  | false =>
    rw [hd, if_neg (by simp)] at hto
    have e2 : toRes (txtTo l) l.length = ⟨txtVal ((lines cs).1.flatMap u8c), txtRes e (lines cs).2, 0, 0⟩ := by unfold toRes; rw [if_neg hbig, hto]
    rw [e2]
    obtain ⟨a1, a2, a3, a4, a5⟩ := lines_back _ cs (Nat.le_refl _)
    obtain ⟨r1, r2, r3, r4, r5⟩ := runsOf_facts (lines cs).2
    have ho := runsOk_small (r3 a2 3 (by
      cases hk : (lines cs).2 with
      | nil => simp
      | cons k ks => have := a2 k (by rw [hk]; simp); simp; omega))
    have hr1 : ∀ r ∈ runsOf (lines cs).2, 1 ≤ r.2 := runsOk_pos (r3 a2 3 (by
      cases hk : (lines cs).2 with
      | nil => simp
      | cons k ks => have := a2 k (by rw [hk]; simp); simp; omega))
    (first | (refine H.wg ?_; clear H; intros; rename_i w H; constructor) | refine wk ?_)
    refine (plain_txt H.data hr (by omega) hch).use ?_
    rintro q w ⟨V3, ra, rb, hV3, K, rfl, hra, hrb⟩
    (have hKb := K.base; replace H := H.call0 K)
    (first | (refine H.wg ?_; clear H; intros; rename_i w H; constructor) | refine wk ?_)
    refine (form_spec H.data e5 hrb (by omega) (fun r hr => ⟨(ho.2 r hr).1, hr1 r hr, by have := (ho.2 r hr).2; omega⟩)).use ?_
    rintro q w ⟨rc, rfl, K⟩
    (have hKb := K.base; replace H := Rel.call H K)
    simp only [List.cons_append, List.nil_append] at H
    rw [r1] at H
    have hres : (if txtTriv e (lines cs).2 = true then [] else txtRB e (runsOf (lines cs).2)) = txtRes e (lines cs).2 := rfl
    rw [hres] at H
    obtain ⟨V4, hV4, H, hrc⟩ := Rel.freezeF H (fun _ => rfl) (by decide)
    (first | (refine H.wg ?_; clear H; intros; rename_i w H; constructor) | refine wk ?_)
    exact ⟨V4, bytH ra, rc, (hV2.trans hV3).trans hV4, H.sx, rfl, valAt_byt (hra.up hV4), hrc⟩
end
end Go.Proofs.YtgnaojphgdaalaaDoor
