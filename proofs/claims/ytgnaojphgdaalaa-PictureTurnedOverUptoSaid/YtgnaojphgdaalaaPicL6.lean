/-
  picture files: a picture whose rows are turned over.
-/
import Derived.Test.YtgnaojphgdaalaaPicX
import Derived.Test.YtgnaojphgdaalaaVcW
namespace Go.Proofs.Ytgnaojphgdaalaa
open Go Go.RowKit

theorem xor_flip : ∀ x : Nat, x < 256 → bitsI .xor .u8 (x : Int) 1 = ((flipF x : Nat) : Int) := by decide +kernel
set_option maxRecDepth 100000 in
set_option maxHeartbeats 2000000 in
theorem law_pic_turned {W : World} {s : Sl} {l : List UInt8} (hs0 : By W s l) (hl : l.length ≤ 1048576) : Ret Try.prog 7 [s.v].toArray W fun v w' => v = .bool true ∧ Ext W w' := by
  have H := Rel.start (Sub.refl W)
  have hs := hs0.slf
  have hlen := hs.len
  refine cal_of_vc tabOk Try.func7 rfl (by kernel_rfl) 84 rfl (by simp) [0, 2, 3, 4, 5, 6, 7, 8, 9, 10, 11, 13, 34, 46] ?_
  (first | (refine H.wg ?_; clear H; intros; rename_i w H; constructor) | refine wk ?_)
  refine (example_pic H.data).use ?_
  rintro q w ⟨rfl, V1, hV1, K⟩
  (have hKb := K.base; replace H := H.call0 K)
  (first | (refine H.wg ?_; clear H; intros; rename_i w H; constructor) | refine wk ?_)
  refine (to_pic H.data (hs.up hV1) (by omega)).use ?_
  rintro q w ⟨V2, h, r, hV2, K, rfl, hv, hr⟩
  (have hKb := K.base; replace H := H.call0 K)
  have hV12 := hV1.trans hV2
  by_cases hbad : ∃ c i, (c : Int) ≠ 0 ∧ toRes (picTo l) l.length = ⟨zeroV, [], c, i⟩
  · obtain ⟨c, i, hc0, e⟩ := hbad
    rw [e] at hv hr ⊢
    dsimp only at hv hr ⊢
    (first | (refine H.wh ?_; clear H; intros; rename_i w H; constructor) | refine wk ?_)
    ((first | refine Rel.nwD H ?_ | refine Rel.nw H ?_); clear H; intro w b3 H)
    (first | (refine H.wh ?_; clear H; intros; rename_i w H; constructor) | refine wk ?_)
    ((first | refine Rel.nwD H ?_ | refine Rel.nw H ?_); clear H; intro w b5 H)
    (first | (refine H.wg ?_; clear H; intros; rename_i w H; constructor) | refine wk ?_)
    first | exact H.base | exact ⟨rfl, H.base⟩
  by_cases hbig : 1000 < l.length
  · exact absurd ⟨3, -1, by decide, by unfold toRes; rw [if_pos hbig]⟩ hbad
  cases ht : picTo l with
  | none => exact absurd ⟨21, -1, by decide, by unfold toRes; rw [if_neg hbig, ht]⟩ hbad
  | some y =>
    obtain ⟨vv, rr⟩ := y
    have e : toRes (picTo l) l.length = ⟨vv, rr, 0, 0⟩ := by unfold toRes; rw [if_neg hbig, ht]
    rw [e] at hv hr
    rw [← ht, e]
    dsimp only at hv hr ⊢
    obtain ⟨hVB, hvf, hsh, hmk, hrl, ls, hls, _⟩ := pic_valid (by omega) ht
    (first | (refine H.wh ?_; clear H; intros; rename_i w H; constructor) | refine wk ?_)
    ((first | refine Rel.nwD H ?_ | refine Rel.nw H ?_); clear H; intro w b3 H)
    (first | (refine H.wh ?_; clear H; intros; rename_i w H; constructor) | refine wk ?_)
    ((first | refine Rel.nwD H ?_ | refine Rel.nw H ?_); clear H; intro w b5 H)
    have hrlen := hr.len
    cases rr with
    | nil =>
      rw [List.length_nil] at hrlen
      (first | (refine H.wg ?_; clear H; intros; rename_i w H; constructor) | refine wk ?_)
      first | exact H.base | exact ⟨rfl, H.base⟩
    | cons c R =>
      rw [List.length_cons] at hrlen hrl
      obtain ⟨p0, c0⟩ := hr.at1 (g := bv) (fun _ => rfl) (show 0 < (c :: R).length by simp)
      rw [List.getElem_cons_zero] at c0
      have hc256 := c.toNat_lt
      by_cases hc4 : c.toNat % 4 ≤ 1
      rotate_left
      · (first | (refine H.wg ?_; clear H; intros; rename_i w H; constructor) | refine wk ?_)
        first | exact H.base | exact ⟨rfl, H.base⟩
      have hrd : ∃ f pal, picRd (c :: R) = some (f, pal) := by
        unfold picLoss at hls
        cases hq : picRd (c :: R) with
        | none => rw [hq] at hls; cases hls
        | some x => exact ⟨x.1, x.2, rfl⟩
      obtain ⟨f, pal, hrd⟩ := hrd
      obtain ⟨hres, hfo, hpo⟩ := picRd_some hrd
      have hf64 := hfo.1
      have hf48 : ¬ f = 48 := fun h => by rw [picRes_nil.2 h] at hres; cases hres
      have hcf : c.toNat = f ∧ R = styB f pal := by
        unfold picRes at hres
        rw [if_neg hf48] at hres
        injection hres with h1 h2
        exact ⟨by rw [h1, UInt8.toNat_ofNat']; omega, h2⟩
      obtain ⟨hcf, hR⟩ := hcf
      change _ = some (Value.int .u8 (c.toNat : Nat)) at c0
      rw [hcf] at hc4 c0
      obtain ⟨o, hmo, hol⟩ := pic_turned (by omega) ht hrd hc4
      obtain ⟨_, hto2⟩ := picMake_some hmo
      have hfl := flipF_eq f
      have hpl := styB_len hpo
      (first | (refine H.wg ?_; clear H; intros; rename_i w H; constructor) | refine wk ?_)
      refine (copy_ref H.data hr (by simp only [List.length_cons]; omega)).use ?_
      rintro q w ⟨r6, rfl, K⟩
      (have hKb := K.base; replace H := Rel.call H K)
      simp only [List.cons_append, List.nil_append] at H
      have hr6 := H.rowLen (i := 0) rfl (fun _ => rfl) (by decide)
      rw [List.length_cons] at hr6
      have hp6 : Plain r6.a := (H.slfAt (i := 0) rfl (fun _ => rfl) (by decide)).cells.1 (by simp [byC])
      (first | (refine H.wg ?_; clear H; intros; rename_i w H; constructor) | refine wk ?_)
      obtain ⟨_, u1⟩ := (H.slfAt (i := 0) rfl (fun _ => rfl) (by decide)).at1 (g := bv) (fun _ => rfl) (i := 0) (by simp)
      rw [List.getElem_cons_zero] at u1
      change _ = some (Value.int .u8 (c.toNat : Nat)) at u1
      rw [hcf] at u1
      refine ⟨_, u1, ?_⟩
      (first | (refine H.wg ?_; clear H; intros; rename_i w H; constructor) | refine wk ?_)
      rw [xor_flip f (by omega)]
      refine Rel.stRow (i := 0) H rfl 0 (by omega) rfl rfl ?_
      clear H
      intro w H
      simp only [List.set_cons_zero] at H
      have hx256 : flipF f < 256 := by omega
      have eB : (List.flatMap byC (c :: R)).set 0 (Value.int IntKind.u8 (flipF f : Nat)) = (UInt8.ofNat (flipF f) :: R).flatMap byC := by
        show Value.int .u8 (flipF f : Nat) :: R.flatMap byC = Value.int .u8 ((UInt8.ofNat (flipF f)).toNat : Nat) :: R.flatMap byC
        rw [toNat_ofNat_lt hx256]
      rw [eB] at H
      obtain ⟨V3, hV3, H, hr6'⟩ := Rel.freezeF H (fun _ => rfl) (by decide)
      obtain ⟨_, d0⟩ := hr6'.at1 (g := bv) (fun _ => rfl) (i := 0) (by simp)
      rw [List.getElem_cons_zero] at d0
      change _ = some (Value.int .u8 ((UInt8.ofNat (flipF f)).toNat : Nat)) at d0
      rw [toNat_ofNat_lt hx256] at d0
      have hV13 := hV12.trans hV3
      by_cases h48 : flipF f = 48
      · have er : ([] : List UInt8) = picRes (flipF f) pal := (picRes_nil.2 h48).symm
        (first | (refine H.wg ?_; clear H; intros; rename_i w H; constructor) | refine wk ?_)
        refine (from_pic H.data (hv.up hV3) hVB (SlF.nil byC V3) (by simp only [List.length_cons, List.length_nil]; omega)).use ?_
        rintro q w ⟨V4, r4, hV4, K, rfl, hr4⟩
        (have hKb := K.base; replace H := H.call0 K)
        rw [er, hsh] at hr4 ⊢
        have e2 : frRes vv true (picMake vv (picRes (flipF f) pal)) = (o, 0, 0) := by rw [hmo]; unfold frRes; rw [if_neg (fun h => h hvf)]; rfl
        rw [e2] at hr4 ⊢
        dsimp only at hr4 ⊢
        have hr4l := hr4.len
        (first | (refine H.wh ?_; clear H; intros; rename_i w H; constructor) | refine wk ?_)
        ((first | refine Rel.nwD H ?_ | refine Rel.nw H ?_); clear H; intro w b8 H)
        (first | (refine H.wg ?_; clear H; intros; rename_i w H; constructor) | refine wk ?_)
        refine (to_pic H.data hr4 (by omega)).use ?_
        rintro q w ⟨V5, h5, r5, hV5, K, rfl, hv5, hr5⟩
        (have hKb := K.base; replace H := H.call0 K)
        have e3 : toRes (picTo o) o.length = ⟨vv, picRes (flipF f) pal, 0, 0⟩ := by unfold toRes; rw [if_neg (by omega), hto2]
        rw [e3] at hv5 hr5 ⊢
        dsimp only at hv5 hr5 ⊢
        (first | (refine H.wh ?_; clear H; intros; rename_i w H; constructor) | refine wk ?_)
        ((first | refine Rel.nwD H ?_ | refine Rel.nw H ?_); clear H; intro w b9 H)
        (first | (refine H.wh ?_; clear H; intros; rename_i w H; constructor) | refine wk ?_)
        ((first | refine Rel.nwD H ?_ | refine Rel.nw H ?_); clear H; intro w b11 H)
        (first | (refine H.wg ?_; clear H; intros; rename_i w H; constructor) | refine wk ?_)
        refine (same_value (SizeOf.sizeOf (vv : Val) + 1) H.data (Nat.lt_succ_self _) (((hv.up hV3).up hV4).up hV5) hv5 (vb_big hVB)).use ?_
        rintro q w ⟨r0, rfl, hsame, K⟩
        (have hKb := K.base; replace H := H.call0 K)
        obtain rfl := hsame.2 rfl
        (first | (refine H.wg ?_; clear H; intros; rename_i w H; constructor) | refine wk ?_)
        refine (bytes_ref H.data hr5 ((((SlF.nil byC V3)).up hV4).up hV5)).use ?_
        rintro q w ⟨rfl, K⟩
        (have hKb := K.base; replace H := H.call0 K)
        rw [decide_eq_true er.symm]
        (first | (refine H.wg ?_; clear H; intros; rename_i w H; constructor) | refine wk ?_)
        first | exact H.base | exact ⟨rfl, H.base⟩
      · have er : (UInt8.ofNat (flipF f) :: R) = picRes (flipF f) pal := by unfold picRes; rw [if_neg h48, styB_flip, hR]
        (first | (refine H.wg ?_; clear H; intros; rename_i w H; constructor) | refine wk ?_)
        refine (from_pic H.data (hv.up hV3) hVB hr6' (by simp only [List.length_cons, List.length_nil]; omega)).use ?_
        rintro q w ⟨V4, r4, hV4, K, rfl, hr4⟩
        (have hKb := K.base; replace H := H.call0 K)
        rw [er, hsh] at hr4 ⊢
        have e2 : frRes vv true (picMake vv (picRes (flipF f) pal)) = (o, 0, 0) := by rw [hmo]; unfold frRes; rw [if_neg (fun h => h hvf)]; rfl
        rw [e2] at hr4 ⊢
        dsimp only at hr4 ⊢
        have hr4l := hr4.len
        (first | (refine H.wh ?_; clear H; intros; rename_i w H; constructor) | refine wk ?_)
        ((first | refine Rel.nwD H ?_ | refine Rel.nw H ?_); clear H; intro w b8 H)
        (first | (refine H.wg ?_; clear H; intros; rename_i w H; constructor) | refine wk ?_)
        refine (to_pic H.data hr4 (by omega)).use ?_
        rintro q w ⟨V5, h5, r5, hV5, K, rfl, hv5, hr5⟩
        (have hKb := K.base; replace H := H.call0 K)
        have e3 : toRes (picTo o) o.length = ⟨vv, picRes (flipF f) pal, 0, 0⟩ := by unfold toRes; rw [if_neg (by omega), hto2]
        rw [e3] at hv5 hr5 ⊢
        dsimp only at hv5 hr5 ⊢
        (first | (refine H.wh ?_; clear H; intros; rename_i w H; constructor) | refine wk ?_)
        ((first | refine Rel.nwD H ?_ | refine Rel.nw H ?_); clear H; intro w b9 H)
        (first | (refine H.wh ?_; clear H; intros; rename_i w H; constructor) | refine wk ?_)
        ((first | refine Rel.nwD H ?_ | refine Rel.nw H ?_); clear H; intro w b11 H)
        (first | (refine H.wg ?_; clear H; intros; rename_i w H; constructor) | refine wk ?_)
        refine (same_value (SizeOf.sizeOf (vv : Val) + 1) H.data (Nat.lt_succ_self _) (((hv.up hV3).up hV4).up hV5) hv5 (vb_big hVB)).use ?_
        rintro q w ⟨r0, rfl, hsame, K⟩
        (have hKb := K.base; replace H := H.call0 K)
        obtain rfl := hsame.2 rfl
        (first | (refine H.wg ?_; clear H; intros; rename_i w H; constructor) | refine wk ?_)
        refine (bytes_ref H.data hr5 (((hr6').up hV4).up hV5)).use ?_
        rintro q w ⟨rfl, K⟩
        (have hKb := K.base; replace H := H.call0 K)
        rw [decide_eq_true er.symm]
        (first | (refine H.wg ?_; clear H; intros; rename_i w H; constructor) | refine wk ?_)
        first | exact H.base | exact ⟨rfl, H.base⟩
end Go.Proofs.Ytgnaojphgdaalaa
