/-
  Pictures, the reference: bits of a pixel, bytes of a row.
-/
import Derived.Test.YtgnaojphgdaalaaGreatPicC
namespace Go.Proofs.YtgnaojphgdaalaaGreat
open Go Go.RowKit

section
variable {V W : World}
theorem pixelBits_ref (hV : Sub V W) {f : Nat} (hf : f < 64) : Ret Tryz.prog 28 [iv (f : Int)].toArray W fun v w' => v = iv ((bitsOf f : Nat) : Int) ∧ Rel W V [] V w' := by
  have H := Rel.start hV
  refine cal_of_vc tabOk Tryz.func28 rfl (by kernel_rfl) 10 rfl (by simp) [0, 2, 3] ?_
  (first | (refine H.wh ?_; clear H; intros; rename_i w H; constructor) | refine wk ?_)
  ((first | refine Rel.nwD H ?_ | refine Rel.nw H ?_); clear H; intro w b4 H)
  unfold bitsOf
  obtain ⟨d, hd⟩ : ∃ d, d = f / 16 := ⟨_, rfl⟩
  have hdi : (f : Int) / 16 = (d : Int) := by omega
  rw [← hd]
  have : d = 0 ∨ d = 1 ∨ d = 2 ∨ d = 3 := by omega
  (first | (refine H.wh ?_; clear H; intros; rename_i w H; constructor) | refine wk ?_)
  rw [hdi]
  clear hd hdi
  rcases this with rfl | rfl | rfl | rfl
  all_goals
    (first | (refine H.wg ?_; clear H; intros; rename_i w H; constructor) | refine wk ?_)
    exact H.sx
abbrev picC (f wd ht : Int) (p : Sl) : List Value := [iv f, iv wd, iv ht, p.v]
theorem rowSize_ref (hV : Sub V W) {f : Nat} (hf : f < 64) {wd : Nat} (hw : wd ≤ 64) (ht : Int) (p : Sl) : Ret Tryz.prog 29 [.agg (picC f wd ht p).toArray].toArray W fun v w' => v = iv ((rowOf f wd : Nat) : Int) ∧ Rel W V [] V w' := by
  have H := Rel.start hV
  have hb := bitsOf_le f
  have hm : wd * bitsOf f ≤ 64 * 24 := Nat.mul_le_mul hw hb.2
  have hmi : (wd : Int) * ((bitsOf f : Nat) : Int) = ((wd * bitsOf f : Nat) : Int) := (Int.natCast_mul _ _).symm
  refine cal_of_vc tabOk Tryz.func29 rfl (by kernel_rfl) 11 rfl (by simp) [0, 1, 2] ?_
  (first | (refine H.wh ?_; clear H; intros; rename_i w H; constructor) | refine wk ?_)
  ((first | refine Rel.nwD H ?_ | refine Rel.nw H ?_); clear H; intro w b1 H)
  obtain ⟨V2, hV2, H, hb1⟩ := H.freezeBlk
  have f0 := hb1.cel (i := 0) rfl
  have f1 := hb1.cel (i := 1) rfl
  (first | (refine H.wg ?_; clear H; intros; rename_i w H; constructor) | refine wk ?_)
  ((first | refine draw_vcTX (id := 1) tabOk mixed (Kv V2) Kv.trans [4] [1] [0, 1, 2, 3, 4, 5, 6, 7, 8] [(4, [])] (by kernel_rfl) ?_); intro w hdw; replace H := Rel.ext H hdw.ext)
  repeat' ((first | (refine H.wh ?_; clear H; intros; rename_i w H; constructor) | refine wk ?_); first | (first | refine Kv.go H ?_ | refine Kv.go2 H (by assumption) ?_ | (refine And.intro (fun w1 hkp => ?_) ?_; focus ((first | have H := Kv.in H hkp | have H := Kv.in2 H (by assumption) hkp); ((repeat ((conv => whnf); first | refine an ?_ | refine H.ce ?_ | refine H.db ?_ | refine ea ?_ | refine ol ?_ | fail | refine cT ?_ | refine cF ?_ | refine cN ?_ | refine cM ?_ | refine H.lw ?_ | refine H.ll ?_)); (conv => whnf)); all_goals (first | exact ⟨rfl, rfl⟩ | exact rfl))) | refine And.intro ?_ ?_ | ((first | refine Rel.nwD H ?_ | refine Rel.nw H ?_); clear H; intro w _ H)) | (refine (pixelBits_ref H.data hf).use ?_; rintro q w ⟨rfl, K⟩; (have hKb := K.base; replace H := H.call0 K)))
  all_goals
    (first | (refine H.wg ?_; clear H; intros; rename_i w H; constructor) | refine wk ?_)
    exact H.less (Sub.refl V) hV2
end
end Go.Proofs.YtgnaojphgdaalaaGreat
namespace Go.Proofs.YtgnaojphgdaalaaGreat
open Go Go.RowKit

abbrev sWidth : List UInt8 := [119, 105, 100, 116, 104]
abbrev sHeight : List UInt8 := [104, 101, 105, 103, 104, 116]
abbrev sPixels : List UInt8 := [112, 105, 120, 101, 108, 115]
abbrev picVal (wd ht : Int) (b : List UInt8) : Val := .mk 4 0 [] [sWidth, sHeight, sPixels] [.mk 1 wd [] [] [], .mk 1 ht [] [] [], .mk 2 0 b [] []]
theorem picVal_at {V : World} {bn bp : Nat} {wd ht : Int} {r : Sl} {b : List UInt8} (h1 : Cells V (some ⟨bn, 0, none⟩) [str sWidth, str sHeight, str sPixels]) (h2 : Cells V (some ⟨bp, 0, none⟩) (valC (numH wd) ++ (valC (numH ht) ++ valC (bytH r)))) (h3 : Byt V r b) :
    ValAt V ⟨4, 0, ⟨none, 0, 0⟩, ⟨some ⟨bn, 0, none⟩, 3, 3⟩, ⟨some ⟨bp, 0, none⟩, 3, 3⟩⟩ (picVal wd ht b) := by
  refine valAt_rec (hs := [numH wd, numH ht, bytH r]) ⟨rfl, Nat.le_refl _, h1⟩ ⟨rfl, Nat.le_refl _, h2⟩ rfl fun i x p hx hp => ?_
  match i, hx, hp with
  | 0, hx, hp => cases hx; cases hp; exact valAt_num _ _
  | 1, hx, hp => cases hx; cases hp; exact valAt_num _ _
  | 2, hx, hp => cases hx; cases hp; exact valAt_byt h3
  | k + 3, hx, hp => simp at hx
theorem vb_pic {wd ht : Int} {b : List UInt8} (h1 : I64 wd) (h2 : I64 ht) (h3 : b.length ≤ 1048576) : VB 1048576 (picVal wd ht b) := by
  refine .mk (i64_c 4) (i64_c 0) (Nat.zero_le _) (by show 3 ≤ 1048576; decide) (fun s hs => ?_) (by show 3 ≤ 1048576; decide) fun p hp => ?_
  · simp only [Val.names, List.mem_cons, List.not_mem_nil, or_false] at hs
    rcases hs with rfl | rfl | rfl <;> decide
  · simp only [Val.parts, List.mem_cons, List.not_mem_nil, or_false] at hp
    rcases hp with rfl | rfl | rfl
    · exact vb_num h1
    · exact vb_num h2
    · exact vb_byt h3
section
variable {V W : World}
set_option maxRecDepth 100000 in
theorem plainPicture_ref (hV : Sub V W) (wd ht : Int) {s : Sl} {b : List UInt8} (hs : Byt V s b) :
    Ret Tryz.prog 14 [iv wd, iv ht, s.v].toArray W fun q w' => ∃ (V' : World) (h : VH), Sub V V' ∧ Rel W V [] V' w' ∧ q = valV h ∧ ValAt V' h (picVal wd ht b) := by
  have H := Rel.start hV
  refine cal_of_vc tabOk Tryz.func14 rfl (by kernel_rfl) 16 rfl (by simp) [0, 1, 2, 6] ?_
  (first | (refine H.wh ?_; clear H; intros; rename_i w H; constructor) | refine wk ?_)
  ((first | refine Rel.nwD H ?_ | refine Rel.nw H ?_); clear H; intro w b6 H)
  (first | (refine H.wh ?_; clear H; intros; rename_i w H; constructor) | refine wk ?_)
  ((first | refine Rel.nwD H ?_ | refine Rel.nw H ?_); clear H; intro w b7 H)
  (first | (refine H.wh ?_; clear H; intros; rename_i w H; constructor) | refine wk ?_)
  ((first | refine Rel.nwD H ?_ | refine Rel.nw H ?_); clear H; intro w b14 H)
  have H0 : Rel W V [.blk b14 (valC (numH wd) ++ (valC (numH ht) ++ valC (bytH s))) 26, .blk b7 [str sWidth, str sHeight, str sPixels] 9, .blk b6 (valC zeroH) 26] V w := H
  obtain ⟨V2, hV2, H, hb14⟩ := H0.freezeBlk
  clear H0
  obtain ⟨V3, hV3, H, hb7⟩ := H.freezeBlk
  (first | (refine H.wg ?_; clear H; intros; rename_i w H; constructor) | refine wk ?_)
  exact ⟨V3, _, hV2.trans hV3, H.sx, rfl, picVal_at hb7.cells (hb14.cells.sub' hV3) ((hs.up hV2).up hV3)⟩
end
end Go.Proofs.YtgnaojphgdaalaaGreat
namespace Go.Proofs.YtgnaojphgdaalaaGreat
open Go Go.RowKit

theorem flat_one {α : Type} {f : α → List Value} {l : List α} (h : ∀ x, (f x).all Value.oneCell' = true) : ∀ u ∈ l.flatMap f, u.oneCell' = true := by
  intro u hu
  obtain ⟨x, _, hx⟩ := List.mem_flatMap.1 hu
  exact List.all_eq_true.1 (h x) u hx
section
variable {V W : World}
theorem clone_bytes (hV : Sub V W) {s : Sl} {l : List UInt8} (hs : SlF byC V s l) (hl : l.length ≤ 1099511627776) : Ret Tryz.prog 61 [s.v].toArray W fun v w' => ∃ (V' : World) (t : Sl), Sub V V' ∧ Rel W V [] V' w' ∧ v = t.v ∧ SlF byC V' t l := by
  have H := Rel.start hV
  have hlen := hs.len
  refine cal_of_vc tabOk Tryz.func61 rfl (by kernel_rfl) 8 rfl (by simp) [0, 2, 4] ?_
  rcases s with ⟨_ | p, n, c⟩
  · have hl0 : l = [] := by
      rcases l with _ | ⟨b, l⟩
      · rfl
      · have := hs.cells.1 (by simp [byC])
        simp [Plain] at this
    subst hl0
    (first | (refine H.wg ?_; clear H; intros; rename_i w H; constructor) | refine wk ?_)
    exact ⟨V, ⟨none, 0, 0⟩, Sub.refl V, H.sx, rfl, SlF.nil _ _⟩
  · (first | (refine H.wh ?_; clear H; intros; rename_i w H; constructor) | refine wk ?_)
    ((first | refine Rel.nwD H ?_ | refine Rel.nw H ?_); clear H; intro w b5 H)
    (first | (refine H.wg ?_; clear H; intros; rename_i w H; constructor) | refine wk ?_)
    replace H := H.toRow (n := 0) (e := 5) (sz := 1) rfl (by simp [maxLen])
    refine Rel.app_0 (s := ⟨some ⟨b5, 0, none⟩, 0, 0⟩) (x := ⟨some p, n, c⟩) tabOk rfl rfl rfl rfl rfl (by decide) H (hs.up H.data).cells (flat_len (n := 1) (fun _ => rfl) l |>.trans (by rw [← hlen])) (flat_one (fun _ => rfl)) (by simp; dsimp only at hlen; omega) (by simp; dsimp only at hlen; omega) ?_
    clear H
    intro rn w H hrn
    (first | (refine H.wg ?_; clear H; intros; rename_i w H; constructor) | refine wk ?_)
    obtain ⟨V2, hV2, H, hr⟩ := Rel.freezeF H (fun _ => rfl) (by decide)
    exact ⟨V2, rn, hV2, H.sx, rfl, hr⟩
set_option maxRecDepth 100000 in
theorem num_pic (hV : Sub V W) (n : Int) : Ret Tryz.prog 60 [iv n].toArray W fun q w' => q = valV (numH n) ∧ Rel W V [] V w' := by
  have H := Rel.start hV
  refine cal_of_vc tabOk Tryz.func60 rfl (by kernel_rfl) 5 rfl (by simp) [0, 2] ?_
  (first | (refine H.wh ?_; clear H; intros; rename_i w H; constructor) | refine wk ?_)
  ((first | refine Rel.nwD H ?_ | refine Rel.nw H ?_); clear H; intro w b2 H)
  (first | (refine H.wg ?_; clear H; intros; rename_i w H; constructor) | refine wk ?_)
  exact H.sx
set_option maxRecDepth 100000 in
theorem plain_spec (hV : Sub V W) (wd ht : Int) {s : Sl} {b : List UInt8} (hs : Byt V s b) (hl : b.length ≤ 1099511627776) :
    Ret Tryz.prog 33 [iv wd, iv ht, s.v].toArray W fun q w' => ∃ (V' : World) (h : VH), Sub V V' ∧ Rel W V [] V' w' ∧ q = valV h ∧ ValAt V' h (picVal wd ht b) := by
  have H := Rel.start hV
  refine cal_of_vc tabOk Tryz.func33 rfl (by kernel_rfl) 20 rfl (by simp) [0, 1, 2, 6, 7] ?_
  (first | (refine H.wh ?_; clear H; intros; rename_i w H; constructor) | refine wk ?_)
  ((first | refine Rel.nwD H ?_ | refine Rel.nw H ?_); clear H; intro w b6 H)
  (first | (refine H.wh ?_; clear H; intros; rename_i w H; constructor) | refine wk ?_)
  ((first | refine Rel.nwD H ?_ | refine Rel.nw H ?_); clear H; intro w b7 H)
  (first | (refine H.wg ?_; clear H; intros; rename_i w H; constructor) | refine wk ?_)
  refine (num_pic H.data wd).use ?_
  rintro q w ⟨rfl, K⟩
  (have hKb := K.base; replace H := H.call0 K)
  (first | (refine H.wg ?_; clear H; intros; rename_i w H; constructor) | refine wk ?_)
  refine (num_pic H.data ht).use ?_
  rintro q w ⟨rfl, K⟩
  (have hKb := K.base; replace H := H.call0 K)
  (first | (refine H.wg ?_; clear H; intros; rename_i w H; constructor) | refine wk ?_)
  refine (clone_bytes H.data hs hl).use ?_
  rintro q w ⟨V2, r, hV2, K, rfl, hr⟩
  (have hKb := K.base; replace H := H.call0 K)
  (first | (refine H.wh ?_; clear H; intros; rename_i w H; constructor) | refine wk ?_)
  ((first | refine Rel.nwD H ?_ | refine Rel.nw H ?_); clear H; intro w b14 H)
  have H0 : Rel W V [.blk b14 (valC (numH wd) ++ (valC (numH ht) ++ valC (bytH r))) 26, .blk b7 [str sWidth, str sHeight, str sPixels] 9, .blk b6 (valC zeroH) 26] V2 w := H
  obtain ⟨V3, hV3, H, hb14⟩ := H0.freezeBlk
  clear H0
  obtain ⟨V4, hV4, H, hb7⟩ := H.freezeBlk
  (first | (refine H.wg ?_; clear H; intros; rename_i w H; constructor) | refine wk ?_)
  exact ⟨V4, _, (hV2.trans hV3).trans hV4, H.sx, rfl, picVal_at hb7.cells (hb14.cells.sub' hV4) ((hr.up hV3).up hV4)⟩
end
end Go.Proofs.YtgnaojphgdaalaaGreat
