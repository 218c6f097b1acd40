/-
  Pictures, the reference: what a residue tells.
-/
import Derived.Test.YtgnaojphgdaalaaPicE
namespace Go.Proofs.Ytgnaojphgdaalaa
open Go Go.RowKit

abbrev lsBits : List UInt8 := [98, 105, 116, 115]
abbrev lsUp : List UInt8 := [114, 111, 119, 115, 32, 117, 112, 119, 97, 114, 100]
abbrev lsRuns : List UInt8 := [114, 117, 110, 115]
abbrev lsColors : List UInt8 := [99, 111, 108, 111, 114, 115]
/-- what a residue tells: f its flags, n the number of its colors -/
def lossPic (f n : Nat) : List LossD := (if bitsOf f = 24 then [] else [(lsBits, (bitsOf f : Int))]) ++ (if f % 2 = 1 then [(lsUp, 1)] else []) ++ (if f / 2 % 2 = 1 then [(lsRuns, 1)] else []) ++ (if f < 32 then [(lsColors, (n : Int))] else [])
theorem loss1_pic (x : LossD) : ∀ u ∈ lossC x, u.oneCell' = true := by
  intro u hu
  simp only [lossC, List.mem_cons, List.not_mem_nil, or_false] at hu
  rcases hu with rfl | rfl <;> rfl
section
variable {V W : World}
set_option maxRecDepth 100000 in
set_option maxHeartbeats 2000000 in
theorem pictureLosses_ref (hV : Sub V W) {s : Sl} {c : UInt8} {R : List UInt8} (hs : Byt V s (c :: R)) (hf : c.toNat < 64) (hR : c.toNat < 32 → 0 < R.length) : Ret Try.prog 17 [s.v].toArray W fun q w' => ∃ (V' : World) (r : Sl), Sub V V' ∧ Rel W V [] V' w' ∧ q = r.v ∧ SlF lossC V' r (lossPic c.toNat (R.headD 0).toNat) := by
  have H := Rel.start hV
  have hlen := hs.len
  rw [List.length_cons] at hlen
  obtain ⟨p0, c0⟩ := hs.at1 (g := bv) (fun _ => rfl) (show 0 < (c :: R).length by simp)
  rw [List.getElem_cons_zero] at c0
  have hp1 : c.toNat < 32 → Plain s.a ∧ V.cell? ⟨ablk s.a, aoff s.a + 1, none⟩ = some (bv (R.headD 0)) := fun h => by
    have := hR h
    obtain ⟨p1, c1⟩ := hs.at1 (g := bv) (fun _ => rfl) (show 1 < (c :: R).length by rw [List.length_cons]; omega)
    have e1 : (c :: R)[1]'(by rw [List.length_cons]; omega) = R.headD 0 := by cases R with | nil => simp at this | cons y l => rfl
    rw [e1] at c1
    exact ⟨p1, by simpa using c1⟩
  refine cal_of_vc tabOk Try.func17 rfl (by kernel_rfl) 47 rfl (by simp) [0, 2, 3, 4, 7, 14, 23, 31, 37] ?_
  (first | (refine H.wg ?_; clear H; intros; rename_i w H; constructor) | refine wk ?_)
  refine (pixelBits_ref H.data hf).use ?_
  rintro q w ⟨rfl, K⟩
  (have hKb := K.base; replace H := H.call0 K)
  replace H := H.rowNil 48 2
  have hno : bitsOf c.toNat = 24 → ¬ c.toNat < 32 := fun h1 h4 => by
    unfold bitsOf at h1
    split at h1
    · cases h1
    · split at h1
      · cases h1
      · omega
  by_cases h1 : bitsOf c.toNat = 24
  · by_cases h2 : c.toNat % 2 = 1
    · by_cases h3 : c.toNat / 2 % 2 = 1
      · have h4 := hno h1
        (first | (refine H.wg ?_; clear H; intros; rename_i w H; constructor) | refine wk ?_)
        refine Rel.app1_0 (f := lossC) (s := ⟨none, 0, 0⟩) (l := []) (x := (lsUp, 1)) tabOk rfl rfl rfl rfl rfl (by decide) (fun _ => rfl) (loss1_pic _) H (by simp) (by simp) ?_
        clear H
        intro r1 w H
        (first | (refine H.wg ?_; clear H; intros; rename_i w H; constructor) | refine wk ?_)
        refine Rel.app1_0 (f := lossC) (s := r1) (l := [(lsUp, 1)]) (x := (lsRuns, 1)) tabOk rfl rfl rfl rfl rfl (by decide) (fun _ => rfl) (loss1_pic _) H (by simp) (by simp) ?_
        clear H
        intro r2 w H
        (first | (refine H.wg ?_; clear H; intros; rename_i w H; constructor) | refine wk ?_)
        obtain ⟨V3, hV3, H, hr⟩ := Rel.freezeF (f := lossC) (l := [(lsUp, 1), (lsRuns, 1)]) H (fun _ => rfl) (by decide)
        exact ⟨V3, _, hV3, H.sx, rfl, by unfold lossPic; simpa [h1, h2, h3, h4] using hr⟩
      · have h4 := hno h1
        (first | (refine H.wg ?_; clear H; intros; rename_i w H; constructor) | refine wk ?_)
        refine Rel.app1_0 (f := lossC) (s := ⟨none, 0, 0⟩) (l := []) (x := (lsUp, 1)) tabOk rfl rfl rfl rfl rfl (by decide) (fun _ => rfl) (loss1_pic _) H (by simp) (by simp) ?_
        clear H
        intro r1 w H
        (first | (refine H.wg ?_; clear H; intros; rename_i w H; constructor) | refine wk ?_)
        obtain ⟨V3, hV3, H, hr⟩ := Rel.freezeF (f := lossC) (l := [(lsUp, 1)]) H (fun _ => rfl) (by decide)
        exact ⟨V3, _, hV3, H.sx, rfl, by unfold lossPic; simpa [h1, h2, h3, h4] using hr⟩
    · by_cases h3 : c.toNat / 2 % 2 = 1
      · have h4 := hno h1
        (first | (refine H.wg ?_; clear H; intros; rename_i w H; constructor) | refine wk ?_)
        refine Rel.app1_0 (f := lossC) (s := ⟨none, 0, 0⟩) (l := []) (x := (lsRuns, 1)) tabOk rfl rfl rfl rfl rfl (by decide) (fun _ => rfl) (loss1_pic _) H (by simp) (by simp) ?_
        clear H
        intro r1 w H
        (first | (refine H.wg ?_; clear H; intros; rename_i w H; constructor) | refine wk ?_)
        obtain ⟨V3, hV3, H, hr⟩ := Rel.freezeF (f := lossC) (l := [(lsRuns, 1)]) H (fun _ => rfl) (by decide)
        exact ⟨V3, _, hV3, H.sx, rfl, by unfold lossPic; simpa [h1, h2, h3, h4] using hr⟩
      · have h4 := hno h1
        (first | (refine H.wg ?_; clear H; intros; rename_i w H; constructor) | refine wk ?_)
        obtain ⟨V3, hV3, H, hr⟩ := Rel.freezeF (f := lossC) (l := []) H (fun _ => rfl) (by decide)
        exact ⟨V3, _, hV3, H.sx, rfl, by unfold lossPic; simpa [h1, h2, h3, h4] using hr⟩
  · by_cases h2 : c.toNat % 2 = 1
    · by_cases h3 : c.toNat / 2 % 2 = 1
      · by_cases h4 : c.toNat < 32
        · obtain ⟨p1, c1⟩ := hp1 h4
          (first | (refine H.wg ?_; clear H; intros; rename_i w H; constructor) | refine wk ?_)
          refine (pixelBits_ref H.data hf).use ?_
          rintro q w ⟨rfl, K⟩
          (have hKb := K.base; replace H := H.call0 K)
          (first | (refine H.wg ?_; clear H; intros; rename_i w H; constructor) | refine wk ?_)
          refine Rel.app1_0 (f := lossC) (s := ⟨none, 0, 0⟩) (l := []) (x := (lsBits, ((bitsOf c.toNat : Nat) : Int))) tabOk rfl rfl rfl rfl rfl (by decide) (fun _ => rfl) (loss1_pic _) H (by simp) (by simp) ?_
          clear H
          intro r1 w H
          (first | (refine H.wg ?_; clear H; intros; rename_i w H; constructor) | refine wk ?_)
          refine Rel.app1_0 (f := lossC) (s := r1) (l := [(lsBits, ((bitsOf c.toNat : Nat) : Int))]) (x := (lsUp, 1)) tabOk rfl rfl rfl rfl rfl (by decide) (fun _ => rfl) (loss1_pic _) H (by simp) (by simp) ?_
          clear H
          intro r2 w H
          (first | (refine H.wg ?_; clear H; intros; rename_i w H; constructor) | refine wk ?_)
          refine Rel.app1_0 (f := lossC) (s := r2) (l := [(lsBits, ((bitsOf c.toNat : Nat) : Int)), (lsUp, 1)]) (x := (lsRuns, 1)) tabOk rfl rfl rfl rfl rfl (by decide) (fun _ => rfl) (loss1_pic _) H (by simp) (by simp) ?_
          clear H
          intro r3 w H
          (first | (refine H.wg ?_; clear H; intros; rename_i w H; constructor) | refine wk ?_)
          refine Rel.app1_0 (f := lossC) (s := r3) (l := [(lsBits, ((bitsOf c.toNat : Nat) : Int)), (lsUp, 1), (lsRuns, 1)]) (x := (lsColors, (((R.headD 0).toNat : Nat) : Int))) tabOk rfl rfl rfl rfl rfl (by decide) (fun _ => rfl) (loss1_pic _) H (by simp) (by simp) ?_
          clear H
          intro r4 w H
          (first | (refine H.wg ?_; clear H; intros; rename_i w H; constructor) | refine wk ?_)
          obtain ⟨V3, hV3, H, hr⟩ := Rel.freezeF (f := lossC) (l := [(lsBits, ((bitsOf c.toNat : Nat) : Int)), (lsUp, 1), (lsRuns, 1), (lsColors, (((R.headD 0).toNat : Nat) : Int))]) H (fun _ => rfl) (by decide)
          exact ⟨V3, _, hV3, H.sx, rfl, by unfold lossPic; simpa [h1, h2, h3, h4] using hr⟩
        · (first | (refine H.wg ?_; clear H; intros; rename_i w H; constructor) | refine wk ?_)
          refine (pixelBits_ref H.data hf).use ?_
          rintro q w ⟨rfl, K⟩
          (have hKb := K.base; replace H := H.call0 K)
          (first | (refine H.wg ?_; clear H; intros; rename_i w H; constructor) | refine wk ?_)
          refine Rel.app1_0 (f := lossC) (s := ⟨none, 0, 0⟩) (l := []) (x := (lsBits, ((bitsOf c.toNat : Nat) : Int))) tabOk rfl rfl rfl rfl rfl (by decide) (fun _ => rfl) (loss1_pic _) H (by simp) (by simp) ?_
          clear H
          intro r1 w H
          (first | (refine H.wg ?_; clear H; intros; rename_i w H; constructor) | refine wk ?_)
          refine Rel.app1_0 (f := lossC) (s := r1) (l := [(lsBits, ((bitsOf c.toNat : Nat) : Int))]) (x := (lsUp, 1)) tabOk rfl rfl rfl rfl rfl (by decide) (fun _ => rfl) (loss1_pic _) H (by simp) (by simp) ?_
          clear H
          intro r2 w H
          (first | (refine H.wg ?_; clear H; intros; rename_i w H; constructor) | refine wk ?_)
          refine Rel.app1_0 (f := lossC) (s := r2) (l := [(lsBits, ((bitsOf c.toNat : Nat) : Int)), (lsUp, 1)]) (x := (lsRuns, 1)) tabOk rfl rfl rfl rfl rfl (by decide) (fun _ => rfl) (loss1_pic _) H (by simp) (by simp) ?_
          clear H
          intro r3 w H
          (first | (refine H.wg ?_; clear H; intros; rename_i w H; constructor) | refine wk ?_)
          obtain ⟨V3, hV3, H, hr⟩ := Rel.freezeF (f := lossC) (l := [(lsBits, ((bitsOf c.toNat : Nat) : Int)), (lsUp, 1), (lsRuns, 1)]) H (fun _ => rfl) (by decide)
          exact ⟨V3, _, hV3, H.sx, rfl, by unfold lossPic; simpa [h1, h2, h3, h4] using hr⟩
      · by_cases h4 : c.toNat < 32
        · obtain ⟨p1, c1⟩ := hp1 h4
          (first | (refine H.wg ?_; clear H; intros; rename_i w H; constructor) | refine wk ?_)
          refine (pixelBits_ref H.data hf).use ?_
          rintro q w ⟨rfl, K⟩
          (have hKb := K.base; replace H := H.call0 K)
          (first | (refine H.wg ?_; clear H; intros; rename_i w H; constructor) | refine wk ?_)
          refine Rel.app1_0 (f := lossC) (s := ⟨none, 0, 0⟩) (l := []) (x := (lsBits, ((bitsOf c.toNat : Nat) : Int))) tabOk rfl rfl rfl rfl rfl (by decide) (fun _ => rfl) (loss1_pic _) H (by simp) (by simp) ?_
          clear H
          intro r1 w H
          (first | (refine H.wg ?_; clear H; intros; rename_i w H; constructor) | refine wk ?_)
          refine Rel.app1_0 (f := lossC) (s := r1) (l := [(lsBits, ((bitsOf c.toNat : Nat) : Int))]) (x := (lsUp, 1)) tabOk rfl rfl rfl rfl rfl (by decide) (fun _ => rfl) (loss1_pic _) H (by simp) (by simp) ?_
          clear H
          intro r2 w H
          (first | (refine H.wg ?_; clear H; intros; rename_i w H; constructor) | refine wk ?_)
          refine Rel.app1_0 (f := lossC) (s := r2) (l := [(lsBits, ((bitsOf c.toNat : Nat) : Int)), (lsUp, 1)]) (x := (lsColors, (((R.headD 0).toNat : Nat) : Int))) tabOk rfl rfl rfl rfl rfl (by decide) (fun _ => rfl) (loss1_pic _) H (by simp) (by simp) ?_
          clear H
          intro r3 w H
          (first | (refine H.wg ?_; clear H; intros; rename_i w H; constructor) | refine wk ?_)
          obtain ⟨V3, hV3, H, hr⟩ := Rel.freezeF (f := lossC) (l := [(lsBits, ((bitsOf c.toNat : Nat) : Int)), (lsUp, 1), (lsColors, (((R.headD 0).toNat : Nat) : Int))]) H (fun _ => rfl) (by decide)
          exact ⟨V3, _, hV3, H.sx, rfl, by unfold lossPic; simpa [h1, h2, h3, h4] using hr⟩
        · (first | (refine H.wg ?_; clear H; intros; rename_i w H; constructor) | refine wk ?_)
          refine (pixelBits_ref H.data hf).use ?_
          rintro q w ⟨rfl, K⟩
          (have hKb := K.base; replace H := H.call0 K)
          (first | (refine H.wg ?_; clear H; intros; rename_i w H; constructor) | refine wk ?_)
          refine Rel.app1_0 (f := lossC) (s := ⟨none, 0, 0⟩) (l := []) (x := (lsBits, ((bitsOf c.toNat : Nat) : Int))) tabOk rfl rfl rfl rfl rfl (by decide) (fun _ => rfl) (loss1_pic _) H (by simp) (by simp) ?_
          clear H
          intro r1 w H
          (first | (refine H.wg ?_; clear H; intros; rename_i w H; constructor) | refine wk ?_)
          refine Rel.app1_0 (f := lossC) (s := r1) (l := [(lsBits, ((bitsOf c.toNat : Nat) : Int))]) (x := (lsUp, 1)) tabOk rfl rfl rfl rfl rfl (by decide) (fun _ => rfl) (loss1_pic _) H (by simp) (by simp) ?_
          clear H
          intro r2 w H
          (first | (refine H.wg ?_; clear H; intros; rename_i w H; constructor) | refine wk ?_)
          obtain ⟨V3, hV3, H, hr⟩ := Rel.freezeF (f := lossC) (l := [(lsBits, ((bitsOf c.toNat : Nat) : Int)), (lsUp, 1)]) H (fun _ => rfl) (by decide)
          exact ⟨V3, _, hV3, H.sx, rfl, by unfold lossPic; simpa [h1, h2, h3, h4] using hr⟩
    · by_cases h3 : c.toNat / 2 % 2 = 1
      · by_cases h4 : c.toNat < 32
        · obtain ⟨p1, c1⟩ := hp1 h4
          (first | (refine H.wg ?_; clear H; intros; rename_i w H; constructor) | refine wk ?_)
          refine (pixelBits_ref H.data hf).use ?_
          rintro q w ⟨rfl, K⟩
          (have hKb := K.base; replace H := H.call0 K)
          (first | (refine H.wg ?_; clear H; intros; rename_i w H; constructor) | refine wk ?_)
          refine Rel.app1_0 (f := lossC) (s := ⟨none, 0, 0⟩) (l := []) (x := (lsBits, ((bitsOf c.toNat : Nat) : Int))) tabOk rfl rfl rfl rfl rfl (by decide) (fun _ => rfl) (loss1_pic _) H (by simp) (by simp) ?_
          clear H
          intro r1 w H
          (first | (refine H.wg ?_; clear H; intros; rename_i w H; constructor) | refine wk ?_)
          refine Rel.app1_0 (f := lossC) (s := r1) (l := [(lsBits, ((bitsOf c.toNat : Nat) : Int))]) (x := (lsRuns, 1)) tabOk rfl rfl rfl rfl rfl (by decide) (fun _ => rfl) (loss1_pic _) H (by simp) (by simp) ?_
          clear H
          intro r2 w H
          (first | (refine H.wg ?_; clear H; intros; rename_i w H; constructor) | refine wk ?_)
          refine Rel.app1_0 (f := lossC) (s := r2) (l := [(lsBits, ((bitsOf c.toNat : Nat) : Int)), (lsRuns, 1)]) (x := (lsColors, (((R.headD 0).toNat : Nat) : Int))) tabOk rfl rfl rfl rfl rfl (by decide) (fun _ => rfl) (loss1_pic _) H (by simp) (by simp) ?_
          clear H
          intro r3 w H
          (first | (refine H.wg ?_; clear H; intros; rename_i w H; constructor) | refine wk ?_)
          obtain ⟨V3, hV3, H, hr⟩ := Rel.freezeF (f := lossC) (l := [(lsBits, ((bitsOf c.toNat : Nat) : Int)), (lsRuns, 1), (lsColors, (((R.headD 0).toNat : Nat) : Int))]) H (fun _ => rfl) (by decide)
          exact ⟨V3, _, hV3, H.sx, rfl, by unfold lossPic; simpa [h1, h2, h3, h4] using hr⟩
        · (first | (refine H.wg ?_; clear H; intros; rename_i w H; constructor) | refine wk ?_)
          refine (pixelBits_ref H.data hf).use ?_
          rintro q w ⟨rfl, K⟩
          (have hKb := K.base; replace H := H.call0 K)
          (first | (refine H.wg ?_; clear H; intros; rename_i w H; constructor) | refine wk ?_)
          refine Rel.app1_0 (f := lossC) (s := ⟨none, 0, 0⟩) (l := []) (x := (lsBits, ((bitsOf c.toNat : Nat) : Int))) tabOk rfl rfl rfl rfl rfl (by decide) (fun _ => rfl) (loss1_pic _) H (by simp) (by simp) ?_
          clear H
          intro r1 w H
          (first | (refine H.wg ?_; clear H; intros; rename_i w H; constructor) | refine wk ?_)
          refine Rel.app1_0 (f := lossC) (s := r1) (l := [(lsBits, ((bitsOf c.toNat : Nat) : Int))]) (x := (lsRuns, 1)) tabOk rfl rfl rfl rfl rfl (by decide) (fun _ => rfl) (loss1_pic _) H (by simp) (by simp) ?_
          clear H
          intro r2 w H
          (first | (refine H.wg ?_; clear H; intros; rename_i w H; constructor) | refine wk ?_)
          obtain ⟨V3, hV3, H, hr⟩ := Rel.freezeF (f := lossC) (l := [(lsBits, ((bitsOf c.toNat : Nat) : Int)), (lsRuns, 1)]) H (fun _ => rfl) (by decide)
          exact ⟨V3, _, hV3, H.sx, rfl, by unfold lossPic; simpa [h1, h2, h3, h4] using hr⟩
      · by_cases h4 : c.toNat < 32
        · obtain ⟨p1, c1⟩ := hp1 h4
          (first | (refine H.wg ?_; clear H; intros; rename_i w H; constructor) | refine wk ?_)
          refine (pixelBits_ref H.data hf).use ?_
          rintro q w ⟨rfl, K⟩
          (have hKb := K.base; replace H := H.call0 K)
          (first | (refine H.wg ?_; clear H; intros; rename_i w H; constructor) | refine wk ?_)
          refine Rel.app1_0 (f := lossC) (s := ⟨none, 0, 0⟩) (l := []) (x := (lsBits, ((bitsOf c.toNat : Nat) : Int))) tabOk rfl rfl rfl rfl rfl (by decide) (fun _ => rfl) (loss1_pic _) H (by simp) (by simp) ?_
          clear H
          intro r1 w H
          (first | (refine H.wg ?_; clear H; intros; rename_i w H; constructor) | refine wk ?_)
          refine Rel.app1_0 (f := lossC) (s := r1) (l := [(lsBits, ((bitsOf c.toNat : Nat) : Int))]) (x := (lsColors, (((R.headD 0).toNat : Nat) : Int))) tabOk rfl rfl rfl rfl rfl (by decide) (fun _ => rfl) (loss1_pic _) H (by simp) (by simp) ?_
          clear H
          intro r2 w H
          (first | (refine H.wg ?_; clear H; intros; rename_i w H; constructor) | refine wk ?_)
          obtain ⟨V3, hV3, H, hr⟩ := Rel.freezeF (f := lossC) (l := [(lsBits, ((bitsOf c.toNat : Nat) : Int)), (lsColors, (((R.headD 0).toNat : Nat) : Int))]) H (fun _ => rfl) (by decide)
          exact ⟨V3, _, hV3, H.sx, rfl, by unfold lossPic; simpa [h1, h2, h3, h4] using hr⟩
        · (first | (refine H.wg ?_; clear H; intros; rename_i w H; constructor) | refine wk ?_)
          refine (pixelBits_ref H.data hf).use ?_
          rintro q w ⟨rfl, K⟩
          (have hKb := K.base; replace H := H.call0 K)
          (first | (refine H.wg ?_; clear H; intros; rename_i w H; constructor) | refine wk ?_)
          refine Rel.app1_0 (f := lossC) (s := ⟨none, 0, 0⟩) (l := []) (x := (lsBits, ((bitsOf c.toNat : Nat) : Int))) tabOk rfl rfl rfl rfl rfl (by decide) (fun _ => rfl) (loss1_pic _) H (by simp) (by simp) ?_
          clear H
          intro r1 w H
          (first | (refine H.wg ?_; clear H; intros; rename_i w H; constructor) | refine wk ?_)
          obtain ⟨V3, hV3, H, hr⟩ := Rel.freezeF (f := lossC) (l := [(lsBits, ((bitsOf c.toNat : Nat) : Int))]) H (fun _ => rfl) (by decide)
          exact ⟨V3, _, hV3, H.sx, rfl, by unfold lossPic; simpa [h1, h2, h3, h4] using hr⟩
end
end Go.Proofs.Ytgnaojphgdaalaa
