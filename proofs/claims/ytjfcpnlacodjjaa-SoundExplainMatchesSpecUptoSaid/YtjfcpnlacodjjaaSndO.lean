/-
  Sound files, the reference: SoundGood, SoundLosses, SoundShape, SoundTo.
-/
import Derived.Test.YtjfcpnlacodjjaaSndN
namespace Go.Proofs.Ytjfcpnlacodjjaa
open Go Go.RowKit

section
variable {V W : World}
theorem soundGood_ref (hV : Sub V W) {s : Sl} {b : List UInt8} (hs : Byt V s b) (hl : b.length ≤ 1099511620000) : Ret Try.prog 21 [s.v].toArray W fun q w' => q = .bool (sndRd b).isSome ∧ Rel W V [] V w' := by
  have H := Rel.start hV
  have hlen := hs.len
  refine cal_of_vc tabOk Try.func21 rfl (by kernel_rfl) 18 rfl (by simp) [0, 2, 6, 9] ?_
  by_cases h0 : b.length = 0
  · have hb : b = [] := List.eq_nil_of_length_eq_zero h0
    have e : sndRd b = some (1, []) := by rw [sndRd, if_pos hb]
    rw [e]
    ((repeat ((conv => whnf); first | refine an ?_ | ((first | refine H.nwD ?_ | refine H.nw ?_); clear H; intro w _ H) | refine H.ce ?_ | refine H.db ?_ | refine ea ?_ | refine ol ?_ | (refine H.st ?_; (conv => whnf); clear H; intro w H) | refine cT ?_ | refine cF ?_ | refine cN ?_ | refine cM ?_ | refine H.lw ?_ | refine H.ll ?_)); (conv => whnf))
    exact H.sx
  ((repeat ((conv => whnf); first | refine an ?_ | ((first | refine H.nwD ?_ | refine H.nw ?_); clear H; intro w _ H) | refine H.ce ?_ | refine H.db ?_ | refine ea ?_ | refine ol ?_ | (refine H.st ?_; (conv => whnf); clear H; intro w H) | refine cT ?_ | refine cF ?_ | refine cN ?_ | refine cM ?_ | refine H.lw ?_ | refine H.ll ?_)); (conv => whnf))
  refine (soundNotes_ref H.data hs hl (fun h => h0 (by rw [h]; rfl))).use ?_
  rintro q w ⟨V2, rn, rp, c, ok, hV2, K, rfl, hres⟩
  (have hKb := K.base; replace H := H.call0 K)
  have e : ok = (sndRd b).isSome := by
    cases hr : sndRd b with
    | none => rw [hr] at hres; exact hres
    | some x => rw [hr] at hres; exact hres.1
  rw [e]
  ((repeat ((conv => whnf); first | refine an ?_ | ((first | refine H.nwD ?_ | refine H.nw ?_); clear H; intro w _ H) | refine H.ce ?_ | refine H.db ?_ | refine ea ?_ | refine ol ?_ | (refine H.st ?_; (conv => whnf); clear H; intro w H) | refine cT ?_ | refine cF ?_ | refine cN ?_ | refine cM ?_ | refine H.lw ?_ | refine H.ll ?_)); (conv => whnf))
  exact Rel.back H.sx
set_option maxRecDepth 100000 in
set_option maxHeartbeats 1000000 in
theorem soundLosses_ref (hV : Sub V W) {s : Sl} {b : List UInt8} (hs : Byt V s b) (hl : b.length ≤ 1099511620000) {ls : List LossD} (hg : sndLoss b = some ls) : Ret Try.prog 23 [s.v].toArray W fun q w' => ∃ (V' : World) (r : Sl), Sub V V' ∧ Rel W V [] V' w' ∧ q = r.v ∧ SlF lossC V' r ls := by
  have H := Rel.start hV
  have hlen := hs.len
  refine cal_of_vc tabOk Try.func23 rfl (by kernel_rfl) 35 rfl (by simp) [0, 2, 3, 4, 7, 10, 19, 27] ?_
  by_cases h0 : b.length = 0
  · have hb : b = [] := List.eq_nil_of_length_eq_zero h0
    have e : sndLoss b = some [] := by rw [sndLoss, sndRd, if_pos hb]; rfl
    rw [e] at hg
    cases hg
    ((repeat ((conv => whnf); first | refine an ?_ | ((first | refine H.nwD ?_ | refine H.nw ?_); clear H; intro w _ H) | refine H.ce ?_ | refine H.db ?_ | refine ea ?_ | refine ol ?_ | (refine H.st ?_; (conv => whnf); clear H; intro w H) | refine cT ?_ | refine cF ?_ | refine cN ?_ | refine cM ?_ | refine H.lw ?_ | refine H.ll ?_)); (conv => whnf))
    exact ⟨V, ⟨none, 0, 0⟩, Sub.refl _, H.sx, rfl, SlF.nil _ _⟩
  ((repeat ((conv => whnf); first | refine an ?_ | ((first | refine H.nwD ?_ | refine H.nw ?_); clear H; intro w _ H) | refine H.ce ?_ | refine H.db ?_ | refine ea ?_ | refine ol ?_ | (refine H.st ?_; (conv => whnf); clear H; intro w H) | refine cT ?_ | refine cF ?_ | refine cN ?_ | refine cM ?_ | refine H.lw ?_ | refine H.ll ?_)); (conv => whnf))
  refine (soundNotes_ref H.data hs hl (fun h => h0 (by rw [h]; rfl))).use ?_
  rintro q w ⟨V2, rn, rp, c, ok, hV2, K, rfl, hres⟩
  (have hKb := K.base; replace H := H.call0 K)
  cases hr : sndRd b with
  | none => rw [sndLoss, hr] at hg; cases hg
  | some x =>
    obtain ⟨c', ns⟩ := x
    rw [hr] at hres
    obtain ⟨rfl, rfl, ⟨os, hos, hpw⟩, hpl⟩ := hres
    have e : ls = lossOf c' ns := by
      rw [sndLoss, hr] at hg
      exact (Option.some.inj hg).symm
    have hnl := hos.len
    have hnp := hpw.len
    rw [List.length_map] at hnp
    obtain ⟨c4, n1000, _⟩ := sndRd_some hr
    replace H := H.rowNil 62 2
    by_cases hc : c' = 1
    · by_cases hn : ns.length = 0
      · have e2 : lossOf c' ns = [] := by unfold lossOf; rw [if_neg (fun h => h hc), if_neg (fun h => h (List.eq_nil_of_length_eq_zero hn))]; rfl
        rw [e, e2]
        subst hc
        ((repeat ((conv => whnf); first | refine an ?_ | ((first | refine H.nwD ?_ | refine H.nw ?_); clear H; intro w _ H) | refine H.ce ?_ | refine H.db ?_ | refine ea ?_ | refine ol ?_ | (refine H.st ?_; (conv => whnf); clear H; intro w H) | refine cT ?_ | refine cF ?_ | refine cN ?_ | refine cM ?_ | refine H.lw ?_ | refine H.ll ?_)); (conv => whnf))
        obtain ⟨V3, hV3, H, hr⟩ := Rel.freezeF (f := lossC) (l := []) H (fun _ => rfl) (by decide)
        exact ⟨V3, _, hV2.trans hV3, H.sx, rfl, hr⟩
      · have e2 : lossOf c' ns = [(sOther, (ns.length : Int))] := by
          unfold lossOf
          rw [if_neg (fun h => h hc), if_pos (fun h => hn (by rw [h]; rfl))]
          rfl
        rw [e, e2]
        subst hc
        ((repeat ((conv => whnf); first | refine an ?_ | ((first | refine H.nwD ?_ | refine H.nw ?_); clear H; intro w _ H) | refine H.ce ?_ | refine H.db ?_ | refine ea ?_ | refine ol ?_ | (refine H.st ?_; (conv => whnf); clear H; intro w H) | refine cT ?_ | refine cF ?_ | refine cN ?_ | refine cM ?_ | refine H.lw ?_ | refine H.ll ?_)); (conv => whnf))
        refine Rel.app1_0 (f := lossC) (s := ⟨none, 0, 0⟩) (l := []) (x := (sOther, (rn.len : Int))) tabOk rfl rfl rfl rfl rfl (by decide) (fun _ => rfl) (loss_one _) H (by decide) (by decide) ?_
        clear H
        intro rn2 w H
        ((repeat ((conv => whnf); first | refine an ?_ | ((first | refine H.nwD ?_ | refine H.nw ?_); clear H; intro w _ H) | refine H.ce ?_ | refine H.db ?_ | refine ea ?_ | refine ol ?_ | (refine H.st ?_; (conv => whnf); clear H; intro w H) | refine cT ?_ | refine cF ?_ | refine cN ?_ | refine cM ?_ | refine H.lw ?_ | refine H.ll ?_)); (conv => whnf))
        obtain ⟨V3, hV3, H, hr⟩ := Rel.freezeF H (fun _ => rfl) (by decide)
        rw [hnl, hnp] at hr
        exact ⟨V3, _, hV2.trans hV3, H.sx, rfl, hr⟩
    · by_cases hn : ns.length = 0
      · have e2 : lossOf c' ns = [(sCoding, (c' : Int))] := by
          unfold lossOf
          rw [if_pos hc, if_neg (fun h => h (List.eq_nil_of_length_eq_zero hn))]
          rfl
        rw [e, e2]
        ((repeat ((conv => whnf); first | refine an ?_ | ((first | refine H.nwD ?_ | refine H.nw ?_); clear H; intro w _ H) | refine H.ce ?_ | refine H.db ?_ | refine ea ?_ | refine ol ?_ | (refine H.st ?_; (conv => whnf); clear H; intro w H) | refine cT ?_ | refine cF ?_ | refine cN ?_ | refine cM ?_ | refine H.lw ?_ | refine H.ll ?_)); (conv => whnf))
        refine Rel.app1_0 (f := lossC) (s := ⟨none, 0, 0⟩) (l := []) (x := (sCoding, (c' : Int))) tabOk rfl rfl rfl rfl rfl (by decide) (fun _ => rfl) (loss_one _) H (by decide) (by decide) ?_
        clear H
        intro rn2 w H
        ((repeat ((conv => whnf); first | refine an ?_ | ((first | refine H.nwD ?_ | refine H.nw ?_); clear H; intro w _ H) | refine H.ce ?_ | refine H.db ?_ | refine ea ?_ | refine ol ?_ | (refine H.st ?_; (conv => whnf); clear H; intro w H) | refine cT ?_ | refine cF ?_ | refine cN ?_ | refine cM ?_ | refine H.lw ?_ | refine H.ll ?_)); (conv => whnf))
        obtain ⟨V3, hV3, H, hr⟩ := Rel.freezeF H (fun _ => rfl) (by decide)
        exact ⟨V3, _, hV2.trans hV3, H.sx, rfl, hr⟩
      · have e2 : lossOf c' ns = [(sCoding, (c' : Int)), (sOther, (ns.length : Int))] := by
          unfold lossOf
          rw [if_pos hc, if_pos (fun h => hn (by rw [h]; rfl))]
          rfl
        rw [e, e2]
        ((repeat ((conv => whnf); first | refine an ?_ | ((first | refine H.nwD ?_ | refine H.nw ?_); clear H; intro w _ H) | refine H.ce ?_ | refine H.db ?_ | refine ea ?_ | refine ol ?_ | (refine H.st ?_; (conv => whnf); clear H; intro w H) | refine cT ?_ | refine cF ?_ | refine cN ?_ | refine cM ?_ | refine H.lw ?_ | refine H.ll ?_)); (conv => whnf))
        refine Rel.app1_0 (f := lossC) (s := ⟨none, 0, 0⟩) (l := []) (x := (sCoding, (c' : Int))) tabOk rfl rfl rfl rfl rfl (by decide) (fun _ => rfl) (loss_one _) H (by decide) (by decide) ?_
        clear H
        intro rn2 w H
        ((repeat ((conv => whnf); first | refine an ?_ | ((first | refine H.nwD ?_ | refine H.nw ?_); clear H; intro w _ H) | refine H.ce ?_ | refine H.db ?_ | refine ea ?_ | refine ol ?_ | (refine H.st ?_; (conv => whnf); clear H; intro w H) | refine cT ?_ | refine cF ?_ | refine cN ?_ | refine cM ?_ | refine H.lw ?_ | refine H.ll ?_)); (conv => whnf))
        refine Rel.app1_0 (f := lossC) (s := rn2) (l := [(sCoding, (c' : Int))]) (x := (sOther, (rn.len : Int))) tabOk rfl rfl rfl rfl rfl (by decide) (fun _ => rfl) (loss_one _) H (by show (1 + 1) * 24 ≤ 140737488355328; decide) (by show 1 + 1 ≤ 4611686018427387904; decide) ?_
        clear H
        intro rn3 w H
        ((repeat ((conv => whnf); first | refine an ?_ | ((first | refine H.nwD ?_ | refine H.nw ?_); clear H; intro w _ H) | refine H.ce ?_ | refine H.db ?_ | refine ea ?_ | refine ol ?_ | (refine H.st ?_; (conv => whnf); clear H; intro w H) | refine cT ?_ | refine cF ?_ | refine cN ?_ | refine cM ?_ | refine H.lw ?_ | refine H.ll ?_)); (conv => whnf))
        obtain ⟨V3, hV3, H, hr⟩ := Rel.freezeF H (fun _ => rfl) (by decide)
        rw [hnl, hnp] at hr
        exact ⟨V3, _, hV2.trans hV3, H.sx, rfl, hr⟩
theorem soundGood_g (hV : Sub V W) {s : Sl} {b : List UInt8} (hs : Byt V s b) (hl : b.length ≤ 1099511620000) : Ret Try.prog 21 [s.v].toArray W fun q w' => q = .bool (sndLoss b).isSome ∧ Rel W V [] V w' := by
  have e : (sndLoss b).isSome = (sndRd b).isSome := by
    unfold sndLoss
    cases sndRd b <;> rfl
  rw [e]
  exact soundGood_ref hV hs hl
end
end Go.Proofs.Ytjfcpnlacodjjaa
