/-
  Sound files: what the laws need; the example.
-/
import Derived.Test.YtjfcpnlacodjjaaSndW
namespace Go.Proofs.Ytjfcpnlacodjjaa
open Go Go.RowKit

theorem putN_ne (n : Int) : putN n ≠ [] := fun h => by
  have := putU_len (zz n)
  unfold putN at h
  rw [h] at this
  simp at this
theorem sndRes_nil {c : Nat} {ns : List Note} : sndRes c ns = [] ↔ c = 1 ∧ ns = [] := by
  unfold sndRes
  split
  · rename_i h
    exact ⟨fun _ => h, fun _ => rfl⟩
  · rename_i h
    exact ⟨fun h2 => absurd (List.append_eq_nil_iff.1 h2).1 (putN_ne _), fun h2 => absurd h2 h⟩
theorem lossOf_nil {c : Nat} {ns : List Note} : lossOf c ns = [] ↔ c = 1 ∧ ns = [] := by
  unfold lossOf
  constructor
  · intro h
    obtain ⟨h1, h2⟩ := List.append_eq_nil_iff.1 h
    refine ⟨Decidable.byContradiction fun hc => ?_, Decidable.byContradiction fun hn => ?_⟩
    · rw [if_pos hc] at h1
      cases h1
    · rw [if_pos hn] at h2
      cases h2
  · rintro ⟨rfl, rfl⟩
    rfl
theorem snd_valid {b : List UInt8} {v : Val} {r : List UInt8} (hl : b.length ≤ 1000) (h : sndTo b = some (v, r)) : VB 1048576 v ∧ (vfault v).1 = 0 ∧ (sndShape v).isSome = true ∧ sndMake v r = some b ∧ r.length ≤ 100000000 ∧ ∃ ls, sndLoss r = some ls ∧ ls.length ≤ 2 ∧ (ls = [] ↔ r = []) := by
  have hmk := snd_round hl h
  obtain ⟨x, hx, hv0, hv, hr⟩ := sndTo_file h
  obtain ⟨x', hx', hrd, _⟩ := sndTo_rd hl h
  rw [hx] at hx'
  cases hx'
  obtain ⟨m1, m2, m3, m4, m5, m6, m7⟩ := snd_small (by omega) hx
  refine ⟨?_, hv0, ?_, hmk, ?_, lossOf x.coding x.notes, ?_, ?_, ?_⟩
  · rw [hv]
    exact vb_snd (by constructor <;> omega) (by constructor <;> omega) (by rw [sndPcm_len]; omega)
  · cases hs : sndShape v with
    | none => unfold sndMake at hmk; rw [hs] at hmk; cases hmk
    | some y => rfl
  · rw [hr]
    unfold sndRes
    split
    · simp
    · have a1 := putN_len (n := (x.coding : Int)) (by omega) (by omega)
      have a2 := putL_len (f := noteB) (m := 65600) (l := x.notes) (by omega) fun y hy => by
        obtain ⟨⟨q1, q2⟩, q3⟩ := m7 y hy
        have h1 := putN_len q1 q2
        have h2 := putC_len (b := y.2.2) (by omega)
        simp only [noteB, List.length_append, List.length_cons]
        omega
      have a3 := Nat.mul_le_mul_right 65600 (show x.notes.length ≤ 1000 by omega)
      rw [List.length_append]
      omega
  · rw [sndLoss, hrd]
  · unfold lossOf
    split <;> split <;> simp
  · rw [hr, lossOf_nil, sndRes_nil]
abbrev exB : List UInt8 := [83, 78, 68, 49, 70, 0, 4, 0, 8, 1, 0, 68, 0, 1, 129, 0]
theorem putN0 : putN 0 = [0] := by
  unfold putN
  rw [show zz 0 = 0 from rfl, putU_small (by omega)]
  rfl
theorem res0 : sndRes 0 [] = [0, 0] := by
  unfold sndRes
  rw [if_neg (by decide)]
  simp [putL, putN0]
theorem ex_file : sndFile exB = some ⟨8, 1, 0, [256], []⟩ := by kernel_rfl
theorem ex_pcm : sndPcm [256] = [0, 1] := by kernel_rfl
theorem ex_to : sndTo exB = some (sndVal 8 1 [0, 1], [0, 0]) := by
  unfold sndTo
  rw [ex_file]
  simp only
  unfold sndAns
  simp only
  rw [ex_pcm]
  have h : (vfault (sndVal ((8 : Nat) : Int) ((1 : Nat) : Int) [0, 1])).1 = 0 := by rw [vfault_snd (by decide) (by decide) (by decide)]
  rw [if_neg (fun hh => hh h), res0]
  rfl
theorem ex_loss : sndLoss [0, 0] = some [(sCoding, 0)] := by
  unfold sndLoss
  rw [← res0, sndRd_res (by decide) (by decide) rfl (by simp)]
  rfl
section
variable {V W : World}
set_option maxRecDepth 100000 in
set_option maxHeartbeats 1000000 in
theorem example_sound (hV : Sub V W) : Ret Try.prog 14 [].toArray W fun q w' => q = .bool true ∧ ∃ V', Sub V V' ∧ Rel W V [] V' w' := by
  have H := Rel.start hV
  refine cal_of_vc tabOk Try.func14 rfl (by kernel_rfl) 42 rfl (by simp) [0, 1, 2, 3, 4, 5] ?_
  ((repeat ((conv => whnf); first | refine an ?_ | refine H.ce ?_ | refine H.db ?_ | refine ea ?_ | refine ol ?_ | (refine H.st ?_; (conv => whnf); clear H; intro w H) | refine cT ?_ | refine cF ?_ | refine cN ?_ | refine cM ?_ | refine H.lw ?_ | refine H.ll ?_)); (conv => whnf))
  ((first | refine Rel.nwD H ?_ | refine Rel.nw H ?_); clear H; intro w b7 H)
  replace H := H.blkEq (c' := exB.flatMap byC) rfl
  obtain ⟨V2, hV2, H, hb7⟩ := H.freezeBlk
  have hx : Byt V2 ⟨some ⟨b7, 0, none⟩, 16, 16⟩ exB := ⟨rfl, Nat.le_refl _, hb7.cells⟩
  ((repeat ((conv => whnf); first | refine an ?_ | ((first | refine H.nwD ?_ | refine H.nw ?_); clear H; intro w _ H) | refine H.ce ?_ | refine H.db ?_ | refine ea ?_ | refine ol ?_ | (refine H.st ?_; (conv => whnf); clear H; intro w H) | refine cT ?_ | refine cF ?_ | refine cN ?_ | refine cM ?_ | refine H.lw ?_ | refine H.ll ?_)); (conv => whnf))
  refine (to_sound H.data hx (by decide)).use ?_
  rintro q w ⟨V3, h, r, hV3, K, rfl, hv, hr⟩
  (have hKb := K.base; replace H := H.call0 K)
  have e : toRes (sndTo exB) exB.length = ⟨sndVal 8 1 [0, 1], [0, 0], 0, 0⟩ := by unfold toRes; rw [if_neg (by decide), ex_to]
  rw [e] at hv hr ⊢
  dsimp only at hv hr ⊢
  ((repeat ((conv => whnf); first | refine an ?_ | refine H.ce ?_ | refine H.db ?_ | refine ea ?_ | refine ol ?_ | (refine H.st ?_; (conv => whnf); clear H; intro w H) | refine cT ?_ | refine cF ?_ | refine cN ?_ | refine cM ?_ | refine H.lw ?_ | refine H.ll ?_)); (conv => whnf))
  ((first | refine Rel.nwD H ?_ | refine Rel.nw H ?_); clear H; intro w b1 H)
  ((repeat ((conv => whnf); first | refine an ?_ | refine H.ce ?_ | refine H.db ?_ | refine ea ?_ | refine ol ?_ | (refine H.st ?_; (conv => whnf); clear H; intro w H) | refine cT ?_ | refine cF ?_ | refine cN ?_ | refine cM ?_ | refine H.lw ?_ | refine H.ll ?_)); (conv => whnf))
  ((first | refine Rel.nwD H ?_ | refine Rel.nw H ?_); clear H; intro w b3 H)
  ((repeat ((conv => whnf); first | refine an ?_ | refine H.ce ?_ | refine H.db ?_ | refine ea ?_ | refine ol ?_ | (refine H.st ?_; (conv => whnf); clear H; intro w H) | refine cT ?_ | refine cF ?_ | refine cN ?_ | refine cM ?_ | refine H.lw ?_ | refine H.ll ?_)); (conv => whnf))
  ((first | refine Rel.nwD H ?_ | refine Rel.nw H ?_); clear H; intro w b13 H)
  replace H := H.blkEq (c' := ([0, 0] : List UInt8).flatMap byC) rfl
  obtain ⟨V4, hV4, H, hb13⟩ := H.freezeBlk
  have hy : Byt V4 ⟨some ⟨b13, 0, none⟩, 2, 2⟩ [0, 0] := ⟨rfl, Nat.le_refl _, hb13.cells⟩
  ((repeat ((conv => whnf); first | refine an ?_ | ((first | refine H.nwD ?_ | refine H.nw ?_); clear H; intro w _ H) | refine H.ce ?_ | refine H.db ?_ | refine ea ?_ | refine ol ?_ | (refine H.st ?_; (conv => whnf); clear H; intro w H) | refine cT ?_ | refine cF ?_ | refine cN ?_ | refine cM ?_ | refine H.lw ?_ | refine H.ll ?_)); (conv => whnf))
  refine (explain_sound H.data hy (by decide)).use ?_
  rintro q w ⟨V5, r5, hV5, K, hres⟩
  (have hKb := K.base; replace H := H.call0 K)
  rw [ex_loss] at hres
  obtain ⟨rfl, hls⟩ := hres
  ((repeat ((conv => whnf); first | refine an ?_ | refine H.ce ?_ | refine H.db ?_ | refine ea ?_ | refine ol ?_ | (refine H.st ?_; (conv => whnf); clear H; intro w H) | refine cT ?_ | refine cF ?_ | refine cN ?_ | refine cM ?_ | refine H.lw ?_ | refine H.ll ?_)); (conv => whnf))
  ((first | refine Rel.nwD H ?_ | refine Rel.nw H ?_); clear H; intro w b5 H)
  ((repeat ((conv => whnf); first | refine an ?_ | ((first | refine H.nwD ?_ | refine H.nw ?_); clear H; intro w _ H) | refine H.ce ?_ | refine H.db ?_ | refine ea ?_ | refine ol ?_ | (refine H.st ?_; (conv => whnf); clear H; intro w H) | refine cT ?_ | refine cF ?_ | refine cN ?_ | refine cM ?_ | refine H.lw ?_ | refine H.ll ?_)); (conv => whnf))
  ((first | refine draw_vc (id := 3) tabOk mixed [10, 11] [0, 1, 2, 3, 4, 5, 6, 7, 8, 9, 10, 11, 12, 13, 14, 15, 16, 17, 18, 19, 20, 21, 22, 23, 24, 25] (by kernel_rfl) ?_); intro w hdw; replace H := Rel.ext H hdw.ext)
  ((repeat ((conv => whnf); first | refine an ?_ | refine H.ce ?_ | refine H.db ?_ | refine ea ?_ | refine ol ?_ | (refine H.st ?_; (conv => whnf); clear H; intro w H) | refine cT ?_ | refine cF ?_ | refine cN ?_ | refine cM ?_ | refine H.lw ?_ | refine H.ll ?_)); (conv => whnf))
  ((first | refine Rel.nwD H ?_ | refine Rel.nw H ?_); clear H; intro w b27 H)
  obtain ⟨V6, hV6, H, hb27⟩ := H.freezeBlk
  have hz : SlF itC V6 ⟨some ⟨b27, 0, none⟩, 1, 1⟩ [256] := ⟨rfl, Nat.le_refl _, hb27.cells⟩
  ((repeat ((conv => whnf); first | refine an ?_ | ((first | refine H.nwD ?_ | refine H.nw ?_); clear H; intro w _ H) | refine H.ce ?_ | refine H.db ?_ | refine ea ?_ | refine ol ?_ | (refine H.st ?_; (conv => whnf); clear H; intro w H) | refine cT ?_ | refine cF ?_ | refine cN ?_ | refine cM ?_ | refine H.lw ?_ | refine H.ll ?_)); (conv => whnf))
  refine (plainSound_ref (ch := 1) H.data 8 (by decide) hz (by decide) (by simp)).use ?_
  rintro q w ⟨V7, h7, hV7, K, rfl, hv7⟩
  (have hKb := K.base; replace H := H.call0 K)
  rw [ex_pcm] at hv7
  ((repeat ((conv => whnf); first | refine an ?_ | ((first | refine H.nwD ?_ | refine H.nw ?_); clear H; intro w _ H) | refine H.ce ?_ | refine H.db ?_ | refine ea ?_ | refine ol ?_ | (refine H.st ?_; (conv => whnf); clear H; intro w H) | refine cT ?_ | refine cF ?_ | refine cN ?_ | refine cM ?_ | refine H.lw ?_ | refine H.ll ?_)); (conv => whnf))
  refine (same_value (SizeOf.sizeOf (sndVal 8 1 [0, 1]) + 1) H.data (Nat.lt_succ_self _) ((((hv.up hV4).up hV5).up hV6).up hV7) hv7 ((vb_snd (by decide) (by decide) (by decide)).mono (by decide))).use ?_
  rintro q w ⟨r0, rfl, hsame, K⟩
  (have hKb := K.base; replace H := H.call0 K)
  obtain rfl := hsame.2 rfl
  ((repeat ((conv => whnf); first | refine an ?_ | refine H.ce ?_ | refine H.db ?_ | refine ea ?_ | refine ol ?_ | (refine H.st ?_; (conv => whnf); clear H; intro w H) | refine cT ?_ | refine cF ?_ | refine cN ?_ | refine cM ?_ | refine H.lw ?_ | refine H.ll ?_)); (conv => whnf))
  ((first | refine Rel.nwD H ?_ | refine Rel.nw H ?_); clear H; intro w b33 H)
  replace H := H.blkEq (c' := ([0, 0] : List UInt8).flatMap byC) rfl
  obtain ⟨V8, hV8, H, hb33⟩ := H.freezeBlk
  have hq : Byt V8 ⟨some ⟨b33, 0, none⟩, 2, 2⟩ [0, 0] := ⟨rfl, Nat.le_refl _, hb33.cells⟩
  ((repeat ((conv => whnf); first | refine an ?_ | ((first | refine H.nwD ?_ | refine H.nw ?_); clear H; intro w _ H) | refine H.ce ?_ | refine H.db ?_ | refine ea ?_ | refine ol ?_ | (refine H.st ?_; (conv => whnf); clear H; intro w H) | refine cT ?_ | refine cF ?_ | refine cN ?_ | refine cM ?_ | refine H.lw ?_ | refine H.ll ?_)); (conv => whnf))
  refine (bytes_ref H.data (((((hr.up hV4).up hV5).up hV6).up hV7).up hV8) hq).use ?_
  rintro q w ⟨rfl, K⟩
  (have hKb := K.base; replace H := H.call0 K)
  rw [decide_eq_true rfl]
  ((repeat ((conv => whnf); first | refine an ?_ | refine H.ce ?_ | refine H.db ?_ | refine ea ?_ | refine ol ?_ | (refine H.st ?_; (conv => whnf); clear H; intro w H) | refine cT ?_ | refine cF ?_ | refine cN ?_ | refine cM ?_ | refine H.lw ?_ | refine H.ll ?_)); (conv => whnf))
  ((first | refine Rel.nwD H ?_ | refine Rel.nw H ?_); clear H; intro w b39 H)
  obtain ⟨V9, hV9, H, hb39⟩ := H.freezeBlk
  have hl : SlF lossC V9 ⟨some ⟨b39, 0, none⟩, 1, 1⟩ [(sCoding, 0)] := ⟨rfl, Nat.le_refl _, hb39.cells⟩
  ((repeat ((conv => whnf); first | refine an ?_ | ((first | refine H.nwD ?_ | refine H.nw ?_); clear H; intro w _ H) | refine H.ce ?_ | refine H.db ?_ | refine ea ?_ | refine ol ?_ | (refine H.st ?_; (conv => whnf); clear H; intro w H) | refine cT ?_ | refine cF ?_ | refine cN ?_ | refine cM ?_ | refine H.lw ?_ | refine H.ll ?_)); (conv => whnf))
  refine (sameLosses_ref H.data ((((hls.up hV6).up hV7).up hV8).up hV9) hl (by decide)).use ?_
  rintro q w ⟨rfl, K⟩
  (have hKb := K.base; replace H := H.call0 K)
  rw [decide_eq_true rfl]
  ((repeat ((conv => whnf); first | refine an ?_ | ((first | refine H.nwD ?_ | refine H.nw ?_); clear H; intro w _ H) | refine H.ce ?_ | refine H.db ?_ | refine ea ?_ | refine ol ?_ | (refine H.st ?_; (conv => whnf); clear H; intro w H) | refine cT ?_ | refine cF ?_ | refine cN ?_ | refine cM ?_ | refine H.lw ?_ | refine H.ll ?_)); (conv => whnf))
  exact Rel.less H.sx hV2 ((((((hV3.trans hV4).trans hV5).trans hV6).trans hV7).trans hV8).trans hV9)
end
end Go.Proofs.Ytjfcpnlacodjjaa
