/-
  Sound files, the reference: PlainSound, SoundOnly.
-/
import Derived.Test.YtjfcpnlacodjjaaSndM
namespace Go.Proofs.Ytjfcpnlacodjjaa
open Go Go.RowKit

section
variable {V W : World}
theorem plainSound_ref (hV : Sub V W) (rate : Int) {ch : Nat} (hch : 1 ≤ ch ∧ ch ≤ 2) {s : Sl} {l : List Int} (hs : SlF itC V s l) (hl : l.length ≤ 1000000) (hb : ∀ x ∈ l, -32768 ≤ x ∧ x ≤ 32767) :
    Ret Try.prog 35 [iv rate, iv ch, s.v].toArray W fun q w' => ∃ (V' : World) (h : VH), Sub V V' ∧ Rel W V [] V' w' ∧ q = valV h ∧ ValAt V' h (sndVal rate ch (sndPcm l)) := by
  have H := Rel.start hV
  refine cal_of_vc tabOk Try.func35 rfl (by kernel_rfl) 18 rfl (by simp) [0, 1, 2, 6] ?_
  ((repeat ((conv => whnf); first | refine an ?_ | refine H.ce ?_ | refine H.db ?_ | refine ea ?_ | refine ol ?_ | (refine H.st ?_; (conv => whnf); clear H; intro w H) | refine cT ?_ | refine cF ?_ | refine cN ?_ | refine cM ?_ | refine H.lw ?_ | refine H.ll ?_)); (conv => whnf))
  ((first | refine Rel.nwD H ?_ | refine Rel.nw H ?_); clear H; intro w b6 H)
  ((repeat ((conv => whnf); first | refine an ?_ | refine H.ce ?_ | refine H.db ?_ | refine ea ?_ | refine ol ?_ | (refine H.st ?_; (conv => whnf); clear H; intro w H) | refine cT ?_ | refine cF ?_ | refine cN ?_ | refine cM ?_ | refine H.lw ?_ | refine H.ll ?_)); (conv => whnf))
  ((first | refine Rel.nwD H ?_ | refine Rel.nw H ?_); clear H; intro w b7 H)
  ((repeat ((conv => whnf); first | refine an ?_ | ((first | refine H.nwD ?_ | refine H.nw ?_); clear H; intro w _ H) | refine H.ce ?_ | refine H.db ?_ | refine ea ?_ | refine ol ?_ | (refine H.st ?_; (conv => whnf); clear H; intro w H) | refine cT ?_ | refine cF ?_ | refine cN ?_ | refine cM ?_ | refine H.lw ?_ | refine H.ll ?_)); (conv => whnf))
  refine (soundBytes_ref (coding := 1) H.data (by omega) hch hs hl hb).use ?_
  rintro q w ⟨r, rfl, K⟩
  (have hKb := K.base; replace H := Rel.call H K)
  simp only [List.cons_append, List.nil_append] at H
  rw [sndBytes_pcm] at H
  obtain ⟨V2, hV2, H, hr⟩ := Rel.freezeF H (fun _ => rfl) (by decide)
  obtain ⟨V3, hV3, H, hb7⟩ := H.freezeBlk
  ((repeat ((conv => whnf); first | refine an ?_ | refine H.ce ?_ | refine H.db ?_ | refine ea ?_ | refine ol ?_ | (refine H.st ?_; (conv => whnf); clear H; intro w H) | refine cT ?_ | refine cF ?_ | refine cN ?_ | refine cM ?_ | refine H.lw ?_ | refine H.ll ?_)); (conv => whnf))
  ((first | refine Rel.nwD H ?_ | refine Rel.nw H ?_); clear H; intro w b16 H)
  have H0 : Rel W V [.blk b16 (valC (numH rate) ++ (valC (numH ch) ++ valC (bytH r))) 27, .blk b6 (valC zeroH) 27] V3 w := H
  obtain ⟨V4, hV4, H, hb16⟩ := H0.freezeBlk
  clear H0
  ((repeat ((conv => whnf); first | refine an ?_ | ((first | refine H.nwD ?_ | refine H.nw ?_); clear H; intro w _ H) | refine H.ce ?_ | refine H.db ?_ | refine ea ?_ | refine ol ?_ | (refine H.st ?_; (conv => whnf); clear H; intro w H) | refine cT ?_ | refine cF ?_ | refine cN ?_ | refine cM ?_ | refine H.lw ?_ | refine H.ll ?_)); (conv => whnf))
  exact ⟨V4, _, (hV2.trans hV3).trans hV4, H.sx, rfl, sndVal_at (hb7.cells.sub' hV4) hb16.cells ((hr.up hV3).up hV4)⟩
theorem soundOnly_ref (hV : Sub V W) {coding : Nat} (hc : coding < 4) : Ret Try.prog 36 [iv coding].toArray W fun q w' => ∃ (V' : World) (r : Sl), Sub V V' ∧ Rel W V [] V' w' ∧ q = r.v ∧ Byt V' r (sndRes coding []) := by
  have H := Rel.start hV
  refine cal_of_vc tabOk Try.func36 rfl (by kernel_rfl) 9 rfl (by simp) [0, 2, 4] ?_
  by_cases h1 : coding = 1
  · subst h1
    ((repeat ((conv => whnf); first | refine an ?_ | ((first | refine H.nwD ?_ | refine H.nw ?_); clear H; intro w _ H) | refine H.ce ?_ | refine H.db ?_ | refine ea ?_ | refine ol ?_ | (refine H.st ?_; (conv => whnf); clear H; intro w H) | refine cT ?_ | refine cF ?_ | refine cN ?_ | refine cM ?_ | refine H.lw ?_ | refine H.ll ?_)); (conv => whnf))
    exact ⟨V, ⟨none, 0, 0⟩, Sub.refl _, H.sx, rfl, SlF.nil _ _⟩
  have e : sndRes coding [] = putN coding ++ putN 0 := by
    unfold sndRes
    rw [if_neg (fun h => h1 h.1)]
    simp [putL]
  have a1 := putN_len (n := (coding : Int)) (by omega) (by omega)
  have a2 := putN_len (n := 0) (by omega) (by omega)
  rw [e]
  ((repeat ((conv => whnf); first | refine an ?_ | ((first | refine H.nwD ?_ | refine H.nw ?_); clear H; intro w _ H) | refine H.ce ?_ | refine H.db ?_ | refine ea ?_ | refine ol ?_ | (refine H.st ?_; (conv => whnf); clear H; intro w H) | refine cT ?_ | refine cF ?_ | refine cN ?_ | refine cM ?_ | refine H.lw ?_ | refine H.ll ?_)); (conv => whnf))
  refine (put_ref (n := (coding : Int)) H.data (by constructor <;> omega)).use ?_
  rintro q w ⟨r1, rfl, K⟩
  (have hKb := K.base; replace H := Rel.call H K)
  simp only [List.append_nil] at H
  obtain ⟨V2, hV2, H, hr1⟩ := Rel.freezeF H (fun _ => rfl) (by decide)
  ((repeat ((conv => whnf); first | refine an ?_ | ((first | refine H.nwD ?_ | refine H.nw ?_); clear H; intro w _ H) | refine H.ce ?_ | refine H.db ?_ | refine ea ?_ | refine ol ?_ | (refine H.st ?_; (conv => whnf); clear H; intro w H) | refine cT ?_ | refine cF ?_ | refine cN ?_ | refine cM ?_ | refine H.lw ?_ | refine H.ll ?_)); (conv => whnf))
  refine (put_ref (n := 0) H.data (by constructor <;> omega)).use ?_
  rintro q w ⟨r2, rfl, K⟩
  (have hKb := K.base; replace H := Rel.call H K)
  simp only [List.append_nil] at H
  obtain ⟨V3, hV3, H, hr2⟩ := Rel.freezeF H (fun _ => rfl) (by decide)
  ((repeat ((conv => whnf); first | refine an ?_ | ((first | refine H.nwD ?_ | refine H.nw ?_); clear H; intro w _ H) | refine H.ce ?_ | refine H.db ?_ | refine ea ?_ | refine ol ?_ | (refine H.st ?_; (conv => whnf); clear H; intro w H) | refine cT ?_ | refine cF ?_ | refine cN ?_ | refine cM ?_ | refine H.lw ?_ | refine H.ll ?_)); (conv => whnf))
  refine (join_ref H.data (hr1.up hV3) hr2 (by omega)).use ?_
  rintro q w ⟨r3, rfl, K⟩
  (have hKb := K.base; replace H := Rel.call H K)
  simp only [List.append_nil] at H
  obtain ⟨V4, hV4, H, hr3⟩ := Rel.freezeF H (fun _ => rfl) (by decide)
  ((repeat ((conv => whnf); first | refine an ?_ | ((first | refine H.nwD ?_ | refine H.nw ?_); clear H; intro w _ H) | refine H.ce ?_ | refine H.db ?_ | refine ea ?_ | refine ol ?_ | (refine H.st ?_; (conv => whnf); clear H; intro w H) | refine cT ?_ | refine cF ?_ | refine cN ?_ | refine cM ?_ | refine H.lw ?_ | refine H.ll ?_)); (conv => whnf))
  exact ⟨V4, r3, (hV2.trans hV3).trans hV4, H.sx, rfl, hr3⟩
end
end Go.Proofs.Ytjfcpnlacodjjaa
