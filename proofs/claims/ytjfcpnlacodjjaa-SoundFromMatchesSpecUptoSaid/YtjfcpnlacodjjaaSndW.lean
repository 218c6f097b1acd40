/-
  Sound files, the reference: PlainSound.
-/
import Derived.Test.YtjfcpnlacodjjaaSndM
namespace Go.Proofs.Ytjfcpnlacodjjaa
open Go Go.RowKit

section
variable {V W : World}
theorem plainSound_ref (hV : Sub V W) (rate : Int) {ch : Nat} (hch : 1 ≤ ch ∧ ch ≤ 2) {s : Sl} {l : List Int} (hs : SlF itC V s l) (hl : l.length ≤ 1000000) (hb : ∀ x ∈ l, -32768 ≤ x ∧ x ≤ 32767) :
    Ret Try.prog 35 [iv rate, iv ch, s.v].toArray W fun q w' => ∃ (V' : World) (h : VH), Sub V V' ∧ Rel W V [] V' w' ∧ q = valV h ∧ ValAt V' h (sndVal rate ch (sndPcm l)) := by
  have H := Rel.start hV
  refine cal_of_vc tabOk Try.func35 rfl (by kernel_rfl) 18 rfl (by simp) [0, 1, 2, 6] ?_
  ((repeat ((conv => whnf); first | refine an ?_ | refine H.ce ?_ | refine H.db ?_ | refine ea ?_ | refine ol ?_ | (refine H.st ?_; (conv => whnf); clear H; intro w H) | refine cT ?_ | refine cF ?_ | refine cN ?_ | refine cM ?_ | refine H.lw ?_ | refine H.ll ?_)); (conv => whnf))
  ((first | refine Rel.nwD H ?_ | refine Rel.nw H ?_); clear H; intro w b6 H)
  ((repeat ((conv => whnf); first | refine an ?_ | refine H.ce ?_ | refine H.db ?_ | refine ea ?_ | refine ol ?_ | (refine H.st ?_; (conv => whnf); clear H; intro w H) | refine cT ?_ | refine cF ?_ | refine cN ?_ | refine cM ?_ | refine H.lw ?_ | refine H.ll ?_)); (conv => whnf))
  ((first | refine Rel.nwD H ?_ | refine Rel.nw H ?_); clear H; intro w b7 H)
  ((repeat ((conv => whnf); first | refine an ?_ | ((first | refine H.nwD ?_ | refine H.nw ?_); clear H; intro w _ H) | refine H.ce ?_ | refine H.db ?_ | refine ea ?_ | refine ol ?_ | (refine H.st ?_; (conv => whnf); clear H; intro w H) | refine cT ?_ | refine cF ?_ | refine cN ?_ | refine cM ?_ | refine H.lw ?_ | refine H.ll ?_)); (conv => whnf))
  refine (soundBytes_ref (coding := 1) H.data (by omega) hch hs hl hb).use ?_
  rintro q w ⟨r, rfl, K⟩
  (have hKb := K.base; replace H := Rel.call H K)
  simp only [List.cons_append, List.nil_append] at H
  rw [sndBytes_pcm] at H
  obtain ⟨V2, hV2, H, hr⟩ := Rel.freezeF H (fun _ => rfl) (by decide)
  obtain ⟨V3, hV3, H, hb7⟩ := H.freezeBlk
  ((repeat ((conv => whnf); first | refine an ?_ | refine H.ce ?_ | refine H.db ?_ | refine ea ?_ | refine ol ?_ | (refine H.st ?_; (conv => whnf); clear H; intro w H) | refine cT ?_ | refine cF ?_ | refine cN ?_ | refine cM ?_ | refine H.lw ?_ | refine H.ll ?_)); (conv => whnf))
  ((first | refine Rel.nwD H ?_ | refine Rel.nw H ?_); clear H; intro w b16 H)
  have H0 : Rel W V [.blk b16 (valC (numH rate) ++ (valC (numH ch) ++ valC (bytH r))) 27, .blk b6 (valC zeroH) 27] V3 w := H
  obtain ⟨V4, hV4, H, hb16⟩ := H0.freezeBlk
  clear H0
  ((repeat ((conv => whnf); first | refine an ?_ | ((first | refine H.nwD ?_ | refine H.nw ?_); clear H; intro w _ H) | refine H.ce ?_ | refine H.db ?_ | refine ea ?_ | refine ol ?_ | (refine H.st ?_; (conv => whnf); clear H; intro w H) | refine cT ?_ | refine cF ?_ | refine cN ?_ | refine cM ?_ | refine H.lw ?_ | refine H.ll ?_)); (conv => whnf))
  exact ⟨V4, _, (hV2.trans hV3).trans hV4, H.sx, rfl, sndVal_at (hb7.cells.sub' hV4) hb16.cells ((hr.up hV3).up hV4)⟩
end
end Go.Proofs.Ytjfcpnlacodjjaa
