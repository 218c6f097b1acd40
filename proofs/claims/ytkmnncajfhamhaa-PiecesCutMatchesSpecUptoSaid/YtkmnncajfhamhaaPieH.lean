/-
  PiecesCutMatchesSpec.
-/
import Derived.Test.YtkmnncajfhamhaaPieG
namespace Go.Proofs.Ytkmnncajfhamhaa
open Go Go.RowKit

set_option maxRecDepth 100000 in
theorem law_cut {w : World} {x : Sl} {l : List UInt8} (hx : By w x l) (hl : l.length ≤ 1099511627776) :
    Ret Try.prog 3 [x.v].toArray w fun v w' => v = .bool true ∧ Ext w w' := by
  have hxl := hx.len
  refine cal_of_vc tabOk Try.func3 rfl (by kernel_rfl) 60 rfl (by simp) [0, 2, 3, 4, 5, 6, 8, 21] ?_
  have hE : Ext w w := Ext.refl w
  (conv => whnf)
  refine (example_spec w).use ?_
  rintro v w1 ⟨rfl, he1⟩
  have hz_he1 := (he1).size
  replace hE := hE.byExt he1
  (conv => whnf)
  refine (cut_spec (hx.ext hE) hl).use ?_
  rintro v w2 ⟨he2, hv⟩
  have hz_he2 := (he2).size
  replace hE := hE.byExt he2
  rcases hv with ⟨hlb, rfl⟩ | ⟨hlb, s, rfl, hs⟩
  · (conv => whnf)
    intro w3 b4 hn_b4
    have hz_w3 := hn_b4.size
    have hm_b4 := hn_b4.num
    have he_b4 := hn_b4.ext
    have k_b4 := hn_b4.blk
    replace hE := hE.byExt he_b4
    ((repeat ((conv => whnf); first | refine And.intro (by first | omega | assumption | exact rfl) ?_ | refine Exists.intro _ (And.intro (by assumption) ?_) | refine Exists.intro _ (Exists.intro _ (And.intro (by assumption) ?_)) | refine Exists.intro _ (And.intro (Blk.cel (by assumption) (by rfl)) ?_))); (conv => whnf))
    intro w4 hu_w4
    replace hu_w4 : Upd _ b4 _ _ _ := hu_w4
    have hz_w4 := hu_w4.size
    replace hE := hE.byUpd hu_w4 (by omega)
    replace k_b4 := hu_w4.blk k_b4.lt
    ((repeat ((conv => whnf); first | refine And.intro (by first | omega | assumption | exact rfl) ?_ | refine Exists.intro _ (And.intro (by assumption) ?_) | refine Exists.intro _ (Exists.intro _ (And.intro (by assumption) ?_)) | refine Exists.intro _ (And.intro (Blk.cel (by assumption) (by rfl)) ?_))); (conv => whnf))
    refine (split_spec (hx.ext hE) hl).use ?_
    rintro v w5 ⟨he5, hv⟩
    have hz_he5 := (he5).size
    replace hE := hE.byExt he5
    replace k_b4 := k_b4.byExt he5
    rcases hv with ⟨_, rfl⟩ | ⟨h, _⟩
    rotate_left
    · omega
    (conv => whnf)
    intro w6 b6 hn_b6
    have hz_w6 := hn_b6.size
    have hm_b6 := hn_b6.num
    have he_b6 := hn_b6.ext
    have k_b6 := hn_b6.blk
    replace hE := hE.byExt he_b6
    replace k_b4 := k_b4.byExt he_b6
    ((repeat ((conv => whnf); first | refine And.intro (by first | omega | assumption | exact rfl) ?_ | refine Exists.intro _ (And.intro (by assumption) ?_) | refine Exists.intro _ (Exists.intro _ (And.intro (by assumption) ?_)) | refine Exists.intro _ (And.intro (Blk.cel (by assumption) (by rfl)) ?_))); (conv => whnf))
    intro w7 hu_w7
    replace hu_w7 : Upd _ b6 _ _ _ := hu_w7
    have hz_w7 := hu_w7.size
    replace hE := hE.byUpd hu_w7 (by omega)
    replace k_b4 := k_b4.byUpd hu_w7 (by omega)
    replace k_b6 := hu_w7.blk k_b6.lt
    ((repeat ((conv => whnf); first | refine And.intro (by first | omega | assumption | exact rfl) ?_ | refine Exists.intro _ (And.intro (by assumption) ?_) | refine Exists.intro _ (Exists.intro _ (And.intro (by assumption) ?_)) | refine Exists.intro _ (And.intro (Blk.cel (by assumption) (by rfl)) ?_))); (conv => whnf))
    refine condG_dec (fun _ => ?_) (fun h => absurd (show (2048 : Int) < ((x.len : Nat) : Int) by omega) h)
    (conv => whnf)
    refine draw_vc tabOk mixed [1] [0, 1, 2, 3, 4, 5, 6, 7, 8, 9, 10, 11, 12, 13, 14, 15, 16, 17, 18] (by kernel_rfl) ?_
    intro w8 hd_w8
    have he_w8 := hd_w8.ext
    have hz_w8 := he_w8.size
    replace hE := hE.byExt he_w8
    replace k_b4 := k_b4.byExt he_w8
    replace k_b6 := k_b6.byExt he_w8
    ((repeat ((conv => whnf); first | refine And.intro (by first | omega | assumption | exact rfl) ?_ | refine Exists.intro _ (And.intro (by assumption) ?_) | refine Exists.intro _ (Exists.intro _ (And.intro (by assumption) ?_)) | refine Exists.intro _ (And.intro (Blk.cel (by assumption) (by rfl)) ?_))); (conv => whnf))
    refine (at_ref 3 (-1) _).use ?_
    rintro v w9 ⟨rfl, he9⟩
    have hz_he9 := (he9).size
    replace hE := hE.byExt he9
    replace k_b4 := k_b4.byExt he9
    replace k_b6 := k_b6.byExt he9
    ((repeat ((conv => whnf); first | refine And.intro (by first | omega | assumption | exact rfl) ?_ | refine Exists.intro _ (And.intro (by assumption) ?_) | refine Exists.intro _ (Exists.intro _ (And.intro (by assumption) ?_)) | refine Exists.intro _ (And.intro (Blk.cel (by assumption) (by rfl)) ?_))); (conv => whnf))
    exact hE
  · have hM : Mid 0 w2 w2 := Mid.refl _ _
    (conv => whnf)
    intro w3 b4 hn_b4
    have hz_w3 := hn_b4.size
    have hm_b4 := hn_b4.num
    have he_b4 := hn_b4.ext
    have k_b4 := hn_b4.blk
    replace hE := hE.byExt he_b4
    replace hM := hM.byExt he_b4
    ((repeat ((conv => whnf); first | refine And.intro (by first | omega | assumption | exact rfl) ?_ | refine Exists.intro _ (And.intro (by assumption) ?_) | refine Exists.intro _ (Exists.intro _ (And.intro (by assumption) ?_)) | refine Exists.intro _ (And.intro (Blk.cel (by assumption) (by rfl)) ?_))); (conv => whnf))
    intro w4 hu_w4
    replace hu_w4 : Upd _ b4 _ _ _ := hu_w4
    have hz_w4 := hu_w4.size
    replace hE := hE.byUpd hu_w4 (by omega)
    replace hM := hM.byUpd hu_w4 (by omega)
    replace k_b4 := hu_w4.blk k_b4.lt
    ((repeat ((conv => whnf); first | refine And.intro (by first | omega | assumption | exact rfl) ?_ | refine Exists.intro _ (And.intro (by assumption) ?_) | refine Exists.intro _ (Exists.intro _ (And.intro (by assumption) ?_)) | refine Exists.intro _ (And.intro (Blk.cel (by assumption) (by rfl)) ?_))); (conv => whnf))
    refine (split_spec (hx.ext hE) hl).use ?_
    rintro v w5 ⟨he5, hv⟩
    have hz_he5 := (he5).size
    replace hE := hE.byExt he5
    replace hM := hM.byExt he5
    replace k_b4 := k_b4.byExt he5
    rcases hv with ⟨h, _⟩ | ⟨_, t, rfl, ht⟩
    · omega
    have hM2 : Mid 0 w5 w5 := Mid.refl _ _
    (conv => whnf)
    intro w6 b6 hn_b6
    have hz_w6 := hn_b6.size
    have hm_b6 := hn_b6.num
    have he_b6 := hn_b6.ext
    have k_b6 := hn_b6.blk
    replace hE := hE.byExt he_b6
    replace hM := hM.byExt he_b6
    replace k_b4 := k_b4.byExt he_b6
    replace hM2 := hM2.byExt he_b6
    ((repeat ((conv => whnf); first | refine And.intro (by first | omega | assumption | exact rfl) ?_ | refine Exists.intro _ (And.intro (by assumption) ?_) | refine Exists.intro _ (Exists.intro _ (And.intro (by assumption) ?_)) | refine Exists.intro _ (And.intro (Blk.cel (by assumption) (by rfl)) ?_))); (conv => whnf))
    intro w7 hu_w7
    replace hu_w7 : Upd _ b6 _ _ _ := hu_w7
    have hz_w7 := hu_w7.size
    replace hE := hE.byUpd hu_w7 (by omega)
    replace hM := hM.byUpd hu_w7 (by omega)
    replace k_b4 := k_b4.byUpd hu_w7 (by omega)
    replace hM2 := hM2.byUpd hu_w7 (by omega)
    replace k_b6 := hu_w7.blk k_b6.lt
    ((repeat ((conv => whnf); first | refine And.intro (by first | omega | assumption | exact rfl) ?_ | refine Exists.intro _ (And.intro (by assumption) ?_) | refine Exists.intro _ (Exists.intro _ (And.intro (by assumption) ?_)) | refine Exists.intro _ (And.intro (Blk.cel (by assumption) (by rfl)) ?_))); (conv => whnf))
    refine condG_dec (fun h => absurd h (by omega)) (fun h => ?_)
    ((repeat ((conv => whnf); first | refine And.intro (by first | omega | assumption | exact rfl) ?_ | refine Exists.intro _ (And.intro (by assumption) ?_) | refine Exists.intro _ (Exists.intro _ (And.intro (by assumption) ?_)) | refine Exists.intro _ (And.intro (Blk.cel (by assumption) (by rfl)) ?_))); (conv => whnf))
    refine (ends_ref (hx.ext hE) hl).use ?_
    rintro v w8 ⟨s2, rfl, hs2, he8⟩
    have hz_he8 := (he8).size
    replace hE := hE.byExt he8
    replace hM := hM.byExt he8
    replace k_b4 := k_b4.byExt he8
    replace hM2 := hM2.byExt he8
    replace k_b6 := k_b6.byExt he8
    ((repeat ((conv => whnf); first | refine And.intro (by first | omega | assumption | exact rfl) ?_ | refine Exists.intro _ (And.intro (by assumption) ?_) | refine Exists.intro _ (Exists.intro _ (And.intro (by assumption) ?_)) | refine Exists.intro _ (And.intro (Blk.cel (by assumption) (by rfl)) ?_))); (conv => whnf))
    refine (ints_ref (hs.mono_mid hM).in_ hs2.in_ ?_).use ?_
    · have := endsS_len l l.length
      omega
    rintro v w9 ⟨rfl, he9⟩
    have hz_he9 := (he9).size
    replace hE := hE.byExt he9
    replace hM := hM.byExt he9
    replace k_b4 := k_b4.byExt he9
    replace hM2 := hM2.byExt he9
    replace k_b6 := k_b6.byExt he9
    (conv => whnf)
    refine condG_dec (fun _ => ?_) (fun h => absurd rfl h)
    ((repeat ((conv => whnf); first | refine And.intro (by first | omega | assumption | exact rfl) ?_ | refine Exists.intro _ (And.intro (by assumption) ?_) | refine Exists.intro _ (Exists.intro _ (And.intro (by assumption) ?_)) | refine Exists.intro _ (And.intro (Blk.cel (by assumption) (by rfl)) ?_))); (conv => whnf))
    refine (pieces_ref (hx.ext hE) hl).use ?_
    rintro v w10 ⟨t2, rfl, ht2, he10⟩
    have hz_he10 := (he10).size
    replace hE := hE.byExt he10
    replace hM := hM.byExt he10
    replace k_b4 := k_b4.byExt he10
    replace hM2 := hM2.byExt he10
    replace k_b6 := k_b6.byExt he10
    ((repeat ((conv => whnf); first | refine And.intro (by first | omega | assumption | exact rfl) ?_ | refine Exists.intro _ (And.intro (by assumption) ?_) | refine Exists.intro _ (Exists.intro _ (And.intro (by assumption) ?_)) | refine Exists.intro _ (And.intro (Blk.cel (by assumption) (by rfl)) ?_))); (conv => whnf))
    refine (chunks_ref (ht.mono_mid hM2).ch ht2.ch ?_).use ?_
    · have : (piecesS l).length ≤ l.length := by simpa [piecesS] using cutS_len l l.length
      omega
    rintro v w11 ⟨rfl, he11⟩
    have hz_he11 := (he11).size
    replace hE := hE.byExt he11
    replace hM := hM.byExt he11
    replace k_b4 := k_b4.byExt he11
    replace hM2 := hM2.byExt he11
    replace k_b6 := k_b6.byExt he11
    ((repeat ((conv => whnf); first | refine And.intro (by first | omega | assumption | exact rfl) ?_ | refine Exists.intro _ (And.intro (by assumption) ?_) | refine Exists.intro _ (Exists.intro _ (And.intro (by assumption) ?_)) | refine Exists.intro _ (And.intro (Blk.cel (by assumption) (by rfl)) ?_))); (conv => whnf))
    exact ⟨by simp, hE⟩
end Go.Proofs.Ytkmnncajfhamhaa
