/-
  The example that each law of pieces begins with.
-/
import Derived.Test.YtkmnncajfhamhaaPieF
namespace Go.Proofs.Ytkmnncajfhamhaa
open Go Go.RowKit

def cutGo (l : List UInt8) : Nat → Nat → Nat × List (Nat × Nat) → Nat × List (Nat × Nat)
  | 0, _, s => s
  | n + 1, k, s => cutGo l n (k + 1) (if isEndM l s.1 (k + 1) then (k + 1, s.2 ++ [(s.1, k + 1)]) else s)
theorem cutGo_eq (l : List UInt8) : ∀ n k, cutGo l n k (cutS l k) = cutS l (k + n)
  | 0, k => rfl
  | n + 1, k => by
    have := cutGo_eq l n (k + 1)
    rw [show k + (n + 1) = k + 1 + n by omega, ← this]
    rfl
def exA : List UInt8 := [0, 0, 0, 0, 0, 0, 0, 0, 0, 0, 0, 0, 0, 0, 0, 0, 0, 0, 0, 0, 0, 0, 0, 5, 0, 0, 0, 0, 0, 0]
def exB : List UInt8 := [0, 0, 0, 0, 0, 0, 0, 0, 0, 0, 0, 0, 0, 0, 0, 0, 0, 0, 0, 0, 0, 0, 0, 0, 0, 0, 0, 0, 0, 0]
theorem exA_go : cutGo exA 30 0 (0, []) = (30, [(0, 24), (24, 30)]) := by kernel_rfl
theorem exB_go : cutGo exB 30 0 (0, []) = (30, [(0, 30)]) := by kernel_rfl
theorem exA_cut : cutS exA 30 = (30, [(0, 24), (24, 30)]) := by
  have := cutGo_eq exA 30 0
  rw [Nat.zero_add] at this
  exact this.symm.trans exA_go
theorem exB_cut : cutS exB 30 = (30, [(0, 30)]) := by
  have := cutGo_eq exB 30 0
  rw [Nat.zero_add] at this
  exact this.symm.trans exB_go
theorem exA_len : exA.length = 30 := rfl
theorem exB_len : exB.length = 30 := rfl
theorem exA_ends : endsS exA exA.length = [24, 30] := by rw [exA_len, endsS, exA_cut]; rfl
theorem exB_pieces : piecesS exB = [exB] := by rw [piecesS, exB_len, exB_cut]; rfl
theorem exA_pieces : (piecesS exA).length = 2 := by rw [piecesS, exA_len, exA_cut]; rfl
theorem example_spec (w : World) : Ret Try.prog 8 [].toArray w fun v w' => v = .bool true ∧ Ext w w' := by
  refine cal_of_vc tabOk Try.func8 rfl (by kernel_rfl) 67 rfl (by simp) [0, 1, 2, 3, 4, 5, 6, 7, 8] ?_
  have hE : Ext w w := Ext.refl w
  (conv => whnf)
  refine sem_make tabOk rfl rfl rfl rfl rfl rfl (by omega) (by decide) (by omega) ?_
  intro w1 b1 hn_b1
  have hz_w1 := hn_b1.size
  have hm_b1 := hn_b1.num
  have he_b1 := hn_b1.ext
  have k_b1 := hn_b1.blk
  replace hE := hE.byExt he_b1
  ((repeat ((conv => whnf); first | refine And.intro (by first | omega | assumption | exact rfl) ?_ | refine Exists.intro _ (And.intro (by assumption) ?_) | refine Exists.intro _ (Exists.intro _ (And.intro (by assumption) ?_)) | refine Exists.intro _ (And.intro (Blk.cel (by assumption) (by rfl)) ?_))); (conv => whnf))
  intro w2 hu_w2
  replace hu_w2 : Upd _ b1 _ _ _ := hu_w2
  have hz_w2 := hu_w2.size
  replace hE := hE.byUpd hu_w2 (by omega)
  replace k_b1 := hu_w2.blk k_b1.lt
  have hyA : By w2 ⟨some ⟨b1, 0, none⟩, 30, 30⟩ exA := ⟨rfl, k_b1.cells, Nat.le_refl _⟩
  have hA : Ext w2 w2 := Ext.refl w2
  ((repeat ((conv => whnf); first | refine And.intro (by first | omega | assumption | exact rfl) ?_ | refine Exists.intro _ (And.intro (by assumption) ?_) | refine Exists.intro _ (Exists.intro _ (And.intro (by assumption) ?_)) | refine Exists.intro _ (And.intro (Blk.cel (by assumption) (by rfl)) ?_))); (conv => whnf))
  refine (cut_spec hyA (by simp [exA])).use ?_
  rintro v w3 ⟨he3, hv⟩
  have hz_he3 := (he3).size
  replace hE := hE.byExt he3
  replace k_b1 := k_b1.byExt he3
  replace hA := hA.byExt he3
  rcases hv with ⟨h, _⟩ | ⟨_, s, rfl, hs⟩
  · simp [exA, exB] at h
  rw [exA_ends] at hs
  have hM : Mid 0 w3 w3 := Mid.refl _ _
  (conv => whnf)
  intro w4 b3 hn_b3
  have hz_w4 := hn_b3.size
  have hm_b3 := hn_b3.num
  have he_b3 := hn_b3.ext
  have k_b3 := hn_b3.blk
  replace hE := hE.byExt he_b3
  replace k_b1 := k_b1.byExt he_b3
  replace hA := hA.byExt he_b3
  replace hM := hM.byExt he_b3
  ((repeat ((conv => whnf); first | refine And.intro (by first | omega | assumption | exact rfl) ?_ | refine Exists.intro _ (And.intro (by assumption) ?_) | refine Exists.intro _ (Exists.intro _ (And.intro (by assumption) ?_)) | refine Exists.intro _ (And.intro (Blk.cel (by assumption) (by rfl)) ?_))); (conv => whnf))
  intro w5 hu_w5
  replace hu_w5 : Upd _ b3 _ _ _ := hu_w5
  have hz_w5 := hu_w5.size
  replace hE := hE.byUpd hu_w5 (by omega)
  replace k_b1 := k_b1.byUpd hu_w5 (by omega)
  replace hA := hA.byUpd hu_w5 (by omega)
  replace hM := hM.byUpd hu_w5 (by omega)
  replace k_b3 := hu_w5.blk k_b3.lt
  ((repeat ((conv => whnf); first | refine And.intro (by first | omega | assumption | exact rfl) ?_ | refine Exists.intro _ (And.intro (by assumption) ?_) | refine Exists.intro _ (Exists.intro _ (And.intro (by assumption) ?_)) | refine Exists.intro _ (And.intro (Blk.cel (by assumption) (by rfl)) ?_))); (conv => whnf))
  refine sem_make tabOk rfl rfl rfl rfl rfl rfl (by omega) (by decide) (by omega) ?_
  intro w6 b2 hn_b2
  have hz_w6 := hn_b2.size
  have hm_b2 := hn_b2.num
  have he_b2 := hn_b2.ext
  have k_b2 := hn_b2.blk
  replace hE := hE.byExt he_b2
  replace k_b1 := k_b1.byExt he_b2
  replace hA := hA.byExt he_b2
  replace hM := hM.byExt he_b2
  replace k_b3 := k_b3.byExt he_b2
  ((repeat ((conv => whnf); first | refine And.intro (by first | omega | assumption | exact rfl) ?_ | refine Exists.intro _ (And.intro (by assumption) ?_) | refine Exists.intro _ (Exists.intro _ (And.intro (by assumption) ?_)) | refine Exists.intro _ (And.intro (Blk.cel (by assumption) (by rfl)) ?_))); (conv => whnf))
  have hyB : By w6 ⟨some ⟨b2, 0, none⟩, 30, 30⟩ exB := ⟨rfl, k_b2.cells, Nat.le_refl _⟩
  refine (split_spec hyB (by simp [exB])).use ?_
  rintro v w7 ⟨he7, hv⟩
  have hz_he7 := (he7).size
  replace hE := hE.byExt he7
  replace k_b1 := k_b1.byExt he7
  replace hA := hA.byExt he7
  replace hM := hM.byExt he7
  replace k_b3 := k_b3.byExt he7
  replace k_b2 := k_b2.byExt he7
  rcases hv with ⟨h, _⟩ | ⟨_, t, rfl, ht⟩
  · simp [exA, exB] at h
  rw [exB_pieces] at ht
  have hM2 : Mid 0 w7 w7 := Mid.refl _ _
  (conv => whnf)
  intro w8 b5 hn_b5
  have hz_w8 := hn_b5.size
  have hm_b5 := hn_b5.num
  have he_b5 := hn_b5.ext
  have k_b5 := hn_b5.blk
  replace hE := hE.byExt he_b5
  replace k_b1 := k_b1.byExt he_b5
  replace hA := hA.byExt he_b5
  replace hM := hM.byExt he_b5
  replace k_b3 := k_b3.byExt he_b5
  replace k_b2 := k_b2.byExt he_b5
  replace hM2 := hM2.byExt he_b5
  ((repeat ((conv => whnf); first | refine And.intro (by first | omega | assumption | exact rfl) ?_ | refine Exists.intro _ (And.intro (by assumption) ?_) | refine Exists.intro _ (Exists.intro _ (And.intro (by assumption) ?_)) | refine Exists.intro _ (And.intro (Blk.cel (by assumption) (by rfl)) ?_))); (conv => whnf))
  intro w9 hu_w9
  replace hu_w9 : Upd _ b5 _ _ _ := hu_w9
  have hz_w9 := hu_w9.size
  replace hE := hE.byUpd hu_w9 (by omega)
  replace k_b1 := k_b1.byUpd hu_w9 (by omega)
  replace hA := hA.byUpd hu_w9 (by omega)
  replace hM := hM.byUpd hu_w9 (by omega)
  replace k_b3 := k_b3.byUpd hu_w9 (by omega)
  replace k_b2 := k_b2.byUpd hu_w9 (by omega)
  replace hM2 := hM2.byUpd hu_w9 (by omega)
  replace k_b5 := hu_w9.blk k_b5.lt
  ((repeat ((conv => whnf); first | refine And.intro (by first | omega | assumption | exact rfl) ?_ | refine Exists.intro _ (And.intro (by assumption) ?_) | refine Exists.intro _ (Exists.intro _ (And.intro (by assumption) ?_)) | refine Exists.intro _ (And.intro (Blk.cel (by assumption) (by rfl)) ?_))); (conv => whnf))
  refine (common_spec (hyA.ext hA) (hyA.ext hA) (by simp [exA]) (by simp [exA])).use ?_
  rintro v w10 ⟨he10, hv⟩
  have hz_he10 := (he10).size
  replace hE := hE.byExt he10
  replace k_b1 := k_b1.byExt he10
  replace hA := hA.byExt he10
  replace hM := hM.byExt he10
  replace k_b3 := k_b3.byExt he10
  replace k_b2 := k_b2.byExt he10
  replace hM2 := hM2.byExt he10
  replace k_b5 := k_b5.byExt he10
  rcases hv with ⟨h, _⟩ | ⟨_, h, _⟩ | ⟨_, _, p, q, rfl, hp, hq⟩
  · simp [exA, exB] at h
  · simp [exA, exB] at h
  rw [exA_pieces] at hp hq
  have hp2 : p = 2 := hp.unique ⟨by omega, fun _ _ => rfl, fun h => by omega⟩
  subst hp2
  have hq0 : q = 0 := by have := hq.le; omega
  subst hq0
  (conv => whnf)
  intro w11 b8 hn_b8
  have hz_w11 := hn_b8.size
  have hm_b8 := hn_b8.num
  have he_b8 := hn_b8.ext
  have k_b8 := hn_b8.blk
  replace hE := hE.byExt he_b8
  replace k_b1 := k_b1.byExt he_b8
  replace hA := hA.byExt he_b8
  replace hM := hM.byExt he_b8
  replace k_b3 := k_b3.byExt he_b8
  replace k_b2 := k_b2.byExt he_b8
  replace hM2 := hM2.byExt he_b8
  replace k_b5 := k_b5.byExt he_b8
  ((repeat ((conv => whnf); first | refine And.intro (by first | omega | assumption | exact rfl) ?_ | refine Exists.intro _ (And.intro (by assumption) ?_) | refine Exists.intro _ (Exists.intro _ (And.intro (by assumption) ?_)) | refine Exists.intro _ (And.intro (Blk.cel (by assumption) (by rfl)) ?_))); (conv => whnf))
  intro w12 hu_w12
  replace hu_w12 : Upd _ b8 _ _ _ := hu_w12
  have hz_w12 := hu_w12.size
  replace hE := hE.byUpd hu_w12 (by omega)
  replace k_b1 := k_b1.byUpd hu_w12 (by omega)
  replace hA := hA.byUpd hu_w12 (by omega)
  replace hM := hM.byUpd hu_w12 (by omega)
  replace k_b3 := k_b3.byUpd hu_w12 (by omega)
  replace k_b2 := k_b2.byUpd hu_w12 (by omega)
  replace hM2 := hM2.byUpd hu_w12 (by omega)
  replace k_b5 := k_b5.byUpd hu_w12 (by omega)
  replace k_b8 := hu_w12.blk k_b8.lt
  ((repeat ((conv => whnf); first | refine And.intro (by first | omega | assumption | exact rfl) ?_ | refine Exists.intro _ (And.intro (by assumption) ?_) | refine Exists.intro _ (Exists.intro _ (And.intro (by assumption) ?_)) | refine Exists.intro _ (And.intro (Blk.cel (by assumption) (by rfl)) ?_))); (conv => whnf))
  intro w13 b9 hn_b9
  have hz_w13 := hn_b9.size
  have hm_b9 := hn_b9.num
  have he_b9 := hn_b9.ext
  have k_b9 := hn_b9.blk
  replace hE := hE.byExt he_b9
  replace k_b1 := k_b1.byExt he_b9
  replace hA := hA.byExt he_b9
  replace hM := hM.byExt he_b9
  replace k_b3 := k_b3.byExt he_b9
  replace k_b2 := k_b2.byExt he_b9
  replace hM2 := hM2.byExt he_b9
  replace k_b5 := k_b5.byExt he_b9
  replace k_b8 := k_b8.byExt he_b9
  ((repeat ((conv => whnf); first | refine And.intro (by first | omega | assumption | exact rfl) ?_ | refine Exists.intro _ (And.intro (by assumption) ?_) | refine Exists.intro _ (Exists.intro _ (And.intro (by assumption) ?_)) | refine Exists.intro _ (And.intro (Blk.cel (by assumption) (by rfl)) ?_))); (conv => whnf))
  have hs' : In w13 s [24, 30] := (hs.mono_mid hM).in_
  have hb9 : In w13 ⟨some ⟨b9, 0, none⟩, 2, 2⟩ [24, 30] := ⟨rfl, k_b9.cells, Nat.le_refl _⟩
  refine (ints_ref hs' hb9 (by simp)).use ?_
  rintro v w14 ⟨rfl, he14⟩
  have hz_he14 := (he14).size
  replace hE := hE.byExt he14
  replace k_b1 := k_b1.byExt he14
  replace hA := hA.byExt he14
  replace hM := hM.byExt he14
  replace k_b3 := k_b3.byExt he14
  replace k_b2 := k_b2.byExt he14
  replace hM2 := hM2.byExt he14
  replace k_b5 := k_b5.byExt he14
  replace k_b8 := k_b8.byExt he14
  replace k_b9 := k_b9.byExt he14
  have ht' : Ch w14 t [exB] := (ht.mono_mid hM2).ch
  have htl : t.len = 1 := ht'.len
  obtain ⟨hp1, x0, hx0, hxb⟩ := ht'.get (i := 0) (by simp)
  have hxl : x0.len = 30 := hxb.len
  have hE' := hE
  ((repeat ((conv => whnf); first | refine And.intro (by first | omega | assumption | exact rfl) ?_ | refine Exists.intro _ (And.intro (by assumption) ?_) | refine Exists.intro _ (Exists.intro _ (And.intro (by assumption) ?_)) | refine Exists.intro _ (And.intro (Blk.cel (by assumption) (by rfl)) ?_))); (conv => whnf))
  refine condG_dec (fun _ => ?_) (fun h => absurd (show ((t.len : Nat) : Int) = 1 by omega) h)
  ((repeat ((conv => whnf); first | refine And.intro (by first | omega | assumption | exact rfl) ?_ | refine Exists.intro _ (And.intro (by assumption) ?_) | refine Exists.intro _ (Exists.intro _ (And.intro (by assumption) ?_)) | refine Exists.intro _ (And.intro (Blk.cel (by assumption) (by rfl)) ?_))); (conv => whnf))
  refine condG_dec (fun _ => ?_) (fun h => absurd (show ((x0.len : Nat) : Int) = 30 by omega) h)
  ((repeat ((conv => whnf); first | refine And.intro (by first | omega | assumption | exact rfl) ?_ | refine Exists.intro _ (And.intro (by assumption) ?_) | refine Exists.intro _ (Exists.intro _ (And.intro (by assumption) ?_)) | refine Exists.intro _ (And.intro (Blk.cel (by assumption) (by rfl)) ?_))); (conv => whnf))

  exact hE
end Go.Proofs.Ytkmnncajfhamhaa
