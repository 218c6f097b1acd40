/-
  PiecesJoined, PiecesFrontKept.
-/
import Derived.Test.YtkmnncajfhamhaaPieP
namespace Go.Proofs.Ytkmnncajfhamhaa
open Go Go.RowKit

set_option maxRecDepth 100000 in
theorem law_joined {w : World} {x : Sl} {l : List UInt8} (hx : By w x l) (hl : l.length ≤ 1099511627776) :
    Ret Try.prog 4 [x.v].toArray w fun v w' => v = .bool true ∧ Ext w w' := by
  have hxl := hx.len
  refine cal_of_vc tabOk Try.func4 rfl (by kernel_rfl) 64 rfl (by simp) [0, 2, 3, 4, 5, 6, 8, 16, 23, 54] ?_
  have hE : Ext w w := Ext.refl w
  (conv => whnf)
  refine (example_spec w).use ?_
  rintro v w1 ⟨rfl, he1⟩
  have hz_he1 := (he1).size
  replace hE := hE.byExt he1
  (conv => whnf)
  refine (split_spec (hx.ext hE) hl).use ?_
  rintro v w2 ⟨he2, hv⟩
  have hz_he2 := (he2).size
  replace hE := hE.byExt he2
  rcases hv with ⟨hlb, rfl⟩ | ⟨hlb, s, rfl, hs⟩
  · (conv => whnf)
    intro w3 b4 hn_b4
    have hz_w3 := hn_b4.size
    have hm_b4 := hn_b4.num
    have he_b4 := hn_b4.ext
    have k_b4 := hn_b4.blk
    replace hE := hE.byExt he_b4
    ((repeat ((conv => whnf); first | refine And.intro (by first | omega | assumption | exact rfl) ?_ | refine Exists.intro _ (And.intro (by assumption) ?_) | refine Exists.intro _ (Exists.intro _ (And.intro (by assumption) ?_)) | refine Exists.intro _ (And.intro (Blk.cel (by assumption) (by rfl)) ?_))); (conv => whnf))
    intro w4 hu_w4
    replace hu_w4 : Upd _ b4 _ _ _ := hu_w4
    have hz_w4 := hu_w4.size
    replace hE := hE.byUpd hu_w4 (by omega)
    replace k_b4 := hu_w4.blk k_b4.lt
    ((repeat ((conv => whnf); first | refine And.intro (by first | omega | assumption | exact rfl) ?_ | refine Exists.intro _ (And.intro (by assumption) ?_) | refine Exists.intro _ (Exists.intro _ (And.intro (by assumption) ?_)) | refine Exists.intro _ (And.intro (Blk.cel (by assumption) (by rfl)) ?_))); (conv => whnf))
    exact ⟨by simp; omega, hE⟩
  · have hM : Mid 0 w2 w2 := Mid.refl _ _
    (conv => whnf)
    intro w3 b4 hn_b4
    have hz_w3 := hn_b4.size
    have hm_b4 := hn_b4.num
    have he_b4 := hn_b4.ext
    have k_b4 := hn_b4.blk
    replace hE := hE.byExt he_b4
    replace hM := hM.byExt he_b4
    ((repeat ((conv => whnf); first | refine And.intro (by first | omega | assumption | exact rfl) ?_ | refine Exists.intro _ (And.intro (by assumption) ?_) | refine Exists.intro _ (Exists.intro _ (And.intro (by assumption) ?_)) | refine Exists.intro _ (And.intro (Blk.cel (by assumption) (by rfl)) ?_))); (conv => whnf))
    intro w4 hu_w4
    replace hu_w4 : Upd _ b4 _ _ _ := hu_w4
    have hz_w4 := hu_w4.size
    replace hE := hE.byUpd hu_w4 (by omega)
    replace hM := hM.byUpd hu_w4 (by omega)
    replace k_b4 := hu_w4.blk k_b4.lt
    ((repeat ((conv => whnf); first | refine And.intro (by first | omega | assumption | exact rfl) ?_ | refine Exists.intro _ (And.intro (by assumption) ?_) | refine Exists.intro _ (Exists.intro _ (And.intro (by assumption) ?_)) | refine Exists.intro _ (And.intro (Blk.cel (by assumption) (by rfl)) ?_))); (conv => whnf))
    have hch := (hs.mono_mid hM).ch
    have hsl := hch.len
    refine loop_inv (S := Nat × Sl) tabOk [0, 3, 4, 8, 16] (fun k => [(5, k.2.v), (6, .int .i64 k.1)]) (fun k w' => k.1 ≤ (piecesS l).length ∧ NBy w4.heap.size w' k.2 ((piecesS l).take k.1).flatten ∧ Ext w4 w') (fun k _ => (piecesS l).length - k.1) (0, ⟨none, 0, 0⟩) ?_
    (conv => whnf)
    refine ⟨(by repeat (first | exact trivial | refine ⟨rfl, ?_⟩)), ⟨by omega, ⟨Row.nil _ _ _, .inl rfl⟩, Ext.refl _⟩, ?_⟩
    rintro ⟨k, c⟩ w5 ⟨hk, hc, he5⟩
    dsimp only at hk hc
    have hz5 := he5.size
    have hpl : (piecesS l).length ≤ l.length := by simpa [piecesS] using cutS_len l l.length
    have hfl : ((piecesS l).take k).flatten.length ≤ l.length := by
      have h1 := congrArg List.length (pieces_flat l)
      rw [← List.take_append_drop k (piecesS l), List.flatten_append, List.length_append] at h1
      omega
    (conv => whnf)
    refine condG_dec (fun h4 => ?_) (fun h4 => ?_)
    · have hka : k < (piecesS l).length := by omega
      obtain ⟨hp, y, hy, hyb⟩ := (hch.ext he5).get hka
      have hyl := hyb.len
      obtain ⟨q1, q2, q3⟩ := pieces_len (l := l) (i := k) (x := (piecesS l)[k]) (by simp [hka])
      ((repeat ((conv => whnf); first | refine And.intro (by first | omega | assumption | exact rfl) ?_ | refine Exists.intro _ (And.intro (by assumption) ?_) | refine Exists.intro _ (Exists.intro _ (And.intro (by assumption) ?_)) | refine Exists.intro _ (And.intro (Blk.cel (by assumption) (by rfl)) ?_))); (conv => whnf))
      refine condG_dec (fun h => absurd h (by omega)) (fun _ => ?_)
      ((repeat ((conv => whnf); first | refine And.intro (by first | omega | assumption | exact rfl) ?_ | refine Exists.intro _ (And.intro (by assumption) ?_) | refine Exists.intro _ (Exists.intro _ (And.intro (by assumption) ?_)) | refine Exists.intro _ (And.intro (Blk.cel (by assumption) (by rfl)) ?_))); (conv => whnf))
      refine condG_dec (fun h24 => ?_) (fun h24 => ?_)
      · have hlast : ¬ k + 1 < (piecesS l).length := fun h => by have := q3 h; omega
        ((repeat ((conv => whnf); first | refine And.intro (by first | omega | assumption | exact rfl) ?_ | refine Exists.intro _ (And.intro (by assumption) ?_) | refine Exists.intro _ (Exists.intro _ (And.intro (by assumption) ?_)) | refine Exists.intro _ (And.intro (Blk.cel (by assumption) (by rfl)) ?_))); (conv => whnf))
        refine condG_dec (fun h => absurd h (by omega)) (fun _ => ?_)
        ((repeat ((conv => whnf); first | refine And.intro (by first | omega | assumption | exact rfl) ?_ | refine Exists.intro _ (And.intro (by assumption) ?_) | refine Exists.intro _ (Exists.intro _ (And.intro (by assumption) ?_)) | refine Exists.intro _ (And.intro (Blk.cel (by assumption) (by rfl)) ?_))); (conv => whnf))
        refine condG_dec (fun h => absurd h (by omega)) (fun _ => ?_)
        ((repeat ((conv => whnf); first | refine And.intro (by first | omega | assumption | exact rfl) ?_ | refine Exists.intro _ (And.intro (by assumption) ?_) | refine Exists.intro _ (Exists.intro _ (And.intro (by assumption) ?_)) | refine Exists.intro _ (And.intro (Blk.cel (by assumption) (by rfl)) ?_))); (conv => whnf))
        refine app_bytes (s := c) hc.row hyb (by omega) ?_
        intro s' w6 hr hg
        ((repeat ((conv => whnf); refine And.intro (by omega) ?_)); (conv => whnf))
        refine ⟨rfl, (by repeat (first | exact trivial | refine ⟨rfl, ?_⟩)), (k + 1, s'), (by repeat (first | exact trivial | refine ⟨rfl, ?_⟩)), ⟨by omega, ⟨?_, Fresh.grew hc.new (by omega) hg⟩, he5.trans' (hg.below (by omega) hc.new)⟩, by omega⟩
        rw [List.take_succ_eq_append_getElem hka, List.flatten_append]
        simpa using hr
      · ((repeat ((conv => whnf); first | refine And.intro (by first | omega | assumption | exact rfl) ?_ | refine Exists.intro _ (And.intro (by assumption) ?_) | refine Exists.intro _ (Exists.intro _ (And.intro (by assumption) ?_)) | refine Exists.intro _ (And.intro (Blk.cel (by assumption) (by rfl)) ?_))); (conv => whnf))
        refine condG_dec (fun h => absurd h (by omega)) (fun _ => ?_)
        ((repeat ((conv => whnf); first | refine And.intro (by first | omega | assumption | exact rfl) ?_ | refine Exists.intro _ (And.intro (by assumption) ?_) | refine Exists.intro _ (Exists.intro _ (And.intro (by assumption) ?_)) | refine Exists.intro _ (And.intro (Blk.cel (by assumption) (by rfl)) ?_))); (conv => whnf))
        refine app_bytes (s := c) hc.row hyb (by omega) ?_
        intro s' w6 hr hg
        ((repeat ((conv => whnf); refine And.intro (by omega) ?_)); (conv => whnf))
        refine ⟨rfl, (by repeat (first | exact trivial | refine ⟨rfl, ?_⟩)), (k + 1, s'), (by repeat (first | exact trivial | refine ⟨rfl, ?_⟩)), ⟨by omega, ⟨?_, Fresh.grew hc.new (by omega) hg⟩, he5.trans' (hg.below (by omega) hc.new)⟩, by omega⟩
        rw [List.take_succ_eq_append_getElem hka, List.flatten_append]
        simpa using hr
    · rw [show k = (piecesS l).length by omega, List.take_length, pieces_flat] at hc
      (conv => whnf)
      refine (bytes_ref hc.by_ (hx.ext (hE.trans he5))).use ?_
      rintro v w6 ⟨rfl, rfl⟩
      (conv => whnf)
      exact ⟨by simp, hE.trans he5⟩

set_option maxRecDepth 100000 in
theorem law_front {w : World} {xf xa xb : Sl} {f a b : List UInt8} (hf : By w xf f) (ha : By w xa a) (hb : By w xb b) (hl : f.length + a.length + b.length ≤ 1099511627776) :
    Ret Try.prog 5 [xf.v, xa.v, xb.v].toArray w fun v w' => v = .bool true ∧ Ext w w' := by
  have hfl := hf.len
  have hal := ha.len
  have hbl := hb.len
  refine cal_of_vc tabOk Try.func5 rfl (by kernel_rfl) 76 rfl (by simp) [0, 1, 2, 6, 7, 8, 9, 10, 11, 13, 45, 58, 75] ?_
  have hE : Ext w w := Ext.refl w
  (conv => whnf)
  refine (example_spec w).use ?_
  rintro v w1 ⟨rfl, he1⟩
  have hz_he1 := (he1).size
  replace hE := hE.byExt he1
  (conv => whnf)
  refine (join_ref (hf.ext hE) (ha.ext hE) (by omega)).use ?_
  rintro v w2 ⟨j, rfl, hj, he2⟩
  have hz_he2 := (he2).size
  replace hE := hE.byExt he2
  (conv => whnf)
  refine (cut_spec hj.by_ (by simp; omega)).use ?_
  rintro v w3 ⟨he3, hv⟩
  have hz_he3 := (he3).size
  replace hE := hE.byExt he3
  rcases hv with ⟨hlb, rfl⟩ | ⟨hlb, s, rfl, hs⟩
  · (conv => whnf)
    intro w4 b4 hn_b4
    have hz_w4 := hn_b4.size
    have hm_b4 := hn_b4.num
    have he_b4 := hn_b4.ext
    have k_b4 := hn_b4.blk
    replace hE := hE.byExt he_b4
    ((repeat ((conv => whnf); first | refine And.intro (by first | omega | assumption | exact rfl) ?_ | refine Exists.intro _ (And.intro (by assumption) ?_) | refine Exists.intro _ (Exists.intro _ (And.intro (by assumption) ?_)) | refine Exists.intro _ (And.intro (Blk.cel (by assumption) (by rfl)) ?_))); (conv => whnf))
    intro w5 hu_w5
    replace hu_w5 : Upd _ b4 _ _ _ := hu_w5
    have hz_w5 := hu_w5.size
    replace hE := hE.byUpd hu_w5 (by omega)
    replace k_b4 := hu_w5.blk k_b4.lt
    ((repeat ((conv => whnf); first | refine And.intro (by first | omega | assumption | exact rfl) ?_ | refine Exists.intro _ (And.intro (by assumption) ?_) | refine Exists.intro _ (Exists.intro _ (And.intro (by assumption) ?_)) | refine Exists.intro _ (And.intro (Blk.cel (by assumption) (by rfl)) ?_))); (conv => whnf))
    refine (join_ref (hf.ext hE) (hb.ext hE) (by omega)).use ?_
    rintro v w6 ⟨j2, rfl, hj2, he6⟩
    have hz_he6 := (he6).size
    replace hE := hE.byExt he6
    replace k_b4 := k_b4.byExt he6
    (conv => whnf)
    refine (cut_spec hj2.by_ (by simp; omega)).use ?_
    rintro v w7 ⟨he7, hv⟩
    have hz_he7 := (he7).size
    replace hE := hE.byExt he7
    replace k_b4 := k_b4.byExt he7
    rcases hv with ⟨hlb2, rfl⟩ | ⟨hlb2, s2, rfl, hs2⟩
    · (conv => whnf)
      intro w8 b5 hn_b5
      have hz_w8 := hn_b5.size
      have hm_b5 := hn_b5.num
      have he_b5 := hn_b5.ext
      have k_b5 := hn_b5.blk
      replace hE := hE.byExt he_b5
      replace k_b4 := k_b4.byExt he_b5
      ((repeat ((conv => whnf); first | refine And.intro (by first | omega | assumption | exact rfl) ?_ | refine Exists.intro _ (And.intro (by assumption) ?_) | refine Exists.intro _ (Exists.intro _ (And.intro (by assumption) ?_)) | refine Exists.intro _ (And.intro (Blk.cel (by assumption) (by rfl)) ?_))); (conv => whnf))
      intro w9 hu_w9
      replace hu_w9 : Upd _ b5 _ _ _ := hu_w9
      have hz_w9 := hu_w9.size
      replace hE := hE.byUpd hu_w9 (by omega)
      replace k_b4 := k_b4.byUpd hu_w9 (by omega)
      replace k_b5 := hu_w9.blk k_b5.lt
      ((repeat ((conv => whnf); first | refine And.intro (by first | omega | assumption | exact rfl) ?_ | refine Exists.intro _ (And.intro (by assumption) ?_) | refine Exists.intro _ (Exists.intro _ (And.intro (by assumption) ?_)) | refine Exists.intro _ (And.intro (Blk.cel (by assumption) (by rfl)) ?_))); (conv => whnf))
      exact hE
    · (conv => whnf)
      intro w8 b5 hn_b5
      have hz_w8 := hn_b5.size
      have hm_b5 := hn_b5.num
      have he_b5 := hn_b5.ext
      have k_b5 := hn_b5.blk
      replace hE := hE.byExt he_b5
      replace k_b4 := k_b4.byExt he_b5
      ((repeat ((conv => whnf); first | refine And.intro (by first | omega | assumption | exact rfl) ?_ | refine Exists.intro _ (And.intro (by assumption) ?_) | refine Exists.intro _ (Exists.intro _ (And.intro (by assumption) ?_)) | refine Exists.intro _ (And.intro (Blk.cel (by assumption) (by rfl)) ?_))); (conv => whnf))
      intro w9 hu_w9
      replace hu_w9 : Upd _ b5 _ _ _ := hu_w9
      have hz_w9 := hu_w9.size
      replace hE := hE.byUpd hu_w9 (by omega)
      replace k_b4 := k_b4.byUpd hu_w9 (by omega)
      replace k_b5 := hu_w9.blk k_b5.lt
      ((repeat ((conv => whnf); first | refine And.intro (by first | omega | assumption | exact rfl) ?_ | refine Exists.intro _ (And.intro (by assumption) ?_) | refine Exists.intro _ (Exists.intro _ (And.intro (by assumption) ?_)) | refine Exists.intro _ (And.intro (Blk.cel (by assumption) (by rfl)) ?_))); (conv => whnf))
      exact hE
  have hM : Mid 0 w3 w3 := Mid.refl _ _
  (conv => whnf)
  intro w4 b4 hn_b4
  have hz_w4 := hn_b4.size
  have hm_b4 := hn_b4.num
  have he_b4 := hn_b4.ext
  have k_b4 := hn_b4.blk
  replace hE := hE.byExt he_b4
  replace hM := hM.byExt he_b4
  ((repeat ((conv => whnf); first | refine And.intro (by first | omega | assumption | exact rfl) ?_ | refine Exists.intro _ (And.intro (by assumption) ?_) | refine Exists.intro _ (Exists.intro _ (And.intro (by assumption) ?_)) | refine Exists.intro _ (And.intro (Blk.cel (by assumption) (by rfl)) ?_))); (conv => whnf))
  intro w5 hu_w5
  replace hu_w5 : Upd _ b4 _ _ _ := hu_w5
  have hz_w5 := hu_w5.size
  replace hE := hE.byUpd hu_w5 (by omega)
  replace hM := hM.byUpd hu_w5 (by omega)
  replace k_b4 := hu_w5.blk k_b4.lt
  ((repeat ((conv => whnf); first | refine And.intro (by first | omega | assumption | exact rfl) ?_ | refine Exists.intro _ (And.intro (by assumption) ?_) | refine Exists.intro _ (Exists.intro _ (And.intro (by assumption) ?_)) | refine Exists.intro _ (And.intro (Blk.cel (by assumption) (by rfl)) ?_))); (conv => whnf))
  refine (join_ref (hf.ext hE) (hb.ext hE) (by omega)).use ?_
  rintro v w6 ⟨j2, rfl, hj2, he6⟩
  have hz_he6 := (he6).size
  replace hE := hE.byExt he6
  replace hM := hM.byExt he6
  replace k_b4 := k_b4.byExt he6
  (conv => whnf)
  refine (cut_spec hj2.by_ (by simp; omega)).use ?_
  rintro v w7 ⟨he7, hv⟩
  have hz_he7 := (he7).size
  replace hE := hE.byExt he7
  replace hM := hM.byExt he7
  replace k_b4 := k_b4.byExt he7
  rcases hv with ⟨hlb2, rfl⟩ | ⟨hlb2, s2, rfl, hs2⟩
  · (conv => whnf)
    intro w8 b5 hn_b5
    have hz_w8 := hn_b5.size
    have hm_b5 := hn_b5.num
    have he_b5 := hn_b5.ext
    have k_b5 := hn_b5.blk
    replace hE := hE.byExt he_b5
    replace hM := hM.byExt he_b5
    replace k_b4 := k_b4.byExt he_b5
    ((repeat ((conv => whnf); first | refine And.intro (by first | omega | assumption | exact rfl) ?_ | refine Exists.intro _ (And.intro (by assumption) ?_) | refine Exists.intro _ (Exists.intro _ (And.intro (by assumption) ?_)) | refine Exists.intro _ (And.intro (Blk.cel (by assumption) (by rfl)) ?_))); (conv => whnf))
    intro w9 hu_w9
    replace hu_w9 : Upd _ b5 _ _ _ := hu_w9
    have hz_w9 := hu_w9.size
    replace hE := hE.byUpd hu_w9 (by omega)
    replace hM := hM.byUpd hu_w9 (by omega)
    replace k_b4 := k_b4.byUpd hu_w9 (by omega)
    replace k_b5 := hu_w9.blk k_b5.lt
    ((repeat ((conv => whnf); first | refine And.intro (by first | omega | assumption | exact rfl) ?_ | refine Exists.intro _ (And.intro (by assumption) ?_) | refine Exists.intro _ (Exists.intro _ (And.intro (by assumption) ?_)) | refine Exists.intro _ (And.intro (Blk.cel (by assumption) (by rfl)) ?_))); (conv => whnf))
    exact hE
  have hM2 : Mid 0 w7 w7 := Mid.refl _ _
  (conv => whnf)
  intro w8 b5 hn_b5
  have hz_w8 := hn_b5.size
  have hm_b5 := hn_b5.num
  have he_b5 := hn_b5.ext
  have k_b5 := hn_b5.blk
  replace hE := hE.byExt he_b5
  replace hM := hM.byExt he_b5
  replace k_b4 := k_b4.byExt he_b5
  replace hM2 := hM2.byExt he_b5
  ((repeat ((conv => whnf); first | refine And.intro (by first | omega | assumption | exact rfl) ?_ | refine Exists.intro _ (And.intro (by assumption) ?_) | refine Exists.intro _ (Exists.intro _ (And.intro (by assumption) ?_)) | refine Exists.intro _ (And.intro (Blk.cel (by assumption) (by rfl)) ?_))); (conv => whnf))
  intro w9 hu_w9
  replace hu_w9 : Upd _ b5 _ _ _ := hu_w9
  have hz_w9 := hu_w9.size
  replace hE := hE.byUpd hu_w9 (by omega)
  replace hM := hM.byUpd hu_w9 (by omega)
  replace k_b4 := k_b4.byUpd hu_w9 (by omega)
  replace hM2 := hM2.byUpd hu_w9 (by omega)
  replace k_b5 := hu_w9.blk k_b5.lt
  ((repeat ((conv => whnf); first | refine And.intro (by first | omega | assumption | exact rfl) ?_ | refine Exists.intro _ (And.intro (by assumption) ?_) | refine Exists.intro _ (Exists.intro _ (And.intro (by assumption) ?_)) | refine Exists.intro _ (And.intro (Blk.cel (by assumption) (by rfl)) ?_))); (conv => whnf))
  refine condG_dec (fun h0 => ?_) (fun h0 => ?_)
  · ((repeat ((conv => whnf); first | refine And.intro (by first | omega | assumption | exact rfl) ?_ | refine Exists.intro _ (And.intro (by assumption) ?_) | refine Exists.intro _ (Exists.intro _ (And.intro (by assumption) ?_)) | refine Exists.intro _ (And.intro (Blk.cel (by assumption) (by rfl)) ?_))); (conv => whnf))
    exact hE
  ((repeat ((conv => whnf); first | refine And.intro (by first | omega | assumption | exact rfl) ?_ | refine Exists.intro _ (And.intro (by assumption) ?_) | refine Exists.intro _ (Exists.intro _ (And.intro (by assumption) ?_)) | refine Exists.intro _ (And.intro (Blk.cel (by assumption) (by rfl)) ?_))); (conv => whnf))
  refine condG_dec (fun h0 => ?_) (fun h0' => ?_)
  · ((repeat ((conv => whnf); first | refine And.intro (by first | omega | assumption | exact rfl) ?_ | refine Exists.intro _ (And.intro (by assumption) ?_) | refine Exists.intro _ (Exists.intro _ (And.intro (by assumption) ?_)) | refine Exists.intro _ (And.intro (Blk.cel (by assumption) (by rfl)) ?_))); (conv => whnf))
    exact hE
  have hi1 := (hs.mono_mid hM).in_
  have hi2 := (hs2.mono_mid hM2).in_
  have hl1 := hi1.len
  have hl2 := hi2.len
  have hE1 : (endsS (f ++ a) (f ++ a).length).length ≤ f.length + a.length := Nat.le_trans (endsS_len _ _) (by simp)
  have hne : a ≠ [] := by intro e; subst e; simp at hal; omega
  have hne' : b ≠ [] := by intro e; subst e; simp at hbl; omega
  ((repeat ((conv => whnf); first | refine And.intro (by first | omega | assumption | exact rfl) ?_ | refine Exists.intro _ (And.intro (by assumption) ?_) | refine Exists.intro _ (Exists.intro _ (And.intro (by assumption) ?_)) | refine Exists.intro _ (And.intro (Blk.cel (by assumption) (by rfl)) ?_))); (conv => whnf))
  refine loop_inv (S := Nat) tabOk [0, 1, 2, 7, 8, 9, 10, 13, 45] (fun k => [(11, .int .i64 k)]) (fun k w' => k ≤ (endsS (f ++ a) (f ++ a).length).length ∧ Ext w9 w') (fun k _ => (endsS (f ++ a) (f ++ a).length).length - k) 0 ?_
  (conv => whnf)
  refine ⟨(by repeat (first | exact trivial | refine ⟨rfl, ?_⟩)), ⟨by omega, Ext.refl _⟩, ?_⟩
  rintro k w10 ⟨hk, he10⟩
  (conv => whnf)
  refine condG_dec (fun h4 => ?_) (fun h4 => ?_)
  · have hka : k < (endsS (f ++ a) (f ++ a).length).length := by omega
    have hc := (hi1.ext he10).cell hka
    have hp := hi1.plain hka
    ((repeat ((conv => whnf); first | refine And.intro (by first | omega | assumption | exact rfl) ?_ | refine Exists.intro _ (And.intro (by assumption) ?_) | refine Exists.intro _ (Exists.intro _ (And.intro (by assumption) ?_)) | refine Exists.intro _ (And.intro (Blk.cel (by assumption) (by rfl)) ?_))); (conv => whnf))
    refine condG_dec (fun h5 => ?_) (fun h5 => ?_)
    · have hm := ends_front hne hne' (i := k) (e := (endsS (f ++ a) (f ++ a).length)[k]) (List.getElem?_eq_getElem hka) (by omega)
      have hkb : k < (endsS (f ++ b) (f ++ b).length).length := (List.getElem?_eq_some_iff.1 hm).1
      have hv : (endsS (f ++ b) (f ++ b).length)[k] = (endsS (f ++ a) (f ++ a).length)[k] := (List.getElem?_eq_some_iff.1 hm).2
      (conv => whnf)
      refine draw_vc tabOk mixed [] [0, 1, 2, 3, 4, 5, 6, 7, 8, 9, 10, 11, 12, 13, 14] (by kernel_rfl) ?_
      intro w11 hd
      have hc := (hi1.ext (he10.trans hd.ext)).cell hka
      have hc2 := (hi2.ext (he10.trans hd.ext)).cell hkb
      have hp2 := hi2.plain hkb
      ((repeat ((conv => whnf); first | refine And.intro (by first | omega | assumption | exact rfl) ?_ | refine Exists.intro _ (And.intro (by assumption) ?_) | refine Exists.intro _ (Exists.intro _ (And.intro (by assumption) ?_)) | refine Exists.intro _ (And.intro (Blk.cel (by assumption) (by rfl)) ?_))); (conv => whnf))
      refine condG_dec (fun h => absurd h (by omega)) (fun _ => ?_)
      ((repeat ((conv => whnf); first | refine And.intro (by first | omega | assumption | exact rfl) ?_ | refine Exists.intro _ (And.intro (by assumption) ?_) | refine Exists.intro _ (Exists.intro _ (And.intro (by assumption) ?_)) | refine Exists.intro _ (And.intro (Blk.cel (by assumption) (by rfl)) ?_))); (conv => whnf))
      refine condG_dec (fun h => absurd hv h) (fun _ => ?_)
      ((repeat ((conv => whnf); refine And.intro (by omega) ?_)); (conv => whnf))
      refine ⟨rfl, (by repeat (first | exact trivial | refine ⟨rfl, ?_⟩)), k + 1, (by repeat (first | exact trivial | refine ⟨rfl, ?_⟩)), ⟨by omega, he10.trans hd.ext⟩, by omega⟩
    · ((repeat ((conv => whnf); first | refine And.intro (by first | omega | assumption | exact rfl) ?_ | refine Exists.intro _ (And.intro (by assumption) ?_) | refine Exists.intro _ (Exists.intro _ (And.intro (by assumption) ?_)) | refine Exists.intro _ (And.intro (Blk.cel (by assumption) (by rfl)) ?_))); (conv => whnf))
      exact hE.trans he10
  · ((repeat ((conv => whnf); first | refine And.intro (by first | omega | assumption | exact rfl) ?_ | refine Exists.intro _ (And.intro (by assumption) ?_) | refine Exists.intro _ (Exists.intro _ (And.intro (by assumption) ?_)) | refine Exists.intro _ (And.intro (Blk.cel (by assumption) (by rfl)) ?_))); (conv => whnf))
    exact hE.trans he10
end Go.Proofs.Ytkmnncajfhamhaa
