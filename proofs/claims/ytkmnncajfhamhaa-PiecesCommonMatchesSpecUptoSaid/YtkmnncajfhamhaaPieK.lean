/-
  PiecesCommonMatchesSpec.
-/
import Derived.Test.YtkmnncajfhamhaaPieP
import Derived.Test.YtkmnncajfhamhaaVcR
namespace Go.Proofs.Ytkmnncajfhamhaa
open Go Go.RowKit

set_option maxRecDepth 100000 in
theorem law_common {w : World} {xa xb : Sl} {a b : List UInt8} (ha : By w xa a) (hb : By w xb b) (hl : a.length + b.length ≤ 1099511627776) :
    Ret Try.prog 7 [xa.v, xb.v].toArray w fun v w' => v = .bool true ∧ Ext w w' := by
  have hal := ha.len
  have hbl := hb.len
  refine cal_of_vc tabOk Try.func7 rfl (by kernel_rfl) 124 rfl (by simp) [0, 1, 4, 5, 6, 7, 8, 9, 10, 11, 13, 23, 37, 73, 108] ?_
  have hE : Ext w w := Ext.refl w
  (conv => whnf)
  refine (example_spec w).use ?_
  rintro v w1 ⟨rfl, he1⟩
  have hz_he1 := (he1).size
  replace hE := hE.byExt he1
  (conv => whnf)
  refine (common_spec (ha.ext hE) (hb.ext hE) (by omega) (by omega)).use ?_
  rintro v w2 ⟨he2, hv⟩
  have hz_he2 := (he2).size
  replace hE := hE.byExt he2
  rcases hv with ⟨hla, rfl⟩ | ⟨hla, hlb, rfl⟩ | ⟨hla, hlb, p, q, rfl, hp, hq⟩
  · (conv => whnf)
    intro w3 b4 hn_b4
    have hz_w3 := hn_b4.size
    have hm_b4 := hn_b4.num
    have he_b4 := hn_b4.ext
    have k_b4 := hn_b4.blk
    replace hE := hE.byExt he_b4
    ((repeat ((conv => whnf); first | refine And.intro (by first | omega | assumption | exact rfl) ?_ | refine Exists.intro _ (And.intro (by assumption) ?_) | refine Exists.intro _ (Exists.intro _ (And.intro (by assumption) ?_)) | refine Exists.intro _ (And.intro (Blk.cel (by assumption) (by rfl)) ?_))); (conv => whnf))
    intro w4 hu_w4
    replace hu_w4 : Upd _ b4 _ _ _ := hu_w4
    have hz_w4 := hu_w4.size
    replace hE := hE.byUpd hu_w4 (by omega)
    replace k_b4 := hu_w4.blk k_b4.lt
    ((repeat ((conv => whnf); first | refine And.intro (by first | omega | assumption | exact rfl) ?_ | refine Exists.intro _ (And.intro (by assumption) ?_) | refine Exists.intro _ (Exists.intro _ (And.intro (by assumption) ?_)) | refine Exists.intro _ (And.intro (Blk.cel (by assumption) (by rfl)) ?_))); (conv => whnf))
    refine condG_dec (fun _ => ?_) (fun h => absurd (show (2048 : Int) < ((xa.len : Nat) : Int) by omega) h)
    (conv => whnf)
    refine draw_vc tabOk mixed [1] [0, 1, 2, 3, 4, 5, 6, 7, 8, 9, 10, 11] (by kernel_rfl) ?_
    intro w5 hd_w5
    have he_w5 := hd_w5.ext
    have hz_w5 := he_w5.size
    replace hE := hE.byExt he_w5
    replace k_b4 := k_b4.byExt he_w5
    ((repeat ((conv => whnf); first | refine And.intro (by first | omega | assumption | exact rfl) ?_ | refine Exists.intro _ (And.intro (by assumption) ?_) | refine Exists.intro _ (Exists.intro _ (And.intro (by assumption) ?_)) | refine Exists.intro _ (And.intro (Blk.cel (by assumption) (by rfl)) ?_))); (conv => whnf))
    refine (at_ref 3 (-1) _).use ?_
    rintro v w6 ⟨rfl, he6⟩
    have hz_he6 := (he6).size
    replace hE := hE.byExt he6
    replace k_b4 := k_b4.byExt he6
    ((repeat ((conv => whnf); first | refine And.intro (by first | omega | assumption | exact rfl) ?_ | refine Exists.intro _ (And.intro (by assumption) ?_) | refine Exists.intro _ (Exists.intro _ (And.intro (by assumption) ?_)) | refine Exists.intro _ (And.intro (Blk.cel (by assumption) (by rfl)) ?_))); (conv => whnf))
    exact hE
  · (conv => whnf)
    intro w3 b4 hn_b4
    have hz_w3 := hn_b4.size
    have hm_b4 := hn_b4.num
    have he_b4 := hn_b4.ext
    have k_b4 := hn_b4.blk
    replace hE := hE.byExt he_b4
    ((repeat ((conv => whnf); first | refine And.intro (by first | omega | assumption | exact rfl) ?_ | refine Exists.intro _ (And.intro (by assumption) ?_) | refine Exists.intro _ (Exists.intro _ (And.intro (by assumption) ?_)) | refine Exists.intro _ (And.intro (Blk.cel (by assumption) (by rfl)) ?_))); (conv => whnf))
    intro w4 hu_w4
    replace hu_w4 : Upd _ b4 _ _ _ := hu_w4
    have hz_w4 := hu_w4.size
    replace hE := hE.byUpd hu_w4 (by omega)
    replace k_b4 := hu_w4.blk k_b4.lt
    ((repeat ((conv => whnf); first | refine And.intro (by first | omega | assumption | exact rfl) ?_ | refine Exists.intro _ (And.intro (by assumption) ?_) | refine Exists.intro _ (Exists.intro _ (And.intro (by assumption) ?_)) | refine Exists.intro _ (And.intro (Blk.cel (by assumption) (by rfl)) ?_))); (conv => whnf))
    refine condG_dec (fun h => absurd h (by omega)) (fun _ => ?_)
    ((repeat ((conv => whnf); first | refine And.intro (by first | omega | assumption | exact rfl) ?_ | refine Exists.intro _ (And.intro (by assumption) ?_) | refine Exists.intro _ (Exists.intro _ (And.intro (by assumption) ?_)) | refine Exists.intro _ (And.intro (Blk.cel (by assumption) (by rfl)) ?_))); (conv => whnf))
    refine condG_dec (fun _ => ?_) (fun h => absurd (show (2048 : Int) < ((xb.len : Nat) : Int) by omega) h)
    (conv => whnf)
    refine draw_vc tabOk mixed [1] [0, 1, 2, 3, 4, 5, 6, 7, 8, 9, 10, 11] (by kernel_rfl) ?_
    intro w5 hd_w5
    have he_w5 := hd_w5.ext
    have hz_w5 := he_w5.size
    replace hE := hE.byExt he_w5
    replace k_b4 := k_b4.byExt he_w5
    ((repeat ((conv => whnf); first | refine And.intro (by first | omega | assumption | exact rfl) ?_ | refine Exists.intro _ (And.intro (by assumption) ?_) | refine Exists.intro _ (Exists.intro _ (And.intro (by assumption) ?_)) | refine Exists.intro _ (And.intro (Blk.cel (by assumption) (by rfl)) ?_))); (conv => whnf))
    refine (at_ref 3 (-2) _).use ?_
    rintro v w6 ⟨rfl, he6⟩
    have hz_he6 := (he6).size
    replace hE := hE.byExt he6
    replace k_b4 := k_b4.byExt he6
    ((repeat ((conv => whnf); first | refine And.intro (by first | omega | assumption | exact rfl) ?_ | refine Exists.intro _ (And.intro (by assumption) ?_) | refine Exists.intro _ (Exists.intro _ (And.intro (by assumption) ?_)) | refine Exists.intro _ (And.intro (Blk.cel (by assumption) (by rfl)) ?_))); (conv => whnf))
    exact hE
  (conv => whnf)
  intro w3 b4 hn_b4
  have hz_w3 := hn_b4.size
  have hm_b4 := hn_b4.num
  have he_b4 := hn_b4.ext
  have k_b4 := hn_b4.blk
  replace hE := hE.byExt he_b4
  ((repeat ((conv => whnf); first | refine And.intro (by first | omega | assumption | exact rfl) ?_ | refine Exists.intro _ (And.intro (by assumption) ?_) | refine Exists.intro _ (Exists.intro _ (And.intro (by assumption) ?_)) | refine Exists.intro _ (And.intro (Blk.cel (by assumption) (by rfl)) ?_))); (conv => whnf))
  intro w4 hu_w4
  replace hu_w4 : Upd _ b4 _ _ _ := hu_w4
  have hz_w4 := hu_w4.size
  replace hE := hE.byUpd hu_w4 (by omega)
  replace k_b4 := hu_w4.blk k_b4.lt
  ((repeat ((conv => whnf); first | refine And.intro (by first | omega | assumption | exact rfl) ?_ | refine Exists.intro _ (And.intro (by assumption) ?_) | refine Exists.intro _ (Exists.intro _ (And.intro (by assumption) ?_)) | refine Exists.intro _ (And.intro (Blk.cel (by assumption) (by rfl)) ?_))); (conv => whnf))
  refine condG_dec (fun h => absurd h (by omega)) (fun _ => ?_)
  ((repeat ((conv => whnf); first | refine And.intro (by first | omega | assumption | exact rfl) ?_ | refine Exists.intro _ (And.intro (by assumption) ?_) | refine Exists.intro _ (Exists.intro _ (And.intro (by assumption) ?_)) | refine Exists.intro _ (And.intro (Blk.cel (by assumption) (by rfl)) ?_))); (conv => whnf))
  refine condG_dec (fun h => absurd h (by omega)) (fun _ => ?_)
  ((repeat ((conv => whnf); first | refine And.intro (by first | omega | assumption | exact rfl) ?_ | refine Exists.intro _ (And.intro (by assumption) ?_) | refine Exists.intro _ (Exists.intro _ (And.intro (by assumption) ?_)) | refine Exists.intro _ (And.intro (Blk.cel (by assumption) (by rfl)) ?_))); (conv => whnf))
  refine (pieces_ref (ha.ext hE) (by omega)).use ?_
  rintro v w5 ⟨s, rfl, hs, he5⟩
  have hz_he5 := (he5).size
  replace hE := hE.byExt he5
  replace k_b4 := k_b4.byExt he5
  (conv => whnf)
  refine (pieces_ref (hb.ext hE) (by omega)).use ?_
  rintro v w6 ⟨t, rfl, ht, he6⟩
  have hz_he6 := (he6).size
  replace hE := hE.byExt he6
  replace k_b4 := k_b4.byExt he6
  have hA := (hs.ext he6).ch
  have hB := ht.ch
  have hAl := hA.len
  have hBl := hB.len
  have hpa : (piecesS a).length ≤ a.length := by simpa [piecesS] using cutS_len a a.length
  have hpb : (piecesS b).length ≤ b.length := by simpa [piecesS] using cutS_len b b.length
  (conv => whnf)
  refine SemC.cut 0 (fun k : Nat => [(0, xa.v), (1, xb.v), (4, .bool false), (5, iv p), (6, iv q), (7, .pointer (some ⟨b4, 0, none⟩)), (8, s.v), (9, t.v), (10, .int .i64 k)]) (fun k w' => Run (min (piecesS a).length (piecesS b).length) (fun j => (piecesS a)[j]? = (piecesS b)[j]?) k ∧ Ext w6 w') ?_ ?_
  · refine loop_inv (S := Nat) tabOk [0, 1, 4, 5, 6, 7, 8, 9, 11, 13, 23, 37, 108] (fun k => [(10, .int .i64 k)]) (fun k w' => k ≤ min (piecesS a).length (piecesS b).length ∧ (∀ j, j < k → (piecesS a)[j]? = (piecesS b)[j]?) ∧ Ext w6 w') (fun k _ => (piecesS a).length - k) 0 ?_
    (conv => whnf)
    refine ⟨(by repeat (first | exact trivial | refine ⟨rfl, ?_⟩)), ⟨by omega, by omega, Ext.refl _⟩, ?_⟩
    rintro k w7 ⟨hk, hj, he7⟩
    (conv => whnf)
    refine draw_vc tabOk mixed [] [0, 1, 2, 3, 4, 5, 6, 7, 8, 9, 10, 11, 12, 13, 14, 15, 16, 17, 18, 19, 20] (by kernel_rfl) ?_
    intro w8 hd
    replace he7 := he7.trans hd.ext
    (conv => whnf)
    refine condG_dec (fun h1 => ?_) (fun h1 => ?_)
    rotate_left
    · (conv => whnf)
      exact ⟨rfl, k, (by repeat (first | exact trivial | refine ⟨rfl, ?_⟩)), ⟨by omega, hj, fun h => by omega⟩, he7⟩
    (conv => whnf)
    refine condG_dec (fun h2 => ?_) (fun h2 => ?_)
    rotate_left
    · (conv => whnf)
      exact ⟨rfl, k, (by repeat (first | exact trivial | refine ⟨rfl, ?_⟩)), ⟨by omega, hj, fun h => by omega⟩, he7⟩
    have hka : k < (piecesS a).length := by omega
    have hkb : k < (piecesS b).length := by omega
    obtain ⟨p1, y, hy, hyb⟩ := (hA.ext he7).get hka
    obtain ⟨p2, z, hz, hzb⟩ := (hB.ext he7).get hkb
    ((repeat ((conv => whnf); first | refine And.intro (by first | omega | assumption | exact rfl) ?_ | refine Exists.intro _ (And.intro (by assumption) ?_) | refine Exists.intro _ (Exists.intro _ (And.intro (by assumption) ?_)) | refine Exists.intro _ (And.intro (Blk.cel (by assumption) (by rfl)) ?_))); (conv => whnf))
    refine (bytes_ref hyb hzb).use ?_
    rintro v w9 ⟨rfl, rfl⟩
    (conv => whnf)
    refine condG_dec (fun h3 => ?_) (fun h3 => ?_)
    · ((repeat ((conv => whnf); refine And.intro (by omega) ?_)); (conv => whnf))
      refine ⟨rfl, (by repeat (first | exact trivial | refine ⟨rfl, ?_⟩)), k + 1, (by repeat (first | exact trivial | refine ⟨rfl, ?_⟩)), ⟨by omega, ?_, he7⟩, by omega⟩
      intro j hjk
      by_cases e : j = k
      · subst e
        simp only [hka, hkb, List.getElem?_eq_getElem]
        exact congrArg some h3
      · exact hj j (by omega)
    · (conv => whnf)
      refine ⟨rfl, k, (by repeat (first | exact trivial | refine ⟨rfl, ?_⟩)), ⟨by omega, hj, fun _ => ?_⟩, he7⟩
      simp only [hka, hkb, List.getElem?_eq_getElem]
      exact fun e => h3 (Option.some.inj e)
  rintro k w7 ⟨hr, he7⟩
  have hpk := hp.unique hr
  subst hpk
  have hple := hr.le
  (conv => whnf)
  refine SemC.cut 2 (fun k : Nat => [(0, xa.v), (1, xb.v), (4, .bool false), (5, iv p), (6, iv q), (7, .pointer (some ⟨b4, 0, none⟩)), (8, s.v), (9, t.v), (10, .int .i64 p), (11, .int .i64 k)]) (fun k w' => Run (min ((piecesS a).length - p) ((piecesS b).length - p)) (fun j => (piecesS a)[(piecesS a).length - 1 - j]? = (piecesS b)[(piecesS b).length - 1 - j]?) k ∧ Ext w6 w') ?_ ?_
  · refine loop_inv (S := Nat) tabOk [0, 1, 4, 5, 6, 7, 8, 9, 10, 13, 23, 37, 73] (fun k => [(11, .int .i64 k)]) (fun k w' => k ≤ min ((piecesS a).length - p) ((piecesS b).length - p) ∧ (∀ j, j < k → (piecesS a)[(piecesS a).length - 1 - j]? = (piecesS b)[(piecesS b).length - 1 - j]?) ∧ Ext w6 w') (fun k _ => (piecesS a).length - k) 0 ?_
    (conv => whnf)
    refine ⟨(by repeat (first | exact trivial | refine ⟨rfl, ?_⟩)), ⟨by omega, by omega, he7⟩, ?_⟩
    clear he7
    rintro k w7 ⟨hk, hj, he7⟩
    (conv => whnf)
    refine draw_vc tabOk mixed [] [0, 1, 2, 3, 4, 5, 6, 7, 8, 9, 10, 11, 12, 13, 14, 15, 16, 17, 18, 19, 20, 21, 22, 23, 24, 25, 26, 27, 28, 29, 30, 31, 32] (by kernel_rfl) ?_
    intro w8 hd
    replace he7 := he7.trans hd.ext
    ((repeat ((conv => whnf); refine And.intro (by omega) ?_)); (conv => whnf))
    refine condG_dec (fun h1 => ?_) (fun h1 => ?_)
    rotate_left
    · (conv => whnf)
      exact ⟨rfl, k, (by repeat (first | exact trivial | refine ⟨rfl, ?_⟩)), ⟨by omega, hj, fun h => by omega⟩, he7⟩
    ((repeat ((conv => whnf); refine And.intro (by omega) ?_)); (conv => whnf))
    refine condG_dec (fun h2 => ?_) (fun h2 => ?_)
    rotate_left
    · (conv => whnf)
      exact ⟨rfl, k, (by repeat (first | exact trivial | refine ⟨rfl, ?_⟩)), ⟨by omega, hj, fun h => by omega⟩, he7⟩
    have hka : (piecesS a).length - 1 - k < (piecesS a).length := by omega
    have hkb : (piecesS b).length - 1 - k < (piecesS b).length := by omega
    obtain ⟨p1, y, hy, hyb⟩ := (hA.ext he7).get hka
    obtain ⟨p2, z, hz, hzb⟩ := (hB.ext he7).get hkb
    rw [show (piecesS a).length - 1 - k = ((s.len : Int) - 1 - k).toNat by omega] at hy
    rw [show (piecesS b).length - 1 - k = ((t.len : Int) - 1 - k).toNat by omega] at hz
    ((repeat ((conv => whnf); first | refine And.intro (by first | omega | assumption | exact rfl) ?_ | refine Exists.intro _ (And.intro (by assumption) ?_) | refine Exists.intro _ (Exists.intro _ (And.intro (by assumption) ?_)) | refine Exists.intro _ (And.intro (Blk.cel (by assumption) (by rfl)) ?_))); (conv => whnf))
    refine (bytes_ref hyb hzb).use ?_
    rintro v w9 ⟨rfl, rfl⟩
    (conv => whnf)
    refine condG_dec (fun h3 => ?_) (fun h3 => ?_)
    · ((repeat ((conv => whnf); refine And.intro (by omega) ?_)); (conv => whnf))
      refine ⟨rfl, (by repeat (first | exact trivial | refine ⟨rfl, ?_⟩)), k + 1, (by repeat (first | exact trivial | refine ⟨rfl, ?_⟩)), ⟨by omega, ?_, he7⟩, by omega⟩
      intro j hjk
      by_cases e : j = k
      · subst e
        simp only [hka, hkb, List.getElem?_eq_getElem]
        exact congrArg some h3
      · exact hj j (by omega)
    · (conv => whnf)
      refine ⟨rfl, k, (by repeat (first | exact trivial | refine ⟨rfl, ?_⟩)), ⟨by omega, hj, fun _ => ?_⟩, he7⟩
      simp only [hka, hkb, List.getElem?_eq_getElem]
      exact fun e => h3 (Option.some.inj e)
  rintro k w8 ⟨hr2, he8⟩
  have hqk := hq.unique hr2
  subst hqk
  replace hE := hE.trans he8
  replace k_b4 := k_b4.ext he8
  ((repeat ((conv => whnf); first | refine And.intro (by first | omega | assumption | exact rfl) ?_ | refine Exists.intro _ (And.intro (by assumption) ?_) | refine Exists.intro _ (Exists.intro _ (And.intro (by assumption) ?_)) | refine Exists.intro _ (And.intro (Blk.cel (by assumption) (by rfl)) ?_))); (conv => whnf))
  refine condG_dec (fun _ => ?_) (fun h => absurd rfl h)
  ((repeat ((conv => whnf); first | refine And.intro (by first | omega | assumption | exact rfl) ?_ | refine Exists.intro _ (And.intro (by assumption) ?_) | refine Exists.intro _ (Exists.intro _ (And.intro (by assumption) ?_)) | refine Exists.intro _ (And.intro (Blk.cel (by assumption) (by rfl)) ?_))); (conv => whnf))
  exact ⟨by simp, hE⟩
end Go.Proofs.Ytkmnncajfhamhaa
