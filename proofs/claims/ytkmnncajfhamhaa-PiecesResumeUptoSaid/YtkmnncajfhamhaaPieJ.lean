/-
  PiecesResume.
-/
import Derived.Test.YtkmnncajfhamhaaPieP
import Derived.Test.YtkmnncajfhamhaaVcR
namespace Go.Proofs.Ytkmnncajfhamhaa
open Go Go.RowKit

/-- a place where both contents end a piece -/
def Both (E F : List Int) (A B p : Int) : Prop := 0 ≤ p ∧ A + p ∈ E ∧ B + p ∈ F
theorem tailE_take {E : List Int} {A p : Int} {k : Nat} (hk : k < E.length) : tailE (E.take (k + 1)) A p = tailE (E.take k) A p ++ (if p ≤ E[k] - A then [E[k] - A] else []) := by
  rw [List.take_succ_eq_append_getElem hk, tailE_append]
  congr 1
  simp only [tailE, List.filter_cons, List.filter_nil]
  by_cases h : p ≤ E[k] - A <;> simp [h]
theorem tailE_len (E : List Int) (A p : Int) : (tailE E A p).length ≤ E.length := by
  simp only [tailE, List.length_map]
  exact List.length_filter_le _ _

set_option maxRecDepth 100000 in
theorem law_resume {w : World} {xa xb xt : Sl} {a b t : List UInt8} (ha : By w xa a) (hb : By w xb b) (ht : By w xt t) (hl : a.length + b.length + t.length ≤ 1099511627776) :
    Ret Try.prog 6 [xa.v, xb.v, xt.v].toArray w fun v w' => v = .bool true ∧ Ext w w' := by
  have hal := ha.len
  have hbl := hb.len
  have htl := ht.len
  refine cal_of_vc tabOk Try.func6 rfl (by kernel_rfl) 169 rfl (by simp) [0, 1, 2, 6, 7, 8, 9, 10, 11, 12, 13, 14, 15, 16, 17, 18, 19, 21, 48, 52, 58, 88, 97, 104, 115, 129, 140] ?_
  have hE : Ext w w := Ext.refl w
  (conv => whnf)
  refine (example_spec w).use ?_
  rintro v w1 ⟨rfl, he1⟩
  have hz_he1 := (he1).size
  replace hE := hE.byExt he1
  (conv => whnf)
  refine (join_ref (ha.ext hE) (ht.ext hE) (by omega)).use ?_
  rintro v w2 ⟨j, rfl, hj, he2⟩
  have hz_he2 := (he2).size
  replace hE := hE.byExt he2
  (conv => whnf)
  refine (cut_spec hj.by_ (by simp; omega)).use ?_
  rintro v w3 ⟨he3, hv⟩
  have hz_he3 := (he3).size
  replace hE := hE.byExt he3
  obtain ⟨v3, f3, rfl, hv3⟩ : ∃ (s : Sl) (c : Int), v = .tuple #[s.v, faultV c (if c = 0 then 0 else -1)] ∧ ((c ≠ 0 ∧ 2048 < (a ++ t).length) ∨ (c = 0 ∧ (a ++ t).length ≤ 2048 ∧ NIn w2.heap.size w3 s (endsS (a ++ t) (a ++ t).length))) := by
    rcases hv with ⟨h, rfl⟩ | ⟨h, s, rfl, hs⟩
    · exact ⟨⟨none, 0, 0⟩, 3, rfl, .inl ⟨by decide, h⟩⟩
    · exact ⟨s, 0, rfl, .inr ⟨rfl, h, hs⟩⟩
  have hM : Mid 0 w3 w3 := Mid.refl _ _
  (conv => whnf)
  intro w4 b4 hn_b4
  have hz_w4 := hn_b4.size
  have hm_b4 := hn_b4.num
  have he_b4 := hn_b4.ext
  have k_b4 := hn_b4.blk
  replace hE := hE.byExt he_b4
  replace hM := hM.byExt he_b4
  ((repeat ((conv => whnf); first | refine And.intro (by first | omega | assumption | exact rfl) ?_ | refine Exists.intro _ (And.intro (by assumption) ?_) | refine Exists.intro _ (Exists.intro _ (And.intro (by assumption) ?_)) | refine Exists.intro _ (And.intro (Blk.cel (by assumption) (by rfl)) ?_))); (conv => whnf))
  intro w5 hu_w5
  replace hu_w5 : Upd _ b4 _ _ _ := hu_w5
  have hz_w5 := hu_w5.size
  replace hE := hE.byUpd hu_w5 (by omega)
  replace hM := hM.byUpd hu_w5 (by omega)
  replace k_b4 := hu_w5.blk k_b4.lt
  ((repeat ((conv => whnf); first | refine And.intro (by first | omega | assumption | exact rfl) ?_ | refine Exists.intro _ (And.intro (by assumption) ?_) | refine Exists.intro _ (Exists.intro _ (And.intro (by assumption) ?_)) | refine Exists.intro _ (And.intro (Blk.cel (by assumption) (by rfl)) ?_))); (conv => whnf))
  refine (join_ref (hb.ext hE) (ht.ext hE) (by omega)).use ?_
  rintro v w6 ⟨j2, rfl, hj2, he6⟩
  have hz_he6 := (he6).size
  replace hE := hE.byExt he6
  replace hM := hM.byExt he6
  replace k_b4 := k_b4.byExt he6
  (conv => whnf)
  refine (cut_spec hj2.by_ (by simp; omega)).use ?_
  rintro v w7 ⟨he7, hv⟩
  have hz_he7 := (he7).size
  replace hE := hE.byExt he7
  replace hM := hM.byExt he7
  replace k_b4 := k_b4.byExt he7
  obtain ⟨v7, f7, rfl, hv7⟩ : ∃ (s : Sl) (c : Int), v = .tuple #[s.v, faultV c (if c = 0 then 0 else -1)] ∧ ((c ≠ 0 ∧ 2048 < (b ++ t).length) ∨ (c = 0 ∧ (b ++ t).length ≤ 2048 ∧ NIn w6.heap.size w7 s (endsS (b ++ t) (b ++ t).length))) := by
    rcases hv with ⟨h, rfl⟩ | ⟨h, s, rfl, hs⟩
    · exact ⟨⟨none, 0, 0⟩, 3, rfl, .inl ⟨by decide, h⟩⟩
    · exact ⟨s, 0, rfl, .inr ⟨rfl, h, hs⟩⟩
  have hM2 : Mid 0 w7 w7 := Mid.refl _ _
  (conv => whnf)
  intro w8 b5 hn_b5
  have hz_w8 := hn_b5.size
  have hm_b5 := hn_b5.num
  have he_b5 := hn_b5.ext
  have k_b5 := hn_b5.blk
  replace hE := hE.byExt he_b5
  replace hM := hM.byExt he_b5
  replace k_b4 := k_b4.byExt he_b5
  replace hM2 := hM2.byExt he_b5
  ((repeat ((conv => whnf); first | refine And.intro (by first | omega | assumption | exact rfl) ?_ | refine Exists.intro _ (And.intro (by assumption) ?_) | refine Exists.intro _ (Exists.intro _ (And.intro (by assumption) ?_)) | refine Exists.intro _ (And.intro (Blk.cel (by assumption) (by rfl)) ?_))); (conv => whnf))
  intro w9 hu_w9
  replace hu_w9 : Upd _ b5 _ _ _ := hu_w9
  have hz_w9 := hu_w9.size
  replace hE := hE.byUpd hu_w9 (by omega)
  replace hM := hM.byUpd hu_w9 (by omega)
  replace k_b4 := k_b4.byUpd hu_w9 (by omega)
  replace hM2 := hM2.byUpd hu_w9 (by omega)
  replace k_b5 := hu_w9.blk k_b5.lt
  ((repeat ((conv => whnf); first | refine And.intro (by first | omega | assumption | exact rfl) ?_ | refine Exists.intro _ (And.intro (by assumption) ?_) | refine Exists.intro _ (Exists.intro _ (And.intro (by assumption) ?_)) | refine Exists.intro _ (And.intro (Blk.cel (by assumption) (by rfl)) ?_))); (conv => whnf))
  refine (cut_spec (ht.ext hE) (by omega)).use ?_
  rintro v w10 ⟨he10, hv⟩
  have hz_he10 := (he10).size
  replace hE := hE.byExt he10
  replace hM := hM.byExt he10
  replace k_b4 := k_b4.byExt he10
  replace hM2 := hM2.byExt he10
  replace k_b5 := k_b5.byExt he10
  obtain ⟨v10, f10, rfl, hv10⟩ : ∃ (s : Sl) (c : Int), v = .tuple #[s.v, faultV c (if c = 0 then 0 else -1)] ∧ ((c ≠ 0 ∧ 2048 < t.length) ∨ (c = 0 ∧ t.length ≤ 2048 ∧ NIn w9.heap.size w10 s (endsS t t.length))) := by
    rcases hv with ⟨h, rfl⟩ | ⟨h, s, rfl, hs⟩
    · exact ⟨⟨none, 0, 0⟩, 3, rfl, .inl ⟨by decide, h⟩⟩
    · exact ⟨s, 0, rfl, .inr ⟨rfl, h, hs⟩⟩
  have hM3 : Mid 0 w10 w10 := Mid.refl _ _
  (conv => whnf)
  intro w11 b6 hn_b6
  have hz_w11 := hn_b6.size
  have hm_b6 := hn_b6.num
  have he_b6 := hn_b6.ext
  have k_b6 := hn_b6.blk
  replace hE := hE.byExt he_b6
  replace hM := hM.byExt he_b6
  replace k_b4 := k_b4.byExt he_b6
  replace hM2 := hM2.byExt he_b6
  replace k_b5 := k_b5.byExt he_b6
  replace hM3 := hM3.byExt he_b6
  ((repeat ((conv => whnf); first | refine And.intro (by first | omega | assumption | exact rfl) ?_ | refine Exists.intro _ (And.intro (by assumption) ?_) | refine Exists.intro _ (Exists.intro _ (And.intro (by assumption) ?_)) | refine Exists.intro _ (And.intro (Blk.cel (by assumption) (by rfl)) ?_))); (conv => whnf))
  intro w12 hu_w12
  replace hu_w12 : Upd _ b6 _ _ _ := hu_w12
  have hz_w12 := hu_w12.size
  replace hE := hE.byUpd hu_w12 (by omega)
  replace hM := hM.byUpd hu_w12 (by omega)
  replace k_b4 := k_b4.byUpd hu_w12 (by omega)
  replace hM2 := hM2.byUpd hu_w12 (by omega)
  replace k_b5 := k_b5.byUpd hu_w12 (by omega)
  replace hM3 := hM3.byUpd hu_w12 (by omega)
  replace k_b6 := hu_w12.blk k_b6.lt
  ((repeat ((conv => whnf); first | refine And.intro (by first | omega | assumption | exact rfl) ?_ | refine Exists.intro _ (And.intro (by assumption) ?_) | refine Exists.intro _ (Exists.intro _ (And.intro (by assumption) ?_)) | refine Exists.intro _ (And.intro (Blk.cel (by assumption) (by rfl)) ?_))); (conv => whnf))
  refine condG_dec (fun h1 => ?_) (fun h1 => ?_)
  · ((repeat ((conv => whnf); first | refine And.intro (by first | omega | assumption | exact rfl) ?_ | refine Exists.intro _ (And.intro (by assumption) ?_) | refine Exists.intro _ (Exists.intro _ (And.intro (by assumption) ?_)) | refine Exists.intro _ (And.intro (Blk.cel (by assumption) (by rfl)) ?_))); (conv => whnf))
    exact hE
  ((repeat ((conv => whnf); first | refine And.intro (by first | omega | assumption | exact rfl) ?_ | refine Exists.intro _ (And.intro (by assumption) ?_) | refine Exists.intro _ (Exists.intro _ (And.intro (by assumption) ?_)) | refine Exists.intro _ (And.intro (Blk.cel (by assumption) (by rfl)) ?_))); (conv => whnf))
  refine condG_dec (fun h2 => ?_) (fun h2 => ?_)
  · ((repeat ((conv => whnf); first | refine And.intro (by first | omega | assumption | exact rfl) ?_ | refine Exists.intro _ (And.intro (by assumption) ?_) | refine Exists.intro _ (Exists.intro _ (And.intro (by assumption) ?_)) | refine Exists.intro _ (And.intro (Blk.cel (by assumption) (by rfl)) ?_))); (conv => whnf))
    exact hE
  rcases hv3 with ⟨h, _⟩ | ⟨rfl, hl3, hs3⟩
  · exact absurd h h1
  rcases hv7 with ⟨h, _⟩ | ⟨rfl, hl7, hs7⟩
  · exact absurd h h2
  simp only [List.length_append] at hl3 hl7
  rcases hv10 with ⟨h, h'⟩ | ⟨rfl, hl10, hs10⟩
  · omega
  obtain ⟨E, hEe⟩ : ∃ E, E = endsS (a ++ t) (a ++ t).length := ⟨_, rfl⟩
  obtain ⟨F, hFe⟩ : ∃ F, F = endsS (b ++ t) (b ++ t).length := ⟨_, rfl⟩
  have hEn : E.length ≤ 2048 := by rw [hEe]; exact Nat.le_trans (endsS_len _ _) (by simp; omega)
  have hFn : F.length ≤ 2048 := by rw [hFe]; exact Nat.le_trans (endsS_len _ _) (by simp; omega)
  have hEb : ∀ e ∈ E, 1 ≤ e ∧ e ≤ 2048 := fun e he => by rw [hEe] at he; have := ends_bd he; simp only [List.length_append] at this; omega
  have hFb : ∀ e ∈ F, 1 ≤ e ∧ e ≤ 2048 := fun e he => by rw [hFe] at he; have := ends_bd he; simp only [List.length_append] at this; omega
  rw [← hEe] at hs3
  rw [← hFe] at hs7
  have hi3 := (hs3.mono_mid hM).in_
  have hi7 := (hs7.mono_mid hM2).in_
  have hi10 := (hs10.mono_mid hM3).in_
  have hn3 := hi3.len
  have hn7 := hi7.len
  (conv => whnf)
  refine SemC.cut 0 (fun p : Int => [(0, xa.v), (1, xb.v), (2, xt.v), (6, .bool false), (7, v3.v), (9, v7.v), (11, v10.v), (12, .pointer (some ⟨b6, 0, none⟩)), (13, .int .i64 p)])
    (fun p w' => Ext w12 w' ∧ ((p = -1 ∧ ∀ x, ¬ Both E F a.length b.length x) ∨ Both E F a.length b.length p)) ?_ ?_
  · refine loop_inv (S := Nat × Int) tabOk [0, 1, 2, 6, 7, 8, 9, 10, 11, 12, 16, 17, 18, 19, 21, 48, 97, 104, 115, 129, 140] (fun s => [(13, .int .i64 s.2), (14, .int .i64 s.1)])
      (fun s w' => s.1 ≤ E.length ∧ Ext w12 w' ∧ ((s.2 = -1 ∧ ∀ (i : Nat) (x : Int), i < s.1 → E[i]? = some (a.length + x) → 0 ≤ x → (b.length : Int) + x ∉ F) ∨ Both E F a.length b.length s.2)) (fun s _ => E.length - s.1) (0, -1) ?_
    (conv => whnf)
    refine ⟨(by repeat (first | exact trivial | refine ⟨rfl, ?_⟩)), ⟨by omega, Ext.refl _, .inl ⟨rfl, fun i x h => by omega⟩⟩, ?_⟩
    rintro ⟨i, p⟩ w13 ⟨hi, he13, hp⟩
    dsimp only at hi hp
    (conv => whnf)
    refine condG_dec (fun h4 => ?_) (fun h4 => ?_)
    rotate_left
    · (conv => whnf)
      refine ⟨rfl, p, (by repeat (first | exact trivial | refine ⟨rfl, ?_⟩)), he13, hp.imp (fun ⟨h, hx⟩ => ⟨h, fun x hb => ?_⟩) id⟩
      obtain ⟨hb1, hb2, hb3⟩ := hb
      obtain ⟨j, hj⟩ := List.getElem?_of_mem hb2
      have := (List.getElem?_eq_some_iff.1 hj).1
      exact hx j x (by omega) hj hb1 hb3
    have hia : i < E.length := by omega
    have hEi := hEb E[i] (List.getElem_mem hia)
    (conv => whnf)
    refine SemC.cut 2 (fun p : Int => [(0, xa.v), (1, xb.v), (2, xt.v), (6, .bool false), (7, v3.v), (8, .pointer (some ⟨b4, 0, none⟩)), (9, v7.v), (10, .pointer (some ⟨b5, 0, none⟩)), (11, v10.v), (12, .pointer (some ⟨b6, 0, none⟩)), (13, .int .i64 p), (14, .int .i64 i), (21, .bool false), (48, .bool (decide ((0 : Int) ≠ 0)))])
      (fun p w' => Ext w12 w' ∧ ((p = -1 ∧ ∀ (j : Nat) (x : Int), j < i + 1 → E[j]? = some (a.length + x) → 0 ≤ x → (b.length : Int) + x ∉ F) ∨ Both E F a.length b.length p)) ?_ ?_
    · refine loop_inv (S := Nat × Int) tabOk [0, 1, 2, 6, 7, 8, 9, 10, 11, 12, 14, 16, 17, 18, 19, 21, 48, 52, 97, 104, 115, 129, 140] (fun s => [(13, .int .i64 s.2), (15, .int .i64 s.1)])
        (fun s w' => s.1 ≤ F.length ∧ Ext w12 w' ∧ ((s.2 = -1 ∧ (∀ (j : Nat) (x : Int), j < i → E[j]? = some (a.length + x) → 0 ≤ x → (b.length : Int) + x ∉ F) ∧ ∀ (j : Nat) (x : Int), j < s.1 → E[i]? = some (a.length + x) → 0 ≤ x → F[j]? ≠ some ((b.length : Int) + x)) ∨ Both E F a.length b.length s.2)) (fun s _ => F.length - s.1) (0, p) ?_
      (conv => whnf)
      refine ⟨(by repeat (first | exact trivial | refine ⟨rfl, ?_⟩)), ⟨by omega, he13, hp.imp (fun ⟨h, hx⟩ => ⟨h, hx, fun j x h => by omega⟩) id⟩, ?_⟩
      clear he13 hp
      rintro ⟨k, p⟩ w13 ⟨hk, he13, hp⟩
      dsimp only at hk hp
      (conv => whnf)
      refine condG_dec (fun h5 => ?_) (fun h5 => ?_)
      rotate_left
      · (conv => whnf)
        refine ⟨rfl, p, (by repeat (first | exact trivial | refine ⟨rfl, ?_⟩)), he13, hp.imp (fun ⟨h, hx, hy⟩ => ⟨h, fun j x hj hE hx0 hF => ?_⟩) id⟩
        by_cases hji : j = i
        · subst hji
          obtain ⟨m, hm⟩ := List.getElem?_of_mem hF
          have := (List.getElem?_eq_some_iff.1 hm).1
          exact hy m x (by omega) hE hx0 hm
        · exact hx j x (by omega) hE hx0 hF
      have hkb : k < F.length := by omega
      have hFk := hFb F[k] (List.getElem_mem hkb)
      (conv => whnf)
      refine draw_vc tabOk mixed [] [0, 1, 2, 3, 4, 5, 6, 7, 8, 9, 10, 11, 12, 13, 14, 15, 16, 17, 18, 19, 20, 21, 22, 23, 24, 25, 26, 27] (by kernel_rfl) ?_
      intro w14 hd
      replace he13 := he13.trans hd.ext
      have c3 := (hi3.ext he13).cell hia
      have p3 := hi3.plain hia
      have c7 := (hi7.ext he13).cell hkb
      have p7 := hi7.plain hkb
      (conv => whnf)
      refine condG_dec (fun h6 => ?_) (fun h6 => ?_)
      rotate_left
      · rcases hp with ⟨rfl, _⟩ | hp
        · exact absurd (show (-1 : Int) < 0 by decide) h6
        ((repeat ((conv => whnf); refine And.intro (by omega) ?_)); (conv => whnf))
        exact ⟨rfl, (by repeat (first | exact trivial | refine ⟨rfl, ?_⟩)), (k + 1, p), (by repeat (first | exact trivial | refine ⟨rfl, ?_⟩)), ⟨by omega, he13, .inr hp⟩, by omega⟩
      rcases hp with ⟨rfl, hx, hy⟩ | hp
      rotate_left
      · have := hp.1
        omega
      ((repeat ((conv => whnf); first | refine And.intro (by first | omega | assumption | exact rfl) ?_ | refine Exists.intro _ (And.intro (by assumption) ?_) | refine Exists.intro _ (Exists.intro _ (And.intro (by assumption) ?_)) | refine Exists.intro _ (And.intro (Blk.cel (by assumption) (by rfl)) ?_))); (conv => whnf))
      refine condG_dec (fun h7 => ?_) (fun h7 => ?_)
      rotate_left
      · ((repeat ((conv => whnf); refine And.intro (by omega) ?_)); (conv => whnf))
        refine ⟨rfl, (by repeat (first | exact trivial | refine ⟨rfl, ?_⟩)), (k + 1, -1), (by repeat (first | exact trivial | refine ⟨rfl, ?_⟩)), ⟨by omega, he13, .inl ⟨rfl, hx, fun j x hj hE hx0 => ?_⟩⟩, by omega⟩
        rw [List.getElem?_eq_getElem hia] at hE
        have := Option.some.inj hE
        omega
      ((repeat ((conv => whnf); first | refine And.intro (by first | omega | assumption | exact rfl) ?_ | refine Exists.intro _ (And.intro (by assumption) ?_) | refine Exists.intro _ (Exists.intro _ (And.intro (by assumption) ?_)) | refine Exists.intro _ (And.intro (Blk.cel (by assumption) (by rfl)) ?_))); (conv => whnf))
      refine condG_dec (fun h8 => ?_) (fun h8 => ?_)
      · ((repeat ((conv => whnf); first | refine And.intro (by first | omega | assumption | exact rfl) ?_ | refine Exists.intro _ (And.intro (by assumption) ?_) | refine Exists.intro _ (Exists.intro _ (And.intro (by assumption) ?_)) | refine Exists.intro _ (And.intro (Blk.cel (by assumption) (by rfl)) ?_))); (conv => whnf))
        refine ⟨(by repeat (first | exact trivial | refine ⟨rfl, ?_⟩)), (k + 1, E[i] - a.length), ?_, ⟨by omega, he13, .inr ⟨by omega, ?_, ?_⟩⟩, by omega⟩
        · rw [← hal]; exact (by repeat (first | exact trivial | refine ⟨rfl, ?_⟩))
        · rw [show (a.length : Int) + (E[i] - a.length) = E[i] by omega]; exact List.getElem_mem hia
        · rw [show (b.length : Int) + (E[i] - a.length) = F[k] by omega]; exact List.getElem_mem hkb
      · ((repeat ((conv => whnf); refine And.intro (by omega) ?_)); (conv => whnf))
        refine ⟨rfl, (by repeat (first | exact trivial | refine ⟨rfl, ?_⟩)), (k + 1, -1), (by repeat (first | exact trivial | refine ⟨rfl, ?_⟩)), ⟨by omega, he13, .inl ⟨rfl, hx, fun j x hj hE hx0 => ?_⟩⟩, by omega⟩
        by_cases hjk : j = k
        · subst hjk
          rw [List.getElem?_eq_getElem hia] at hE
          have h9 := Option.some.inj hE
          rw [List.getElem?_eq_getElem hkb]
          intro h10
          have h11 := Option.some.inj h10
          omega
        · exact hy j x (by omega) hE hx0
    · rintro p w13 ⟨he13, hp⟩
      ((repeat ((conv => whnf); refine And.intro (by omega) ?_)); (conv => whnf))
      exact ⟨rfl, (by repeat (first | exact trivial | refine ⟨rfl, ?_⟩)), (i + 1, p), (by repeat (first | exact trivial | refine ⟨rfl, ?_⟩)), ⟨by omega, he13, hp⟩, by omega⟩
  rintro p w13 ⟨he13, hp⟩
  (conv => whnf)
  refine condG_dec (fun h3 => ?_) (fun h3 => ?_)
  · rcases hp with ⟨rfl, hp⟩ | hp
    rotate_left
    · have := hp.1
      omega
    have ht0 : t = [] := by
      refine Decidable.byContradiction fun hne => hp t.length ⟨by omega, ?_, ?_⟩
      · have := ends_last (l := a ++ t) (by simp [hne])
        rw [hEe]; simpa using this
      · have := ends_last (l := b ++ t) (by simp [hne])
        rw [hFe]; simpa using this
    subst ht0
    ((repeat ((conv => whnf); first | refine And.intro (by first | omega | assumption | exact rfl) ?_ | refine Exists.intro _ (And.intro (by assumption) ?_) | refine Exists.intro _ (Exists.intro _ (And.intro (by assumption) ?_)) | refine Exists.intro _ (And.intro (Blk.cel (by assumption) (by rfl)) ?_))); (conv => whnf))
    refine ⟨?_, hE.trans he13⟩
    have : xt.len = 0 := htl
    simp [this]
  rcases hp with ⟨rfl, _⟩ | hp
  · exact absurd (show (-1 : Int) < 0 by decide) h3
  obtain ⟨hp0, hpE, hpF⟩ := hp
  have hpE' := hEb _ hpE
  have hpF' := hFb _ hpF
  have hres : tailE E a.length p = tailE F b.length p := by
    have := resume (a := a) (b := b) (t := t) (p := p.toNat) (by rw [← hEe]; rw [show ((a.length + p.toNat : Nat) : Int) = a.length + p by omega]; exact hpE) (by rw [← hFe]; rw [show ((b.length + p.toNat : Nat) : Int) = b.length + p by omega]; exact hpF)
    rw [show ((p.toNat : Nat) : Int) = p by omega, ← hEe, ← hFe] at this
    exact this
  have hz13 := he13.size
  (conv => whnf)
  refine SemC.cut 4 (fun s : Sl => [(0, xa.v), (1, xb.v), (2, xt.v), (6, .bool false), (7, v3.v), (9, v7.v), (11, v10.v), (12, .pointer (some ⟨b6, 0, none⟩)), (13, .int .i64 p), (16, s.v), (17, .slice none 0 0)])
    (fun s w' => Ext w12 w' ∧ NIn w13.heap.size w' s (tailE E a.length p)) ?_ ?_
  · refine loop_inv (S := Nat × Sl) tabOk [0, 1, 2, 6, 7, 8, 9, 10, 11, 12, 13, 14, 15, 17, 19, 21, 48, 52, 58, 88, 97, 129, 140] (fun s => [(16, s.2.v), (18, .int .i64 s.1)])
      (fun s w' => s.1 ≤ E.length ∧ Ext w13 w' ∧ NIn w13.heap.size w' s.2 (tailE (E.take s.1) a.length p)) (fun s _ => E.length - s.1) (0, ⟨none, 0, 0⟩) ?_
    (conv => whnf)
    refine ⟨(by repeat (first | exact trivial | refine ⟨rfl, ?_⟩)), ⟨by omega, Ext.refl _, ⟨Row.nil _ _ _, .inl rfl⟩⟩, ?_⟩
    rintro ⟨k, s⟩ w14 ⟨hk, he14, hs⟩
    dsimp only at hk hs
    have hz14 := he14.size
    have hlen := tailE_len (E.take k) a.length p
    simp only [List.length_take] at hlen
    (conv => whnf)
    refine condG_dec (fun h5 => ?_) (fun h5 => ?_)
    rotate_left
    · (conv => whnf)
      rw [show k = E.length by omega, List.take_length] at hs
      exact ⟨rfl, s, (by repeat (first | exact trivial | refine ⟨rfl, ?_⟩)), he13.trans he14, hs⟩
    have hka : k < E.length := by omega
    have hEk := hEb E[k] (List.getElem_mem hka)
    have c3 := (hi3.ext (he13.trans he14)).cell hka
    have p3 := hi3.plain hka
    have htk := tailE_take (A := a.length) (p := p) hka
    ((repeat ((conv => whnf); first | refine And.intro (by first | omega | assumption | exact rfl) ?_ | refine Exists.intro _ (And.intro (by assumption) ?_) | refine Exists.intro _ (Exists.intro _ (And.intro (by assumption) ?_)) | refine Exists.intro _ (And.intro (Blk.cel (by assumption) (by rfl)) ?_))); (conv => whnf))
    refine condG_dec (fun h6 => ?_) (fun h6 => ?_)
    · rw [if_pos (by omega)] at htk
      ((repeat ((conv => whnf); first | refine And.intro (by first | omega | assumption | exact rfl) ?_ | refine Exists.intro _ (And.intro (by assumption) ?_) | refine Exists.intro _ (Exists.intro _ (And.intro (by assumption) ?_)) | refine Exists.intro _ (And.intro (Blk.cel (by assumption) (by rfl)) ?_))); (conv => whnf))
      intro w15 b hb
      have hz15 := hb.size
      have hm15 := hb.num
      (conv => whnf)
      refine app_int (hs.ext hb.ext) (by omega) hb.blk (by omega) ?_
      intro s' w16 hs' hg hbe
      ((repeat ((conv => whnf); refine And.intro (by omega) ?_)); (conv => whnf))
      refine ⟨rfl, (by repeat (first | exact trivial | refine ⟨rfl, ?_⟩)), (k + 1, s'), (by repeat (first | exact trivial | refine ⟨rfl, ?_⟩)), ⟨by omega, he14.trans' (Below.trans (hb.ext.mono (by omega)) hbe), ?_⟩, by omega⟩
      dsimp only
      rw [htk, ← hal]
      rw [← hal] at hs'
      exact hs'
    · rw [if_neg (by omega), List.append_nil] at htk
      ((repeat ((conv => whnf); refine And.intro (by omega) ?_)); (conv => whnf))
      refine ⟨rfl, (by repeat (first | exact trivial | refine ⟨rfl, ?_⟩)), (k + 1, s), (by repeat (first | exact trivial | refine ⟨rfl, ?_⟩)), ⟨by omega, he14, ?_⟩, by omega⟩
      dsimp only
      rw [htk]
      exact hs
  rintro s w14 ⟨he14, hs⟩
  have hz14 := he14.size
  (conv => whnf)
  refine SemC.cut 6 (fun s' : Sl => [(0, xa.v), (1, xb.v), (2, xt.v), (6, .bool false), (7, v3.v), (9, v7.v), (11, v10.v), (12, .pointer (some ⟨b6, 0, none⟩)), (13, .int .i64 p), (16, s.v), (17, s'.v)])
    (fun s' w' => Ext w14 w' ∧ NIn w14.heap.size w' s' (tailE F b.length p)) ?_ ?_
  · refine loop_inv (S := Nat × Sl) tabOk [0, 1, 2, 6, 7, 8, 9, 10, 11, 12, 13, 14, 15, 16, 18, 21, 48, 52, 58, 88, 97, 104, 115] (fun s => [(17, s.2.v), (19, .int .i64 s.1)])
      (fun s w' => s.1 ≤ F.length ∧ Ext w14 w' ∧ NIn w14.heap.size w' s.2 (tailE (F.take s.1) b.length p)) (fun s _ => F.length - s.1) (0, ⟨none, 0, 0⟩) ?_
    (conv => whnf)
    refine ⟨(by repeat (first | exact trivial | refine ⟨rfl, ?_⟩)), ⟨by omega, Ext.refl _, ⟨Row.nil _ _ _, .inl rfl⟩⟩, ?_⟩
    rintro ⟨k, s⟩ w15 ⟨hk, he15, hs⟩
    dsimp only at hk hs
    have hz15 := he15.size
    have hlen := tailE_len (F.take k) b.length p
    simp only [List.length_take] at hlen
    (conv => whnf)
    refine condG_dec (fun h5 => ?_) (fun h5 => ?_)
    rotate_left
    · (conv => whnf)
      rw [show k = F.length by omega, List.take_length] at hs
      exact ⟨rfl, s, (by repeat (first | exact trivial | refine ⟨rfl, ?_⟩)), he15, hs⟩
    have hka : k < F.length := by omega
    have hEk := hFb F[k] (List.getElem_mem hka)
    have c3 := (hi7.ext (he14.trans he15)).cell hka
    have p3 := hi7.plain hka
    have htk := tailE_take (A := b.length) (p := p) hka
    ((repeat ((conv => whnf); first | refine And.intro (by first | omega | assumption | exact rfl) ?_ | refine Exists.intro _ (And.intro (by assumption) ?_) | refine Exists.intro _ (Exists.intro _ (And.intro (by assumption) ?_)) | refine Exists.intro _ (And.intro (Blk.cel (by assumption) (by rfl)) ?_))); (conv => whnf))
    refine condG_dec (fun h6 => ?_) (fun h6 => ?_)
    · rw [if_pos (by omega)] at htk
      ((repeat ((conv => whnf); first | refine And.intro (by first | omega | assumption | exact rfl) ?_ | refine Exists.intro _ (And.intro (by assumption) ?_) | refine Exists.intro _ (Exists.intro _ (And.intro (by assumption) ?_)) | refine Exists.intro _ (And.intro (Blk.cel (by assumption) (by rfl)) ?_))); (conv => whnf))
      intro w16 b' hb
      have hz16 := hb.size
      have hm16 := hb.num
      (conv => whnf)
      refine app_int (hs.ext hb.ext) (by omega) hb.blk (by omega) ?_
      intro s' w17 hs' hg hbe
      ((repeat ((conv => whnf); refine And.intro (by omega) ?_)); (conv => whnf))
      refine ⟨rfl, (by repeat (first | exact trivial | refine ⟨rfl, ?_⟩)), (k + 1, s'), (by repeat (first | exact trivial | refine ⟨rfl, ?_⟩)), ⟨by omega, he15.trans' (Below.trans (hb.ext.mono (by omega)) hbe), ?_⟩, by omega⟩
      dsimp only
      rw [htk, ← hbl]
      rw [← hbl] at hs'
      exact hs'
    · rw [if_neg (by omega), List.append_nil] at htk
      ((repeat ((conv => whnf); refine And.intro (by omega) ?_)); (conv => whnf))
      refine ⟨rfl, (by repeat (first | exact trivial | refine ⟨rfl, ?_⟩)), (k + 1, s), (by repeat (first | exact trivial | refine ⟨rfl, ?_⟩)), ⟨by omega, he15, ?_⟩, by omega⟩
      dsimp only
      rw [htk]
      exact hs
  rintro s' w15 ⟨he15, hs'⟩
  have he := he14.trans he15
  have k6 := k_b6.ext he
  have hsx := (hs.ext he15).in_
  rw [hres] at hsx
  ((repeat ((conv => whnf); first | refine And.intro (by first | omega | assumption | exact rfl) ?_ | refine Exists.intro _ (And.intro (by assumption) ?_) | refine Exists.intro _ (Exists.intro _ (And.intro (by assumption) ?_)) | refine Exists.intro _ (And.intro (Blk.cel (by assumption) (by rfl)) ?_))); (conv => whnf))
  refine (ints_ref hsx hs'.in_ ?_).use ?_
  · have := tailE_len F b.length p
    omega
  rintro v w16 ⟨rfl, he16⟩
  (conv => whnf)
  refine condG_dec (fun _ => ?_) (fun h => absurd rfl h)
  ((repeat ((conv => whnf); first | refine And.intro (by first | omega | assumption | exact rfl) ?_ | refine Exists.intro _ (And.intro (by assumption) ?_) | refine Exists.intro _ (Exists.intro _ (And.intro (by assumption) ?_)) | refine Exists.intro _ (And.intro (Blk.cel (by assumption) (by rfl)) ?_))); (conv => whnf))
  refine condG_dec (fun h6 => ?_) (fun h6 => ?_)
  · ((repeat ((conv => whnf); first | refine And.intro (by first | omega | assumption | exact rfl) ?_ | refine Exists.intro _ (And.intro (by assumption) ?_) | refine Exists.intro _ (Exists.intro _ (And.intro (by assumption) ?_)) | refine Exists.intro _ (And.intro (Blk.cel (by assumption) (by rfl)) ?_))); (conv => whnf))
    exact hE.trans (he.trans he16)
  have ha0 : a = [] := List.eq_nil_of_length_eq_zero (by omega)
  have hEt : E = endsS t t.length := by rw [hEe, ha0]; rfl
  rw [hEt] at hi3
  ((repeat ((conv => whnf); first | refine And.intro (by first | omega | assumption | exact rfl) ?_ | refine Exists.intro _ (And.intro (by assumption) ?_) | refine Exists.intro _ (Exists.intro _ (And.intro (by assumption) ?_)) | refine Exists.intro _ (And.intro (Blk.cel (by assumption) (by rfl)) ?_))); (conv => whnf))
  refine (ints_ref (hi3.ext (he.trans he16)) (hi10.ext (he.trans he16)) ?_).use ?_
  · rw [← hEt]; omega
  rintro v w17 ⟨rfl, he17⟩
  ((repeat ((conv => whnf); first | refine And.intro (by first | omega | assumption | exact rfl) ?_ | refine Exists.intro _ (And.intro (by assumption) ?_) | refine Exists.intro _ (Exists.intro _ (And.intro (by assumption) ?_)) | refine Exists.intro _ (And.intro (Blk.cel (by assumption) (by rfl)) ?_))); (conv => whnf))
  exact ⟨by simp, hE.trans ((he.trans he16).trans he17)⟩
end Go.Proofs.Ytkmnncajfhamhaa
