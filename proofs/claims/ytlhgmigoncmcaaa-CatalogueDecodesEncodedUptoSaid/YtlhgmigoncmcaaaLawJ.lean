/-
  CatalogueDecodesEncoded.
-/
import Derived.Test.YtlhgmigoncmcaaaDecD
import Derived.Test.YtlhgmigoncmcaaaDecG
import Derived.Test.YtlhgmigoncmcaaaCatM
import Derived.Test.YtlhgmigoncmcaaaVcO
namespace Go.Proofs.Ytlhgmigoncmcaaa
open Go Go.RowKit

theorem catOr_rowJ {W V : World} {c i : Int} {l : List Ent} {v : Value} {w' : World} (hz : c = 0 → i = 0) (h : CatOr W V c i l v w') : ∃ (V' : World) (t : Sl), Sub V V' ∧ Rel W V [] V' w' ∧ v = .tuple #[catV t, faultV c i] ∧ ((c ≠ 0 ∧ t = ⟨none, 0, 0⟩) ∨ (c = 0 ∧ Ents V' t l)) := by
  obtain ⟨V', hV', K, ⟨hc, rfl⟩ | ⟨rfl, t, rfl, ht⟩⟩ := h
  · exact ⟨V', ⟨none, 0, 0⟩, hV', K, rfl, .inl ⟨hc, rfl⟩⟩
  · rw [hz rfl]
    exact ⟨V', t, hV', K, rfl, .inr ⟨rfl, ht⟩⟩
theorem manyAt_all {α : Type} {b : List UInt8} {one : Nat → Got α} {P : α → Prop} (h : ∀ p q x, p ≤ b.length → one p = .ok x q → q ≤ b.length ∧ P x) : ∀ (n p q : Nat) (l : List α), p ≤ b.length → manyAt one n p = .ok l q → ∀ x ∈ l, P x
  | 0, p, q, l, _, he => by
    simp only [manyAt] at he
    cases he
    simp
  | n + 1, p, q, l, hp, he => by
    simp only [manyAt] at he
    split at he
    · cases he
    · rename_i x q1 h1
      split at he
      · cases he
      · rename_i l' r h2
        cases he
        obtain ⟨a1, a2⟩ := h p q1 x hp h1
        intro y hy
        rcases List.mem_cons.1 hy with rfl | hy
        · exact a2
        · exact manyAt_all h n q1 _ _ a1 h2 y hy
theorem listAt_all {α : Type} {b : List UInt8} {one : Nat → Got α} {P : α → Prop} (h : ∀ p q x, p ≤ b.length → one p = .ok x q → q ≤ b.length ∧ P x) {m : Int} {p q : Nat} {l : List α} (hp : p ≤ b.length) (he : listAt b one m p = .ok l q) : ∀ x ∈ l, P x := by
  unfold listAt at he
  split at he
  · cases he
  · rename_i n q' hn
    split at he
    · cases he
    · exact manyAt_all h _ _ _ _ (numAt_ok hp hn).2.1 he
theorem refAt_num {l : List UInt8} {p q : Nat} {r : RefD} (hp : p ≤ l.length) (h : refAt l p = .ok r q) : I64 r.ver := by
  unfold refAt at h
  split at h
  · cases h
  · rename_i t q' ht
    cases h
    obtain ⟨q2, h2, k2⟩ := Got.and_ok ht
    obtain ⟨q1, h1, k1⟩ := Got.and_ok h2
    cases h1
    exact numAt_i64 ((chunk_rds l).ok _ _ _ hp k1).2.1 k2
theorem entAt_num {l : List UInt8} {p q : Nat} {e : Ent} (hp : p ≤ l.length) (h : entAt l p = .ok e q) : EntNum e := by
  obtain ⟨t, ht, rfl⟩ := Got.map_ok h
  unfold entG at ht
  obtain ⟨_, ht, k14⟩ := Got.and_ok ht
  obtain ⟨_, ht, k13⟩ := Got.and_ok ht
  obtain ⟨_, ht, k12⟩ := Got.and_ok ht
  obtain ⟨_, ht, k11⟩ := Got.and_ok ht
  obtain ⟨_, ht, k10⟩ := Got.and_ok ht
  obtain ⟨_, ht, k9⟩ := Got.and_ok ht
  obtain ⟨_, ht, k8⟩ := Got.and_ok ht
  obtain ⟨_, ht, k7⟩ := Got.and_ok ht
  obtain ⟨_, ht, k6⟩ := Got.and_ok ht
  obtain ⟨_, ht, k5⟩ := Got.and_ok ht
  obtain ⟨_, ht, k4⟩ := Got.and_ok ht
  obtain ⟨_, ht, k3⟩ := Got.and_ok ht
  obtain ⟨_, ht, k2⟩ := Got.and_ok ht
  obtain ⟨_, ht, k1⟩ := Got.and_ok ht
  cases ht
  obtain ⟨a1, b1, c1⟩ := (chunk_rds l).ok _ _ _ hp k1
  obtain ⟨a2, b2, c2⟩ := (num_rds l).ok _ _ _ b1 k2
  obtain ⟨a3, b3, c3⟩ := (num_rds l).ok _ _ _ b2 k3
  obtain ⟨a4, b4, c4⟩ := (num_rds l).ok _ _ _ b3 k4
  obtain ⟨a5, b5, c5⟩ := (num_rds l).ok _ _ _ b4 k5
  obtain ⟨a6, b6, c6⟩ := (dig_rds l).ok _ _ _ b5 k6
  obtain ⟨a7, b7, c7⟩ := (list_rds (ref_rds l) _).ok _ _ _ b6 k7
  obtain ⟨a8, b8, c8⟩ := (list_rds (chunk_rds l) _).ok _ _ _ b7 k8
  obtain ⟨a9, b9, c9⟩ := (num_rds l).ok _ _ _ b8 k9
  obtain ⟨a10, b10, c10⟩ := (num_rds l).ok _ _ _ b9 k10
  obtain ⟨a11, b11, c11⟩ := (num_rds l).ok _ _ _ b10 k11
  exact ⟨numAt_i64 b1 k2, numAt_i64 b2 k3, numAt_i64 b3 k4, numAt_i64 b4 k5, numAt_i64 b8 k9, numAt_i64 b9 k10, numAt_i64 b10 k11, numAt_i64 b11 k12, listAt_all (fun p q x hp h => ⟨((ref_rds l).ok p q x hp h).2.1, refAt_num hp h⟩) b6 k7⟩
theorem decE_some {l : List UInt8} {es : List Ent} (h : decE l = some es) : (catFault es).1 = 0 ∧ putL putE es = l ∧ ∀ e ∈ es, EntNum e := by
  unfold decE at h
  split at h
  · cases h
  · rename_i es' q ho
    split at h
    · rename_i hc
      cases h
      obtain ⟨_, _, h3⟩ := (list_rds (ent_rds l) 60).ok _ _ _ (Nat.zero_le _) ho
      refine ⟨hc.2, ?_, listAt_all (fun p q x hp h => ⟨((ent_rds l).ok p q x hp h).2.1, entAt_num hp h⟩) (Nat.zero_le _) ho⟩
      rw [List.drop_zero, hc.1, List.drop_length, List.append_nil] at h3
      exact h3.symm
    · cases h
set_option maxRecDepth 100000 in
theorem law_decodes {W : World} {s : Sl} {l : List UInt8} (hs0 : By W s l) (hl : l.length ≤ 1048576) : Ret Try.prog 12 [s.v].toArray W fun v w' => v = .bool true ∧ Ext W w' := by
  have hs := hs0.slf
  have H := Rel.start (Sub.refl W)
  have hlen := hs.len
  have F : decCode l = _ := decCode.eq_1 l
  refine cal_of_vc tabOk Try.func12 rfl (by kernel_rfl) 46 rfl (by simp) [0, 2, 3, 4, 6, 14, 26] ?_
  ((repeat ((conv => whnf); first | refine an ?_ | ((first | refine H.nwD ?_ | refine H.nw ?_); clear H; intro w _ H) | refine H.ce ?_ | refine H.db ?_ | refine ea ?_ | (refine H.st ?_; (conv => whnf); clear H; intro w H) | refine condT fun _ => ?_ | refine condF fun _ => ?_ | refine condNT fun _ => ?_ | refine condNF fun _ => ?_ | refine H.lw ?_ | refine H.ll ?_)); (conv => whnf))
  refine (example_spec H.data).use ?_
  rintro v w ⟨rfl, V1, hV1, K⟩
  (have hKb := K.base; replace H := Rel.call H K)
  simp only [List.nil_append] at H
  ((repeat ((conv => whnf); first | refine an ?_ | ((first | refine H.nwD ?_ | refine H.nw ?_); clear H; intro w _ H) | refine H.ce ?_ | refine H.db ?_ | refine ea ?_ | (refine H.st ?_; (conv => whnf); clear H; intro w H) | refine condT fun _ => ?_ | refine condF fun _ => ?_ | refine condNT fun _ => ?_ | refine condNF fun _ => ?_ | refine H.lw ?_ | refine H.ll ?_)); (conv => whnf))
  refine (decode_spec H.data (hs.up hV1)).use ?_
  intro v w hv
  have hzz : (decCode l).1 = 0 → (decCode l).2 = 0 := by
    intro h0
    rw [F] at h0 ⊢
    split
    · rename_i h1; rw [if_pos h1] at h0; cases h0
    · rename_i h1
      rw [if_neg h1] at h0
      split
      · rename_i h2; rw [h2] at h0; cases h0
      · rfl
  obtain ⟨V2, t1, hV2, K, rfl, ht1⟩ := catOr_rowJ hzz hv
  clear hv hzz
  (have hKb := K.base; replace H := Rel.call H K)
  simp only [List.nil_append] at H
  generalize decCode l = rc at *
  obtain ⟨r1, r2⟩ := rc
  dsimp only at *
  ((repeat ((conv => whnf); first | refine an ?_ | refine H.ce ?_ | refine H.db ?_ | refine ea ?_ | (refine H.st ?_; (conv => whnf); clear H; intro w H) | refine condT fun _ => ?_ | refine condF fun _ => ?_ | refine condNT fun _ => ?_ | refine condNF fun _ => ?_ | refine H.lw ?_ | refine H.ll ?_)); (conv => whnf))
  ((first | refine Rel.nwD H ?_ | refine Rel.nw H ?_); clear H; intro w b3 H)
  ((repeat ((conv => whnf); first | refine an ?_ | refine H.ce ?_ | refine H.db ?_ | refine ea ?_ | (refine H.st ?_; (conv => whnf); clear H; intro w H) | refine condT fun _ => ?_ | refine condF fun _ => ?_ | refine condNT fun _ => ?_ | refine condNF fun _ => ?_ | refine H.lw ?_ | refine H.ll ?_)); (conv => whnf))
  ((first | refine Rel.nwD H ?_ | refine Rel.nw H ?_); clear H; intro w b4 H)
  by_cases h2 : 200000 < l.length
  · rw [if_pos h2] at F
    cases F
    rcases ht1 with ⟨_, rfl⟩ | ⟨h0, _⟩
    rotate_left
    · cases h0
    ((repeat ((conv => whnf); first | refine an ?_ | ((first | refine H.nwD ?_ | refine H.nw ?_); clear H; intro w _ H) | refine H.ce ?_ | refine H.db ?_ | refine ea ?_ | (refine H.st ?_; (conv => whnf); clear H; intro w H) | refine condT fun _ => ?_ | refine condF fun _ => ?_ | refine condNT fun _ => ?_ | refine condNF fun _ => ?_ | refine H.lw ?_ | refine H.ll ?_)); (conv => whnf))
    ((first | refine draw_vc (id := 5) tabOk mixed [1] [0, 1, 2, 3, 4, 5, 6, 7, 8, 9] (by kernel_rfl) ?_ | refine draw_vc (id := 7) tabOk mixed [1] [0, 1, 2, 3, 4, 5, 6, 7, 8, 9] (by kernel_rfl) ?_); intro w hdw; replace H := Rel.ext H hdw.ext)
    ((repeat ((conv => whnf); first | refine an ?_ | ((first | refine H.nwD ?_ | refine H.nw ?_); clear H; intro w _ H) | refine H.ce ?_ | refine H.db ?_ | refine ea ?_ | (refine H.st ?_; (conv => whnf); clear H; intro w H) | refine condT fun _ => ?_ | refine condF fun _ => ?_ | refine condNT fun _ => ?_ | refine condNF fun _ => ?_ | refine H.lw ?_ | refine H.ll ?_)); (conv => whnf))
    refine (at_ref H.data 3 (-1)).use ?_
    rintro v w ⟨rfl, K⟩
    (have hKb := K.base; replace H := Rel.call H K)
    simp only [List.nil_append] at H
    ((repeat ((conv => whnf); first | refine an ?_ | ((first | refine H.nwD ?_ | refine H.nw ?_); clear H; intro w _ H) | refine H.ce ?_ | refine H.db ?_ | refine ea ?_ | (refine H.st ?_; (conv => whnf); clear H; intro w H) | refine condT fun _ => ?_ | refine condF fun _ => ?_ | refine condNT fun _ => ?_ | refine condNF fun _ => ?_ | refine H.lw ?_ | refine H.ll ?_)); (conv => whnf))
    (first | exact H.base | exact ⟨by simp, H.base⟩ | exact ⟨rfl, H.base⟩)
  rw [if_neg h2] at F
  cases ho : decE l with
  | none =>
    rw [ho] at F
    cases F
    rcases ht1 with ⟨_, rfl⟩ | ⟨h0, _⟩
    rotate_left
    · cases h0
    ((repeat ((conv => whnf); first | refine an ?_ | ((first | refine H.nwD ?_ | refine H.nw ?_); clear H; intro w _ H) | refine H.ce ?_ | refine H.db ?_ | refine ea ?_ | (refine H.st ?_; (conv => whnf); clear H; intro w H) | refine condT fun _ => ?_ | refine condF fun _ => ?_ | refine condNT fun _ => ?_ | refine condNF fun _ => ?_ | refine H.lw ?_ | refine H.ll ?_)); (conv => whnf))
    ((first | refine draw_vc (id := 5) tabOk mixed [1] [0, 1, 2, 3, 4, 5, 6, 7, 8, 9] (by kernel_rfl) ?_ | refine draw_vc (id := 7) tabOk mixed [1] [0, 1, 2, 3, 4, 5, 6, 7, 8, 9] (by kernel_rfl) ?_); intro w hdw; replace H := Rel.ext H hdw.ext)
    ((repeat ((conv => whnf); first | refine an ?_ | ((first | refine H.nwD ?_ | refine H.nw ?_); clear H; intro w _ H) | refine H.ce ?_ | refine H.db ?_ | refine ea ?_ | (refine H.st ?_; (conv => whnf); clear H; intro w H) | refine condT fun _ => ?_ | refine condF fun _ => ?_ | refine condNT fun _ => ?_ | refine condNF fun _ => ?_ | refine H.lw ?_ | refine H.ll ?_)); (conv => whnf))
    refine (at_ref H.data 16 (-1)).use ?_
    rintro v w ⟨rfl, K⟩
    (have hKb := K.base; replace H := Rel.call H K)
    simp only [List.nil_append] at H
    ((repeat ((conv => whnf); first | refine an ?_ | ((first | refine H.nwD ?_ | refine H.nw ?_); clear H; intro w _ H) | refine H.ce ?_ | refine H.db ?_ | refine ea ?_ | (refine H.st ?_; (conv => whnf); clear H; intro w H) | refine condT fun _ => ?_ | refine condF fun _ => ?_ | refine condNT fun _ => ?_ | refine condNF fun _ => ?_ | refine H.lw ?_ | refine H.ll ?_)); (conv => whnf))
    (first | exact H.base | exact ⟨by simp, H.base⟩ | exact ⟨rfl, H.base⟩)
  | some es =>
    rw [ho] at F
    cases F
    rcases ht1 with ⟨h0, _⟩ | ⟨_, ht⟩
    · exact absurd rfl h0
    rw [ho] at ht
    simp only [Option.getD_some] at ht
    obtain ⟨hf, hput, hnum⟩ := decE_some ho
    obtain ⟨hc0, h60, hent, _⟩ := catFault_zero hf
    have hta := tames hnum hent
    ((repeat ((conv => whnf); first | refine an ?_ | ((first | refine H.nwD ?_ | refine H.nw ?_); clear H; intro w _ H) | refine H.ce ?_ | refine H.db ?_ | refine ea ?_ | (refine H.st ?_; (conv => whnf); clear H; intro w H) | refine condT fun _ => ?_ | refine condF fun _ => ?_ | refine condNT fun _ => ?_ | refine condNF fun _ => ?_ | refine H.lw ?_ | refine H.ll ?_)); (conv => whnf))
    refine (catalogueFault_ref H.data ht (by omega)).use ?_
    rintro v w ⟨rfl, K⟩
    (have hKb := K.base; replace H := Rel.call H K)
    simp only [List.nil_append] at H
    rw [hc0]
    ((repeat ((conv => whnf); first | refine an ?_ | ((first | refine H.nwD ?_ | refine H.nw ?_); clear H; intro w _ H) | refine H.ce ?_ | refine H.db ?_ | refine ea ?_ | (refine H.st ?_; (conv => whnf); clear H; intro w H) | refine condT fun _ => ?_ | refine condF fun _ => ?_ | refine condNT fun _ => ?_ | refine condNF fun _ => ?_ | refine H.lw ?_ | refine H.ll ?_)); (conv => whnf))
    refine (catalogueBytes_ref H.data ht h60 hta).use ?_
    rintro v w ⟨r, rfl, K⟩
    (have hKb := K.base; replace H := Rel.call H K)
    simp only [List.cons_append, List.nil_append] at H
    obtain ⟨V3, hV3, H, hr⟩ := Rel.freezeF H (fun _ => rfl) (by decide)
    ((repeat ((conv => whnf); first | refine an ?_ | ((first | refine H.nwD ?_ | refine H.nw ?_); clear H; intro w _ H) | refine H.ce ?_ | refine H.db ?_ | refine ea ?_ | (refine H.st ?_; (conv => whnf); clear H; intro w H) | refine condT fun _ => ?_ | refine condF fun _ => ?_ | refine condNT fun _ => ?_ | refine condNF fun _ => ?_ | refine H.lw ?_ | refine H.ll ?_)); (conv => whnf))
    refine (bytes_ref H.data hr (hs.up (hV1.trans (hV2.trans hV3)))).use ?_
    rintro v w ⟨rfl, K⟩
    (have hKb := K.base; replace H := Rel.call H K)
    simp only [List.nil_append] at H
    rw [hput]
    ((repeat ((conv => whnf); first | refine an ?_ | ((first | refine H.nwD ?_ | refine H.nw ?_); clear H; intro w _ H) | refine H.ce ?_ | refine H.db ?_ | refine ea ?_ | (refine H.st ?_; (conv => whnf); clear H; intro w H) | refine condT fun _ => ?_ | refine condF fun _ => ?_ | refine condNT fun _ => ?_ | refine condNF fun _ => ?_ | refine H.lw ?_ | refine H.ll ?_)); (conv => whnf))
    exact ⟨by simp, H.base⟩
end Go.Proofs.Ytlhgmigoncmcaaa
