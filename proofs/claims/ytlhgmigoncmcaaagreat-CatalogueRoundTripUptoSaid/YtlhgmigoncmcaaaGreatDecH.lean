/-
  What is decoded: plain facts.
-/
import Derived.Test.YtlhgmigoncmcaaaGreatDecD
import Derived.Test.YtlhgmigoncmcaaaGreatDecG
import Derived.Test.YtlhgmigoncmcaaaGreatCatM
import Derived.Test.YtlhgmigoncmcaaaGreatVcO
namespace Go.Proofs.YtlhgmigoncmcaaaGreat
open Go Go.RowKit

theorem catOr_rowJ {W V : World} {c i : Int} {l : List Ent} {v : Value} {w' : World} (hz : c = 0 → i = 0) (h : CatOr W V c i l v w') : ∃ (V' : World) (t : Sl), Sub V V' ∧ Rel W V [] V' w' ∧ v = .tuple #[catV t, faultV c i] ∧ ((c ≠ 0 ∧ t = ⟨none, 0, 0⟩) ∨ (c = 0 ∧ Ents V' t l)) := by
  obtain ⟨V', hV', K, ⟨hc, rfl⟩ | ⟨rfl, t, rfl, ht⟩⟩ := h
  · exact ⟨V', ⟨none, 0, 0⟩, hV', K, rfl, .inl ⟨hc, rfl⟩⟩
  · rw [hz rfl]
    exact ⟨V', t, hV', K, rfl, .inr ⟨rfl, ht⟩⟩
theorem manyAt_all {α : Type} {b : List UInt8} {one : Nat → Got α} {P : α → Prop} (h : ∀ p q x, p ≤ b.length → one p = .ok x q → q ≤ b.length ∧ P x) : ∀ (n p q : Nat) (l : List α), p ≤ b.length → manyAt one n p = .ok l q → ∀ x ∈ l, P x
  | 0, p, q, l, _, he => by
    simp only [manyAt] at he
    cases he
    simp
  | n + 1, p, q, l, hp, he => by
    simp only [manyAt] at he
    split at he
    · cases he
    · rename_i x q1 h1
      split at he
      · cases he
      · rename_i l' r h2
        cases he
        obtain ⟨a1, a2⟩ := h p q1 x hp h1
        intro y hy
        rcases List.mem_cons.1 hy with rfl | hy
        · exact a2
        · exact manyAt_all h n q1 _ _ a1 h2 y hy
theorem listAt_all {α : Type} {b : List UInt8} {one : Nat → Got α} {P : α → Prop} (h : ∀ p q x, p ≤ b.length → one p = .ok x q → q ≤ b.length ∧ P x) {m : Int} {p q : Nat} {l : List α} (hp : p ≤ b.length) (he : listAt b one m p = .ok l q) : ∀ x ∈ l, P x := by
  unfold listAt at he
  split at he
  · cases he
  · rename_i n q' hn
    split at he
    · cases he
    · exact manyAt_all h _ _ _ _ (numAt_ok hp hn).2.1 he
theorem refAt_num {l : List UInt8} {p q : Nat} {r : RefD} (hp : p ≤ l.length) (h : refAt l p = .ok r q) : I64 r.ver := by
  unfold refAt at h
  split at h
  · cases h
  · rename_i t q' ht
    cases h
    obtain ⟨q2, h2, k2⟩ := Got.and_ok ht
    obtain ⟨q1, h1, k1⟩ := Got.and_ok h2
    cases h1
    exact numAt_i64 ((chunk_rds l).ok _ _ _ hp k1).2.1 k2
theorem entAt_num {l : List UInt8} {p q : Nat} {e : Ent} (hp : p ≤ l.length) (h : entAt l p = .ok e q) : EntNum e := by
  obtain ⟨t, ht, rfl⟩ := Got.map_ok h
  unfold entG at ht
  obtain ⟨_, ht, k14⟩ := Got.and_ok ht
  obtain ⟨_, ht, k13⟩ := Got.and_ok ht
  obtain ⟨_, ht, k12⟩ := Got.and_ok ht
  obtain ⟨_, ht, k11⟩ := Got.and_ok ht
  obtain ⟨_, ht, k10⟩ := Got.and_ok ht
  obtain ⟨_, ht, k9⟩ := Got.and_ok ht
  obtain ⟨_, ht, k8⟩ := Got.and_ok ht
  obtain ⟨_, ht, k7⟩ := Got.and_ok ht
  obtain ⟨_, ht, k6⟩ := Got.and_ok ht
  obtain ⟨_, ht, k5⟩ := Got.and_ok ht
  obtain ⟨_, ht, k4⟩ := Got.and_ok ht
  obtain ⟨_, ht, k3⟩ := Got.and_ok ht
  obtain ⟨_, ht, k2⟩ := Got.and_ok ht
  obtain ⟨_, ht, k1⟩ := Got.and_ok ht
  cases ht
  obtain ⟨a1, b1, c1⟩ := (chunk_rds l).ok _ _ _ hp k1
  obtain ⟨a2, b2, c2⟩ := (num_rds l).ok _ _ _ b1 k2
  obtain ⟨a3, b3, c3⟩ := (num_rds l).ok _ _ _ b2 k3
  obtain ⟨a4, b4, c4⟩ := (num_rds l).ok _ _ _ b3 k4
  obtain ⟨a5, b5, c5⟩ := (num_rds l).ok _ _ _ b4 k5
  obtain ⟨a6, b6, c6⟩ := (dig_rds l).ok _ _ _ b5 k6
  obtain ⟨a7, b7, c7⟩ := (list_rds (ref_rds l) _).ok _ _ _ b6 k7
  obtain ⟨a8, b8, c8⟩ := (list_rds (chunk_rds l) _).ok _ _ _ b7 k8
  obtain ⟨a9, b9, c9⟩ := (num_rds l).ok _ _ _ b8 k9
  obtain ⟨a10, b10, c10⟩ := (num_rds l).ok _ _ _ b9 k10
  obtain ⟨a11, b11, c11⟩ := (num_rds l).ok _ _ _ b10 k11
  exact ⟨numAt_i64 b1 k2, numAt_i64 b2 k3, numAt_i64 b3 k4, numAt_i64 b4 k5, numAt_i64 b8 k9, numAt_i64 b9 k10, numAt_i64 b10 k11, numAt_i64 b11 k12, listAt_all (fun p q x hp h => ⟨((ref_rds l).ok p q x hp h).2.1, refAt_num hp h⟩) b6 k7⟩
theorem decE_some {l : List UInt8} {es : List Ent} (h : decE l = some es) : (catFault es).1 = 0 ∧ putL putE es = l ∧ ∀ e ∈ es, EntNum e := by
  unfold decE at h
  split at h
  · cases h
  · rename_i es' q ho
    split at h
    · rename_i hc
      cases h
      obtain ⟨_, _, h3⟩ := (list_rds (ent_rds l) 60).ok _ _ _ (Nat.zero_le _) ho
      refine ⟨hc.2, ?_, listAt_all (fun p q x hp h => ⟨((ent_rds l).ok p q x hp h).2.1, entAt_num hp h⟩) (Nat.zero_le _) ho⟩
      rw [List.drop_zero, hc.1, List.drop_length, List.append_nil] at h3
      exact h3.symm
    · cases h
end Go.Proofs.YtlhgmigoncmcaaaGreat
