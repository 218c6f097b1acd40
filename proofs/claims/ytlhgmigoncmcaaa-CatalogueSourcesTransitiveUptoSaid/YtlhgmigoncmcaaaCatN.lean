/-
  Plain facts on what an entry comes from.
-/
import Derived.Test.YtlhgmigoncmcaaaCatK
namespace Go.Proofs.Ytlhgmigoncmcaaa
open Go Go.RowKit

theorem comes_bounds {l : List Ent} {i j : Nat} (h : comes l i j = true) : i < l.length ∧ j < l.length := by
  unfold comes at h
  by_cases hi : i < l.length
  · refine ⟨hi, ?_⟩
    rw [rowsU_at hi, Option.getD_some] at h
    by_cases hj : j < l.length
    · exact hj
    · rw [List.getElem?_eq_none (by rw [rowOf_len]; omega)] at h
      cases h
  · have e : (rowsU l l.length)[i]? = none := List.getElem?_eq_none (by rw [rowsU_len]; omega)
    rw [e] at h
    simp at h
theorem comes_iff {l : List Ent} (hcyc : ∀ i, i < l.length → cycleAt l i = false) {i j : Nat} (hi : i < l.length) (hj : j < l.length) : comes l i j = true ↔ ∃ r ∈ l[i].sources, ∃ k, place l r = some k ∧ k < i ∧ (k = j ∨ comes l k j = true) := by
  rw [comes_eq hi hj, List.any_eq_true]
  have key : ∀ r ∈ l[i].sources, ∀ k, place l r = some k → k < i ∧ ((rowsU l i)[k]?.getD [])[j]?.getD false = comes l k j := by
    intro r hr k hk
    have h1 := hcyc i hi
    simp only [cycleAt, hi, List.getElem?_eq_getElem, Option.getD_some, List.any_eq_false] at h1
    have h2 := h1 r hr
    simp only [cycR, hk, decide_eq_true_eq] at h2
    have hki : k < i := by omega
    refine ⟨hki, ?_⟩
    rw [comes, rowsU_get (show k < i from hki) (show i ≤ l.length by omega)]
  constructor
  · rintro ⟨r, hr, ho⟩
    unfold orgR at ho
    cases hk : place l r with
    | none => rw [hk] at ho; cases ho
    | some k =>
      obtain ⟨h1, h2⟩ := key r hr k hk
      rw [hk] at ho
      simp only [h2, Bool.or_eq_true, decide_eq_true_eq] at ho
      exact ⟨r, hr, k, hk, h1, ho⟩
  · rintro ⟨r, hr, k, hk, h1, ho⟩
    refine ⟨r, hr, ?_⟩
    unfold orgR
    rw [hk]
    simp only [(key r hr k hk).2, Bool.or_eq_true, decide_eq_true_eq]
    exact ho
theorem comes_lt {l : List Ent} (hcyc : ∀ i, i < l.length → cycleAt l i = false) : ∀ {i j : Nat}, comes l i j = true → j < i := by
  intro i
  induction i using Nat.strongRecOn with
  | ind i ih =>
    intro j h
    obtain ⟨hi, hj⟩ := comes_bounds h
    obtain ⟨r, hr, k, hk, h1, h2⟩ := (comes_iff hcyc hi hj).1 h
    rcases h2 with rfl | h2
    · exact h1
    · have := ih k h1 h2; omega
theorem comes_trans {l : List Ent} (hcyc : ∀ i, i < l.length → cycleAt l i = false) : ∀ {i j m : Nat}, comes l i j = true → comes l j m = true → comes l i m = true := by
  intro i
  induction i using Nat.strongRecOn with
  | ind i ih =>
    intro j m h g
    obtain ⟨hi, hj⟩ := comes_bounds h
    obtain ⟨_, hm⟩ := comes_bounds g
    obtain ⟨r, hr, k, hk, h1, h2⟩ := (comes_iff hcyc hi hj).1 h
    refine (comes_iff hcyc hi hm).2 ⟨r, hr, k, hk, h1, .inr ?_⟩
    rcases h2 with rfl | h2
    · exact g
    · exact ih k h1 h2 g
end Go.Proofs.Ytlhgmigoncmcaaa
