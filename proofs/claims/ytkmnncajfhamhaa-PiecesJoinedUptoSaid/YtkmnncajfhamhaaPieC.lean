/-
  slices.Clone, Join, Ints, Chunks, mayEnd, Ends, Pieces.
-/
import Derived.Test.YtkmnncajfhamhaaPieA
import Derived.Test.YtkmnncajfhamhaaPieB
namespace Go.Proofs.Ytkmnncajfhamhaa
open Go Go.RowKit

theorem Fresh.grew {w1 w' : World} {s s' : Sl} {B : Nat} (h : s.a = none ∨ B ≤ ablk s.a) (hB : B ≤ w1.heap.size) (hg : Grew w1 s w' s') : s'.a = none ∨ B ≤ ablk s'.a := by
  rcases hg.own with h1 | ⟨h1, h2⟩ | h1
  · exact .inl h1
  · exact .inr (by rw [h2]; exact h.resolve_left h1)
  · exact .inr (Nat.le_trans hB h1)
theorem clone_bytes {w : World} {x : Sl} {l : List UInt8} (hx : By w x l) (hl : l.length ≤ 1099511627776) : Ret Try.prog 21 [x.v].toArray w fun v w' => ∃ s : Sl, v = s.v ∧ NBy w.heap.size w' s l ∧ Ext w w' := by
  refine cal_of_vc tabOk Try.func21 rfl (by kernel_rfl) 8 rfl (by simp) [0, 2, 4] ?_
  rcases x with ⟨_ | p, n, c⟩
  · (conv => whnf)
    have hl0 : l = [] := by
      rcases l with _ | ⟨b, l⟩
      · rfl
      · have := hx.cells.1 (by simp)
        simp [Plain] at this
    subst hl0
    exact ⟨⟨none, 0, 0⟩, rfl, ⟨Row.nil _ _ _, .inl rfl⟩, Ext.refl _⟩
  · (conv => whnf)
    intro w1 b h1
    (conv => whnf)
    refine app_bytes (s := ⟨some ⟨b, 0, none⟩, 0, 0⟩) (xs := []) (Row.mk1 (n := 0) h1.blk (by simp) (by simp [maxLen])) (hx.ext h1.ext) (by simp; omega) ?_
    intro s' w2 hr hg
    have hs := h1.size
    have hn := h1.num
    (conv => whnf)
    refine ⟨s', rfl, ⟨hr, Fresh.grew (.inr (by show _ ≤ b; omega)) (by omega) hg⟩, h1.ext.trans' (hg.below (by omega) (.inr (by show _ ≤ b; omega)))⟩
theorem join_ref {w : World} {x y : Sl} {a b : List UInt8} (hx : By w x a) (hy : By w y b) (hl : a.length + b.length ≤ 1099511627776) : Ret Try.prog 17 [x.v, y.v].toArray w fun v w' => ∃ s : Sl, v = s.v ∧ NBy w.heap.size w' s (a ++ b) ∧ Ext w w' := by
  refine cal_of_vc tabOk Try.func17 rfl (by kernel_rfl) 9 rfl (by simp) [0, 1, 4] ?_
  (conv => whnf)
  refine (copy_ref hx (by omega)).use ?_
  rintro v w1 ⟨s, rfl, hs, he⟩
  (conv => whnf)
  refine app_bytes (s := s) hs.row (hy.ext he) hl ?_
  intro s' w2 hr hg
  (conv => whnf)
  have := he.size
  exact ⟨s', rfl, ⟨hr, Fresh.grew hs.new (by omega) hg⟩, he.trans' (hg.below (by omega) hs.new)⟩
theorem ints_ref {w : World} {x y : Sl} {a b : List Int} (hx : In w x a) (hy : In w y b) (ha : a.length ≤ 1099511627776) : Ret Try.prog 12 [x.v, y.v].toArray w fun v w' => v = .bool (decide (a = b)) ∧ Ext w w' := by
  have h1 := hx.len
  have h2 := hy.len
  refine cal_of_vc tabOk Try.func12 rfl (by kernel_rfl) 26 rfl (by simp) [0, 1, 4, 5, 10, 14, 25] ?_
  (conv => whnf)
  refine condG_dec (fun h => ?_) (fun h => ?_)
  · (conv => whnf)
    refine ⟨?_, Ext.refl _⟩
    have : a ≠ b := by intro e; subst e; omega
    simp [this]
  (conv => whnf)
  refine loop_inv tabOk [0, 1, 10] (fun k : Nat => [(5, .int .i64 k)]) (fun k w' => k ≤ a.length ∧ (∀ j, j < k → a[j]? = b[j]?) ∧ Ext w w') (fun k _ => a.length - k) 0 ?_
  (conv => whnf)
  refine ⟨(by repeat (first | exact trivial | refine ⟨rfl, ?_⟩)), ⟨by omega, by omega, Ext.refl _⟩, ?_⟩
  rintro k w1 ⟨hk, hj, he⟩
  (conv => whnf)
  refine condG_dec (fun h4 => ?_) (fun h4 => ?_)
  · have hka : k < a.length := by omega
    have hkb : k < b.length := by omega
    (conv => whnf)
    refine draw_vc tabOk mixed [] [0, 1, 2, 3, 4, 5, 6, 7, 8] (by kernel_rfl) ?_
    intro w2 hd
    ((repeat ((conv => whnf); refine And.intro (by omega) ?_)); (conv => whnf))
    refine ⟨hx.plain hka, ?_⟩
    (conv => whnf)
    refine ⟨_, ((hx.ext he).ext hd.ext).cell hka, ?_⟩
    ((repeat ((conv => whnf); refine And.intro (by omega) ?_)); (conv => whnf))
    refine ⟨hy.plain hkb, ?_⟩
    (conv => whnf)
    refine ⟨_, ((hy.ext he).ext hd.ext).cell hkb, ?_⟩
    (conv => whnf)
    refine condG_dec (fun h5 => ?_) (fun h5 => ?_)
    · (conv => whnf)
      refine ⟨?_, he.trans hd.ext⟩
      have : a ≠ b := by
        intro e; subst e
        exact h5 rfl
      simp [this]
    · ((repeat ((conv => whnf); refine And.intro (by omega) ?_)); (conv => whnf))
      refine ⟨rfl, (by repeat (first | exact trivial | refine ⟨rfl, ?_⟩)), k + 1, (by repeat (first | exact trivial | refine ⟨rfl, ?_⟩)), ⟨by omega, ?_, he.trans hd.ext⟩, by omega⟩
      intro j hjk
      by_cases e : j = k
      · subst e
        simp only [hka, hkb, List.getElem?_eq_getElem]
        exact congrArg some (Decidable.of_not_not h5)
      · exact hj j (by omega)
  · (conv => whnf)
    refine ⟨?_, he⟩
    have hkl : k = a.length := by omega
    have : a = b := by
      apply List.ext_getElem?
      intro j
      by_cases hjl : j < k
      · exact hj j hjl
      · rw [List.getElem?_eq_none (by omega), List.getElem?_eq_none (by omega)]
    simp [this]
end Go.Proofs.Ytkmnncajfhamhaa
