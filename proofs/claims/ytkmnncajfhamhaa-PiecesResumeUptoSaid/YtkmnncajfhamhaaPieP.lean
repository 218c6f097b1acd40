/-
  The plain laws of the cut: lengths, join, the front, the way on from a common end.
-/
import Derived.Test.YtkmnncajfhamhaaPieG
namespace Go.Proofs.Ytkmnncajfhamhaa
open Go Go.RowKit

theorem wsum_congr {l l' : List UInt8} {e e' : Nat} : ∀ {k : Nat}, (∀ j, j < k → l[e - 1 - j]? = l'[e' - 1 - j]?) → wsum l e k = wsum l' e' k
  | 0, _ => rfl
  | k + 1, h => by
    simp only [wsum]
    rw [wsum_congr (k := k) (fun j hj => h j (by omega)), h k (by omega)]

/-! ### lengths -/
theorem cutS_open (l : List UInt8) (k : Nat) (hk : k < l.length) : k - (cutS l k).1 ≤ 119 := by
  induction k with
  | zero => simp
  | succ k ih =>
    have := ih (by omega)
    simp only [cutS]
    split
    · simp
    · rename_i h
      have h0 : ¬ (k + 1 - (cutS l k).1 = 120) := by
        intro e
        apply h
        simp [isEndM, e]
      have := cutS_le l k
      omega
theorem cutS_lens (l : List UInt8) (k : Nat) (hk : k ≤ l.length) : ∀ p ∈ (cutS l k).2, p.1 < p.2 ∧ p.2 - p.1 ≤ 120 ∧ (p.2 = l.length ∨ 24 ≤ p.2 - p.1) := by
  induction k with
  | zero => simp [cutS]
  | succ k ih =>
    have ih := ih (by omega)
    have h1 := cutS_open l k (by omega)
    have h2 := cutS_le l k
    simp only [cutS]
    split
    · rename_i h
      intro p hp
      simp only [List.mem_append, List.mem_singleton] at hp
      rcases hp with hp | rfl
      · exact ih p hp
      · dsimp only
        refine ⟨by omega, by omega, ?_⟩
        simp [isEndM] at h
        omega
    · exact ih
theorem cutS_last (l : List UInt8) (k : Nat) : ∀ (i : Nat) (p q : Nat × Nat), (cutS l k).2[i]? = some p → (cutS l k).2[i + 1]? = some q → q.1 = p.2 := by
  intro i p q hp hq
  have := (cutS_link l k).2 i p hp
  rw [hq] at this
  simpa using this
theorem cutS_end (l : List UInt8) : (cutS l l.length).1 = l.length := by
  cases h : l.length with
  | zero => simp [cutS]
  | succ n =>
    simp only [cutS]
    rw [if_pos]
    simp [isEndM, h]
theorem flat_cut (l : List UInt8) (k : Nat) (hk : k ≤ l.length) : ((cutS l k).2.map (partOf l)).flatten = l.take (cutS l k).1 := by
  induction k with
  | zero => simp [cutS]
  | succ k ih =>
    have ih := ih (by omega)
    have h2 := cutS_le l k
    simp only [cutS]
    split
    · simp only [List.map_append, List.flatten_append, ih, List.map_cons, List.map_nil, List.flatten_cons, List.flatten_nil, List.append_nil, partOf]
      have : l.take (cutS l k).1 = (l.take (k + 1)).take (cutS l k).1 := by rw [List.take_take]; congr 1; omega
      rw [this, List.take_append_drop]
    · exact ih
theorem pieces_flat (l : List UInt8) : (piecesS l).flatten = l := by
  have := flat_cut l l.length (Nat.le_refl _)
  rw [cutS_end] at this
  simpa [piecesS] using this
theorem pieces_len {l : List UInt8} {i : Nat} {x : List UInt8} (hx : (piecesS l)[i]? = some x) : 0 < x.length ∧ x.length ≤ 120 ∧ (i + 1 < (piecesS l).length → 24 ≤ x.length) := by
  simp only [piecesS, List.getElem?_map] at hx
  obtain ⟨p, hp, rfl⟩ := Option.map_eq_some_iff.1 hx
  have h1 := cutS_lens l l.length (Nat.le_refl _) p (List.mem_of_getElem? hp)
  have h2 := cutS_in l l.length p (List.mem_of_getElem? hp)
  have e : (partOf l p).length = p.2 - p.1 := by simp [partOf]; omega
  rw [e]
  refine ⟨by omega, by omega, fun h => ?_⟩
  simp only [piecesS, List.length_map] at h
  obtain ⟨q, hq⟩ : ∃ q, (cutS l l.length).2[i + 1]? = some q := ⟨_, List.getElem?_eq_getElem h⟩
  have h3 := cutS_last l l.length i p q hp hq
  have h4 := cutS_lens l l.length (Nat.le_refl _) q (List.mem_of_getElem? hq)
  have h5 := cutS_in l l.length q (List.mem_of_getElem? hq)
  omega

/-! ### the front -/
theorem cutS_front {f a b : List UInt8} (ha : a ≠ []) (hb : b ≠ []) (k : Nat) (hk : k ≤ f.length) : cutS (f ++ a) k = cutS (f ++ b) k := by
  have ha' : 0 < a.length := List.length_pos_iff.2 ha
  have hb' : 0 < b.length := List.length_pos_iff.2 hb
  induction k with
  | zero => rfl
  | succ k ih =>
    have ih := ih (by omega)
    have e : isEndM (f ++ a) (cutS (f ++ b) k).1 (k + 1) = isEndM (f ++ b) (cutS (f ++ b) k).1 (k + 1) := by
      have hw : wsum (f ++ a) (k + 1) 8 = wsum (f ++ b) (k + 1) 8 := wsum_congr fun j _ => by
        rw [List.getElem?_append_left (by omega), List.getElem?_append_left (by omega)]
      simp only [isEndM, hw, List.length_append, show ¬ (k + 1 = f.length + a.length) by omega, show ¬ (k + 1 = f.length + b.length) by omega]
    simp only [cutS, ih, e]
theorem cutS_ext (l : List UInt8) {k n : Nat} (h : k ≤ n) : ∃ t, (cutS l n).2 = (cutS l k).2 ++ t ∧ ∀ p ∈ t, k < p.2 := by
  induction n with
  | zero => rw [show k = 0 by omega]; exact ⟨[], by simp⟩
  | succ n ih =>
    by_cases e : k = n + 1
    · subst e; exact ⟨[], by simp⟩
    · obtain ⟨t, h1, h2⟩ := ih (by omega)
      simp only [cutS]
      split
      · refine ⟨t ++ [((cutS l n).1, n + 1)], by simp [h1], fun p hp => ?_⟩
        simp only [List.mem_append, List.mem_singleton] at hp
        rcases hp with hp | rfl
        · exact h2 p hp
        · dsimp only; omega
      · exact ⟨t, h1, h2⟩
theorem ends_front {f a b : List UInt8} (ha : a ≠ []) (hb : b ≠ []) {i : Nat} {e : Int} (h : (endsS (f ++ a) (f ++ a).length)[i]? = some e) (he : e ≤ f.length) :
    (endsS (f ++ b) (f ++ b).length)[i]? = some e := by
  obtain ⟨t, h1, h2⟩ := cutS_ext (f ++ a) (k := f.length) (n := (f ++ a).length) (by simp)
  obtain ⟨t', h1', h2'⟩ := cutS_ext (f ++ b) (k := f.length) (n := (f ++ b).length) (by simp)
  rw [cutS_front ha hb _ (Nat.le_refl _)] at h1
  simp only [endsS, List.getElem?_map, h1, h1'] at h ⊢
  by_cases hi : i < (cutS (f ++ b) f.length).2.length
  · rw [List.getElem?_append_left hi] at h ⊢
    exact h
  · rw [List.getElem?_append_right (by omega)] at h
    obtain ⟨p, hp, rfl⟩ := Option.map_eq_some_iff.1 h
    have := h2 p (List.mem_of_getElem? hp)
    omega

/-! ### the way on from a common end -/
theorem isEndM_shift {a b t : List UInt8} {q e : Nat} (hq : q ≤ e) (he : 0 < e) : isEndM (a ++ t) (a.length + q) (a.length + e) = isEndM (b ++ t) (b.length + q) (b.length + e) := by
  simp only [isEndM, List.length_append]
  have e1 : decide (a.length + e = a.length + t.length) = decide (b.length + e = b.length + t.length) := by
    by_cases h : e = t.length <;> simp [h]
  rw [e1, show a.length + e - (a.length + q) = e - q by omega, show b.length + e - (b.length + q) = e - q by omega]
  by_cases h24 : 24 ≤ e - q
  · have hw : wsum (a ++ t) (a.length + e) 8 = wsum (b ++ t) (b.length + e) 8 := wsum_congr fun j hj => by
      rw [List.getElem?_append_right (by omega), List.getElem?_append_right (by omega)]
      congr 1
      omega
    rw [hw]
  · simp [h24]
def shiftP (n : Nat) (p : Nat × Nat) : Nat × Nat := (n + p.1, n + p.2)
theorem cutS_sim {a b t : List UInt8} {p q : Nat} (hq : q ≤ p) (ha : (cutS (a ++ t) (a.length + p)).1 = a.length + q) (hb : (cutS (b ++ t) (b.length + p)).1 = b.length + q) : ∀ n, ∃ (q' : Nat) (x : List (Nat × Nat)), q' ≤ p + n ∧
    (cutS (a ++ t) (a.length + p + n)).1 = a.length + q' ∧ (cutS (b ++ t) (b.length + p + n)).1 = b.length + q' ∧
    (cutS (a ++ t) (a.length + p + n)).2 = (cutS (a ++ t) (a.length + p)).2 ++ x.map (shiftP a.length) ∧
    (cutS (b ++ t) (b.length + p + n)).2 = (cutS (b ++ t) (b.length + p)).2 ++ x.map (shiftP b.length) ∧ ∀ r ∈ x, p < r.2
  | 0 => ⟨q, [], by omega, ha, hb, by simp, by simp, by simp⟩
  | n + 1 => by
    obtain ⟨q', x, h0, h1, h2, h3, h4, h5⟩ := cutS_sim hq ha hb n
    have e := isEndM_shift (a := a) (b := b) (t := t) (q := q') (e := p + n + 1) (by omega) (by omega)
    have ea : cutS (a ++ t) (a.length + p + (n + 1)) = if isEndM (a ++ t) (a.length + q') (a.length + (p + n + 1)) then (a.length + (p + n + 1), (cutS (a ++ t) (a.length + p + n)).2 ++ [(a.length + q', a.length + (p + n + 1))]) else cutS (a ++ t) (a.length + p + n) := by
      rw [show a.length + p + (n + 1) = (a.length + p + n) + 1 by omega]
      simp only [cutS, h1, show a.length + (p + n + 1) = a.length + p + n + 1 by omega]
    have eb : cutS (b ++ t) (b.length + p + (n + 1)) = if isEndM (b ++ t) (b.length + q') (b.length + (p + n + 1)) then (b.length + (p + n + 1), (cutS (b ++ t) (b.length + p + n)).2 ++ [(b.length + q', b.length + (p + n + 1))]) else cutS (b ++ t) (b.length + p + n) := by
      rw [show b.length + p + (n + 1) = (b.length + p + n) + 1 by omega]
      simp only [cutS, h2, show b.length + (p + n + 1) = b.length + p + n + 1 by omega]
    rw [ea, eb, ← e]
    split
    · refine ⟨p + n + 1, x ++ [(q', p + n + 1)], by omega, rfl, rfl, ?_, ?_, ?_⟩
      · simp [h3, shiftP]
      · simp [h4, shiftP]
      · intro r hr
        simp only [List.mem_append, List.mem_singleton] at hr
        rcases hr with hr | rfl
        · exact h5 r hr
        · dsimp only; omega
    · exact ⟨q', x, by omega, h1, h2, h3, h4, h5⟩
theorem cutS_mem {l : List UInt8} {n s e : Nat} (h : (s, e) ∈ (cutS l n).2) : (cutS l e).1 = e := by
  induction n with
  | zero => simp [cutS] at h
  | succ n ih =>
    simp only [cutS] at h
    split at h
    · rename_i hh
      simp only [List.mem_append, List.mem_singleton] at h
      rcases h with h | h
      · exact ih h
      · obtain ⟨h1, h2⟩ := Prod.mk.inj h
        subst h2
        simp [cutS, hh]
    · exact ih h
/-- the ends from a place on, counted from a start -/
def tailE (E : List Int) (A at_ : Int) : List Int := (E.filter fun v => decide (at_ ≤ v - A)).map fun v => v - A
theorem tailE_append (E F : List Int) (A p : Int) : tailE (E ++ F) A p = tailE E A p ++ tailE F A p := by simp [tailE]
theorem tailE_cut {l : List UInt8} {n p : Nat} (he : (cutS l (n + p)).1 = n + p) (h0 : 0 < n + p) : tailE (endsS l (n + p)) n p = [(p : Int)] := by
  obtain ⟨k, hk⟩ : ∃ k, n + p = k + 1 := ⟨n + p - 1, by omega⟩
  rw [hk] at he ⊢
  simp only [endsS, cutS] at he ⊢
  have hle := cutS_le l k
  split at he
  · rename_i hh
    rw [if_pos hh]
    simp only [List.map_append, tailE_append, List.map_cons, List.map_nil]
    have e1 : tailE ((cutS l k).2.map fun p => (p.2 : Int)) n p = [] := by
      simp only [tailE, List.map_eq_nil_iff, List.filter_eq_nil_iff]
      intro v hv
      obtain ⟨r, hr, rfl⟩ := List.mem_map.1 hv
      have := cutS_in l k r hr
      simp
      omega
    rw [e1]
    simp only [tailE, List.nil_append, List.filter_cons]
    rw [if_pos (by simp; omega)]
    simp
    omega
  · omega
theorem resume {a b t : List UInt8} {p : Nat} (ha : ((a.length + p : Nat) : Int) ∈ endsS (a ++ t) (a ++ t).length) (hb : ((b.length + p : Nat) : Int) ∈ endsS (b ++ t) (b ++ t).length) :
    tailE (endsS (a ++ t) (a ++ t).length) a.length p = tailE (endsS (b ++ t) (b ++ t).length) b.length p := by
  obtain ⟨ra, hra, hea⟩ := List.mem_map.1 ha
  obtain ⟨rb, hrb, heb⟩ := List.mem_map.1 hb
  have la := cutS_in _ _ ra hra
  have lb := cutS_in _ _ rb hrb
  have na := cutS_lens _ _ (Nat.le_refl _) ra hra
  have nb := cutS_lens _ _ (Nat.le_refl _) rb hrb
  obtain ⟨sa, ea⟩ := ra
  obtain ⟨sb, eb⟩ := rb
  dsimp only at hea heb la lb na nb
  have ea' : ea = a.length + p := by omega
  have eb' : eb = b.length + p := by omega
  subst ea' eb'
  have ma := cutS_mem hra
  have mb := cutS_mem hrb
  simp only [List.length_append] at la lb
  obtain ⟨q', x, h0, h1, h2, h3, h4, h5⟩ := cutS_sim (a := a) (b := b) (t := t) (p := p) (q := p) (Nat.le_refl _) ma mb (t.length - p)
  rw [show a.length + p + (t.length - p) = (a ++ t).length by simp; omega] at h3
  rw [show b.length + p + (t.length - p) = (b ++ t).length by simp; omega] at h4
  have key : ∀ (c : List UInt8), (c.length + p : Nat) = c.length + p → (cutS (c ++ t) (c ++ t).length).2 = (cutS (c ++ t) (c.length + p)).2 ++ x.map (shiftP c.length) → (cutS (c ++ t) (c.length + p)).1 = c.length + p → 0 < c.length + p → tailE (endsS (c ++ t) (c ++ t).length) c.length p = (p : Int) :: x.map fun r => (r.2 : Int) := by
    intro c _ hc hm hp
    have := tailE_cut hm hp
    simp only [endsS] at this ⊢
    rw [hc, List.map_append, tailE_append, this]
    simp only [List.singleton_append, List.cons.injEq, true_and]
    simp only [tailE, List.map_map]
    rw [List.filter_eq_self.2]
    · rw [List.map_map]
      apply List.map_congr_left
      intro r _
      simp only [Function.comp, shiftP, Int.natCast_add]
      omega
    · intro v hv
      obtain ⟨r, hr, rfl⟩ := List.mem_map.1 hv
      have := h5 r hr
      refine decide_eq_true ?_
      show (p : Int) ≤ ((c.length + r.2 : Nat) : Int) - (c.length : Int)
      omega
  rw [key a rfl h3 ma (by omega), key b rfl h4 mb (by omega)]
theorem ends_last {l : List UInt8} (h : l ≠ []) : (l.length : Int) ∈ endsS l l.length := by
  obtain ⟨n, hn⟩ : ∃ n, l.length = n + 1 := ⟨l.length - 1, by have := List.length_pos_iff.2 h; omega⟩
  have e : isEndM l (cutS l n).1 (n + 1) = true := by simp [isEndM, hn]
  rw [hn]
  simp [endsS, cutS, e]
theorem ends_bd {l : List UInt8} {e : Int} (h : e ∈ endsS l l.length) : 1 ≤ e ∧ e ≤ l.length := by
  obtain ⟨r, hr, rfl⟩ := List.mem_map.1 h
  have h1 := cutS_in _ _ r hr
  have h2 := cutS_lens _ _ (Nat.le_refl _) r hr
  omega
end Go.Proofs.Ytkmnncajfhamhaa
