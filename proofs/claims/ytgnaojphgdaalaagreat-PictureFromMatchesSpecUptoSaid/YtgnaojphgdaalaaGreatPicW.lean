/-
  Pictures, plain: the reference's way to read pixels.
-/
import Derived.Test.YtgnaojphgdaalaaGreatPicR
namespace Go.Proofs.YtgnaojphgdaalaaGreat
open Go Go.RowKit

abbrev bitAt (row : List UInt8) (i : Nat) : Nat := (z8 row (i / 8)).toNat / 2 ^ (7 - i % 8) % 2
/-- the number in m bits from a on -/
def fieldN (row : List UInt8) (a : Nat) : Nat → Nat
  | 0 => 0
  | k + 1 => 2 * fieldN row a k + bitAt row (a + k)
theorem bitAt_lt (row : List UInt8) (i : Nat) : bitAt row i < 2 := Nat.mod_lt _ (by decide)
theorem fieldN_lt (row : List UInt8) (a : Nat) : ∀ m, fieldN row a m < 2 ^ m
  | 0 => by simp [fieldN]
  | m + 1 => by
    have := fieldN_lt row a m
    have := bitAt_lt row (a + m)
    unfold fieldN
    rw [Nat.pow_succ]
    omega
theorem fieldN_zero {row : List UInt8} {a : Nat} : ∀ {m : Nat}, fieldN row a m = 0 ↔ ∀ j, j < m → bitAt row (a + j) = 0
  | 0 => by simp [fieldN]
  | m + 1 => by
    unfold fieldN
    constructor
    · intro h j hj
      by_cases e : j = m
      · rw [e]; omega
      · exact (fieldN_zero (m := m)).1 (by omega) j (by omega)
    · intro h
      rw [(fieldN_zero (m := m)).2 fun j hj => h j (by omega), h m (by omega)]
theorem bit_of {row : List UInt8} {a m j : Nat} (hj : j < m) : fieldN row a m / 2 ^ (m - 1 - j) % 2 = bitAt row (a + j) := by
  induction m with
  | zero => omega
  | succ m ih =>
    have hb := bitAt_lt row (a + m)
    unfold fieldN
    by_cases e : j = m
    · subst e
      rw [show j + 1 - 1 - j = 0 by omega, Nat.pow_zero, Nat.div_one]
      omega
    · have := ih (by omega)
      rw [show m + 1 - 1 - j = (m - 1 - j) + 1 by omega, Nat.pow_succ, Nat.mul_comm (2 ^ (m - 1 - j)) 2, ← Nat.div_div_eq_div_mul, show (2 * fieldN row a m + bitAt row (a + m)) / 2 = fieldN row a m by omega]
      exact this
theorem fieldN_add (row : List UInt8) (a m : Nat) : ∀ n, fieldN row a (m + n) = fieldN row a m * 2 ^ n + fieldN row (a + m) n
  | 0 => by simp [fieldN]
  | n + 1 => by
    have := fieldN_add row a m n
    show 2 * fieldN row a (m + n) + bitAt row (a + (m + n)) = _ * 2 ^ (n + 1) + (2 * fieldN row (a + m) n + bitAt row (a + m + n))
    rw [this, Nat.pow_succ, Nat.add_assoc a m n, Nat.mul_add, ← Nat.mul_assoc, ← Nat.mul_assoc, Nat.mul_comm 2 (fieldN row a m)]
    have := Nat.mul_right_comm (fieldN row a m) 2 (2 ^ n)
    omega
theorem bitAt_8 (row : List UInt8) (k j : Nat) (hj : j < 8) : bitAt row (8 * k + j) = (z8 row k).toNat / 2 ^ (7 - j) % 2 := by
  unfold bitAt
  rw [show (8 * k + j) / 8 = k by omega, show (8 * k + j) % 8 = j by omega]
theorem fieldN_8 (row : List UInt8) (k : Nat) : fieldN row (8 * k) 8 = (z8 row k).toNat := by
  have hc := (z8 row k).toNat_lt
  simp only [fieldN]
  rw [bitAt_8 row k 0 (by decide), bitAt_8 row k 1 (by decide), bitAt_8 row k 2 (by decide), bitAt_8 row k 3 (by decide), bitAt_8 row k 4 (by decide), bitAt_8 row k 5 (by decide), bitAt_8 row k 6 (by decide), bitAt_8 row k 7 (by decide)]
  simp only [Nat.reducePow, Nat.reduceSub]
  omega
theorem fieldN_24 (row : List UInt8) (k : Nat) : fieldN row (k * 24) 24 = 65536 * (z8 row (3 * k)).toNat + 256 * (z8 row (3 * k + 1)).toNat + (z8 row (3 * k + 2)).toNat := by
  have e1 := fieldN_add row (k * 24) 8 16
  have e2 := fieldN_add row (k * 24 + 8) 8 8
  rw [show k * 24 = 8 * (3 * k) by omega, fieldN_8] at e1
  rw [show k * 24 + 8 = 8 * (3 * k + 1) by omega, show 8 * (3 * k + 1) + 8 = 8 * (3 * k + 2) by omega, fieldN_8, fieldN_8] at e2
  rw [show k * 24 = 8 * (3 * k) by omega]
  rw [show 8 * (3 * k) + 8 = 8 * (3 * k + 1) by omega] at e1
  simp only [Nat.reducePow, Nat.reduceAdd] at e1 e2
  omega
theorem fieldN_1 (row : List UInt8) (i : Nat) : fieldN row (i * 1) 1 = fieldAt 1 row i := by
  simp only [fieldN, fieldAt, bitAt, Nat.mul_one, Nat.add_zero]
  rw [show 8 - 1 - i % 8 = 7 - i % 8 by omega]
  simp
theorem fieldN_4 (row : List UInt8) (i : Nat) : fieldN row (i * 4) 4 = fieldAt 4 row i := by
  have hc := (z8 row (i * 4 / 8)).toNat_lt
  simp only [fieldN, fieldAt]
  obtain ⟨k, hk⟩ : ∃ k, k = i * 4 / 8 := ⟨_, rfl⟩
  have h : i * 4 % 8 = 0 ∨ i * 4 % 8 = 4 := by omega
  rw [← hk] at hc ⊢
  rcases h with h | h
  · rw [h, show i * 4 = 8 * k by omega, bitAt_8 row k 0 (by decide), bitAt_8 row k 1 (by decide), bitAt_8 row k 2 (by decide), bitAt_8 row k 3 (by decide)]
    simp only [Nat.reducePow, Nat.reduceSub]
    omega
  · rw [h, show i * 4 = 8 * k + 4 by omega, show 8 * k + 4 + 0 = 8 * k + 4 by omega, show 8 * k + 4 + 1 = 8 * k + 5 by omega, show 8 * k + 4 + 2 = 8 * k + 6 by omega, show 8 * k + 4 + 3 = 8 * k + 7 by omega, bitAt_8 row k 4 (by decide), bitAt_8 row k 5 (by decide), bitAt_8 row k 6 (by decide), bitAt_8 row k 7 (by decide)]
    simp only [Nat.reducePow, Nat.reduceSub]
    omega
/-- the bytes of a pixel -/
def colG (f : Nat) (pal : List Col) (row : List UInt8) (x : Nat) : Option (List UInt8) :=
  if f / 16 = 3 then some [z8 row (3 * x), z8 row (3 * x + 1), z8 row (3 * x + 2)] else if f / 16 = 2 then some [z8 row x, z8 row x, z8 row x]
  else if fieldAt (bitsOf f) row x < pal.length then some (colL (pixAt (bitsOf f) pal row x)) else none
/-- what follows the pixels of a row -/
def restN (f w : Nat) (row : List UInt8) : Nat := fieldN row (w * bitsOf f) (8 * rowOf f w - w * bitsOf f)
theorem bits_3 {f : Nat} (h : f / 16 = 3) : bitsOf f = 24 := by unfold bitsOf; rw [if_neg (by omega), if_neg (by omega), if_neg (by omega)]
theorem bits_2 {f : Nat} (h : f / 16 = 2) : bitsOf f = 8 := by unfold bitsOf; rw [if_neg (by omega), if_neg (by omega), if_pos h]
theorem allM_map {α β γ : Type} {g : β → Option γ} {h : α → β} : ∀ (l : List α), allM g (l.map h) = allM (fun x => g (h x)) l
  | [] => rfl
  | a :: l => by
    show (match g (h a), allM g (l.map h) with | some y, some ys => some (y :: ys) | _, _ => none) = _
    rw [allM_map l]
    rfl
theorem allM_total {α β : Type} {g : α → Option β} {k : α → β} : ∀ {l : List α}, (∀ x ∈ l, g x = some (k x)) → allM g l = some (l.map k)
  | [], _ => rfl
  | a :: l, h => by
    unfold allM
    rw [h a (by simp), allM_total fun x hx => h x (by simp [hx])]
    rfl
theorem rowPix_ref {f w : Nat} {pal : List Col} (hf : f < 64) {row : List UInt8} (hl : row.length = rowOf f w) : rowPix f pal w row = match allM (colG f pal row) (List.range w) with
    | none => none
    | some cs => if restN f w row = 0 then some cs.flatten else none := by
  have flat : ∀ k : Nat → List UInt8, ((List.range w).map k).flatten = (List.range w).flatMap k := fun k => rfl
  unfold rowPix
  by_cases h3 : f / 16 = 3
  · have hb := bits_3 h3
    unfold rowOf at hl
    rw [hb] at hl
    rw [if_pos h3, allM_total (k := fun x => [z8 row (3 * x), z8 row (3 * x + 1), z8 row (3 * x + 2)]) fun x _ => by unfold colG; rw [if_pos h3]]
    simp only
    rw [if_pos, flat]
    · congr 1
      conv => lhs; rw [← colsL_at row w (by omega)]
      simp only [colsL, List.flatMap_map]
    · unfold restN rowOf
      rw [hb, show 8 * ((w * 24 + 7) / 8) - w * 24 = 0 by omega]
      rfl
  rw [if_neg h3]
  by_cases h2 : f / 16 = 2
  · have hb := bits_2 h2
    unfold rowOf at hl
    rw [hb] at hl
    rw [if_pos h2, allM_total (k := fun x => [z8 row x, z8 row x, z8 row x]) fun x _ => by unfold colG; rw [if_neg h3, if_pos h2]]
    simp only
    rw [if_pos, flat]
    · congr 1
      rw [flat_map3, show row.length = w by omega]
      simp only [colsL, List.flatMap_map]
    · unfold restN rowOf
      rw [hb, show 8 * ((w * 8 + 7) / 8) - w * 8 = 0 by omega]
      rfl
  rw [if_neg h2]
  obtain ⟨hn, h32, hm⟩ := bits_small hf h3 h2
  have hrest : restN f w row = 0 ↔ ∀ i, i < 8 * row.length / bitsOf f → w ≤ i → fieldAt (bitsOf f) row i = 0 := by
    unfold restN
    rw [fieldN_zero]
    have hsz : 8 * rowOf f w = 8 * row.length := by rw [hl]
    have hbig : w * bitsOf f ≤ 8 * row.length := by
      rw [hl]
      unfold rowOf
      omega
    rw [hsz]
    rcases hn with e | e <;> rw [e] at hbig ⊢
    · constructor
      · intro h i hi hw
        have := h (i - w) (by omega)
        rw [show w * 1 + (i - w) = i by omega] at this
        rw [← fieldN_1, fieldN_zero]
        intro j hj
        rw [show i * 1 + j = i by omega]
        exact this
      · intro h j hj
        have := h (w + j) (by omega) (by omega)
        rw [← fieldN_1, fieldN_zero] at this
        have := this 0 (by decide)
        rw [show (w + j) * 1 + 0 = w * 1 + j by omega] at this
        exact this
    · constructor
      · intro h i hi hw
        rw [← fieldN_4, fieldN_zero]
        intro j hj
        have := h (i * 4 + j - w * 4) (by omega)
        rw [show w * 4 + (i * 4 + j - w * 4) = i * 4 + j by omega] at this
        exact this
      · intro h j hj
        have := h ((w * 4 + j) / 4) (by omega) (by omega)
        rw [← fieldN_4, fieldN_zero] at this
        have := this ((w * 4 + j) % 4) (by omega)
        rw [show (w * 4 + j) / 4 * 4 + (w * 4 + j) % 4 = w * 4 + j by omega] at this
        exact this
  by_cases hall : ∀ i, i < w → fieldAt (bitsOf f) row i < pal.length
  · rw [allM_total (k := fun x => colL (pixAt (bitsOf f) pal row x)) fun x hx => by unfold colG; rw [if_neg h3, if_neg h2, if_pos (hall x (List.mem_range.1 hx))]]
    simp only
    rw [flat]
    by_cases hz : restN f w row = 0
    · rw [if_pos hz, if_pos ⟨hall, hrest.1 hz⟩]
      simp only [colsL, List.flatMap_map]
    · rw [if_neg hz, if_neg fun h => hz (hrest.2 h.2)]
  · rw [if_neg fun h => hall h.1]
    have : ∃ i, i < w ∧ ¬ fieldAt (bitsOf f) row i < pal.length := Decidable.byContradiction fun h => hall fun i hi => Decidable.byContradiction fun h2 => h ⟨i, hi, h2⟩
    obtain ⟨i, hi, hni⟩ := this
    rw [allM_none (List.mem_range.2 hi) (by unfold colG; rw [if_neg h3, if_neg h2, if_neg hni])]
end Go.Proofs.YtgnaojphgdaalaaGreat
