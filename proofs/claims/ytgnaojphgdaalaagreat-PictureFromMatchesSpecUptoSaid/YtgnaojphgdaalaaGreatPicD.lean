/-
  Pictures, the reference: the bits of a row that is written (plain).
-/
import Derived.Test.YtgnaojphgdaalaaGreatPicW
import Derived.Test.YtgnaojphgdaalaaGreatPicU
namespace Go.Proofs.YtgnaojphgdaalaaGreat
open Go Go.RowKit

/-- the bit at a place: of the pixels before x all n bits, of pixel x the last k -/
def gAt (n : Nat) (N : Nat → Nat) (x k t : Nat) : Nat := if t < x * n ∨ (x * n + n - k ≤ t ∧ t < x * n + n) then N (t / n) / 2 ^ (n - 1 - t % n) % 2 else 0
theorem gAt_lt (n : Nat) (N : Nat → Nat) (x k t : Nat) : gAt n N x k t < 2 := by unfold gAt; split <;> omega
def bytG (g : Nat → Nat) (k : Nat) : Nat := 128 * g (8 * k) + 64 * g (8 * k + 1) + 32 * g (8 * k + 2) + 16 * g (8 * k + 3) + 8 * g (8 * k + 4) + 4 * g (8 * k + 5) + 2 * g (8 * k + 6) + g (8 * k + 7)
def rowG (g : Nat → Nat) (size : Nat) : List UInt8 := (List.range size).map fun k => UInt8.ofNat (bytG g k)
theorem rowG_len (g : Nat → Nat) (size : Nat) : (rowG g size).length = size := by simp [rowG]
theorem rowG_get {g : Nat → Nat} {size k : Nat} (h : k < size) : z8 (rowG g size) k = UInt8.ofNat (bytG g k) := by
  simp [z8, rowG, h]
theorem gAt_next (n : Nat) (N : Nat → Nat) (x : Nat) : gAt n N x n = gAt n N (x + 1) 0 := by
  funext t
  unfold gAt
  rw [Nat.add_mul, Nat.one_mul]
  by_cases h : t < x * n + n
  · rw [if_pos (by omega), if_pos (by omega)]
  · rw [if_neg (by omega), if_neg (by omega)]
theorem rowG_zero (n : Nat) (N : Nat → Nat) (size : Nat) : (rowG (gAt n N 0 0) size).flatMap byC = List.replicate size (Value.int .u8 0) := by
  have : gAt n N 0 0 = fun _ => 0 := by
    funext t
    unfold gAt
    rw [if_neg (by omega)]
  rw [this]
  have e : rowG (fun _ => 0) size = List.replicate size 0 := by
    unfold rowG
    show (List.range size).map (fun _ => (0 : UInt8)) = _
    rw [List.map_const', List.length_range]
  rw [e, byC_map, List.map_replicate]
  rfl
theorem gAt_step {n : Nat} (N : Nat → Nat) {x k : Nat} (hk : k < n) : gAt n N x k (x * n + (n - 1 - k)) = 0 ∧ ∀ t, gAt n N x (k + 1) t = if t = x * n + (n - 1 - k) then N x / 2 ^ k % 2 else gAt n N x k t := by
  constructor
  · unfold gAt
    rw [if_neg (by omega)]
  · intro t
    by_cases ht : t = x * n + (n - 1 - k)
    · rw [if_pos ht]
      have hd : t / n = x := by
        rw [ht, Nat.mul_comm, Nat.mul_add_div (by omega), Nat.div_eq_of_lt (by omega), Nat.add_zero]
      have hm : t % n = n - 1 - k := by
        rw [ht, Nat.mul_comm, Nat.mul_add_mod, Nat.mod_eq_of_lt (by omega)]
      unfold gAt
      rw [if_pos (by omega), hd, hm, show n - 1 - (n - 1 - k) = k by omega]
    · rw [if_neg ht]
      unfold gAt
      by_cases h : t < x * n ∨ (x * n + n - k ≤ t ∧ t < x * n + n)
      · rw [if_pos h, if_pos (by omega)]
      · rw [if_neg h, if_neg (by omega)]
theorem bytG_step {g g' : Nat → Nat} {t b : Nat} (hg : ∀ t, g t < 2) (h0 : g t = 0) (hb : b < 2) (h : ∀ s, g' s = if s = t then b else g s) : bytG g' (t / 8) = bytG g (t / 8) + b * 2 ^ (7 - t % 8) ∧ bytG g (t / 8) + b * 2 ^ (7 - t % 8) < 256 ∧ ∀ k, k ≠ t / 8 → bytG g' k = bytG g k := by
  have e : t % 8 = 0 ∨ t % 8 = 1 ∨ t % 8 = 2 ∨ t % 8 = 3 ∨ t % 8 = 4 ∨ t % 8 = 5 ∨ t % 8 = 6 ∨ t % 8 = 7 := by omega
  have other : ∀ s, s ≠ t → g' s = g s := fun s hs => by rw [h s, if_neg hs]
  have ho : ∀ i, i < 8 → (t % 8 = i ∧ g' (8 * (t / 8) + i) = b ∧ g (8 * (t / 8) + i) = 0) ∨ (t % 8 ≠ i ∧ g' (8 * (t / 8) + i) = g (8 * (t / 8) + i)) := fun i hi => by
    by_cases q : t % 8 = i
    · left
      have : 8 * (t / 8) + i = t := by omega
      rw [this, h t, if_pos rfl]
      exact ⟨q, rfl, h0⟩
    · right
      exact ⟨q, other _ (by omega)⟩
  obtain ⟨m, hm⟩ : ∃ m, m = 8 * (t / 8) := ⟨_, rfl⟩
  have o0 := ho 0 (by decide); have o1 := ho 1 (by decide); have o2 := ho 2 (by decide); have o3 := ho 3 (by decide)
  have o4 := ho 4 (by decide); have o5 := ho 5 (by decide); have o6 := ho 6 (by decide); have o7 := ho 7 (by decide)
  have q0 := hg (m + 0); have q1 := hg (m + 1); have q2 := hg (m + 2); have q3 := hg (m + 3)
  have q4 := hg (m + 4); have q5 := hg (m + 5); have q6 := hg (m + 6); have q7 := hg (m + 7)
  have f : ∀ u : Nat → Nat, bytG u (t / 8) = 128 * u (m + 0) + 64 * u (m + 1) + 32 * u (m + 2) + 16 * u (m + 3) + 8 * u (m + 4) + 4 * u (m + 5) + 2 * u (m + 6) + u (m + 7) := fun u => by rw [hm]; rfl
  rw [← hm] at o0 o1 o2 o3 o4 o5 o6 o7
  clear ho
  have key : bytG g' (t / 8) = bytG g (t / 8) + b * 2 ^ (7 - t % 8) ∧ bytG g (t / 8) + b * 2 ^ (7 - t % 8) < 256 := by
    rw [f, f]
    clear f
    generalize g' (m + 0) = y0 at *
    generalize g' (m + 1) = y1 at *
    generalize g' (m + 2) = y2 at *
    generalize g' (m + 3) = y3 at *
    generalize g' (m + 4) = y4 at *
    generalize g' (m + 5) = y5 at *
    generalize g' (m + 6) = y6 at *
    generalize g' (m + 7) = y7 at *
    generalize g (m + 0) = x0 at *
    generalize g (m + 1) = x1 at *
    generalize g (m + 2) = x2 at *
    generalize g (m + 3) = x3 at *
    generalize g (m + 4) = x4 at *
    generalize g (m + 5) = x5 at *
    generalize g (m + 6) = x6 at *
    generalize g (m + 7) = x7 at *
    clear hm hg h0 h other
    generalize t % 8 = u at *
    rcases e with e | e | e | e | e | e | e | e <;> subst e <;> simp only [Nat.reducePow, Nat.reduceSub] <;> omega
  refine ⟨key.1, key.2, fun k hk => ?_⟩
  unfold bytG
  rw [other (8 * k) (by omega), other (8 * k + 1) (by omega), other (8 * k + 2) (by omega), other (8 * k + 3) (by omega), other (8 * k + 4) (by omega), other (8 * k + 5) (by omega), other (8 * k + 6) (by omega), other (8 * k + 7) (by omega)]
theorem rowG_step {g g' : Nat → Nat} {t b size : Nat} (hg : ∀ t, g t < 2) (h0 : g t = 0) (hb : b < 2) (h : ∀ s, g' s = if s = t then b else g s) (ht : t / 8 < size) : rowG g' size = (rowG g size).set (t / 8) (UInt8.ofNat (bytG g (t / 8) + b * 2 ^ (7 - t % 8))) := by
  obtain ⟨e1, _, e3⟩ := bytG_step hg h0 hb h
  apply List.ext_getElem?
  intro i
  rw [List.getElem?_set]
  by_cases hi : t / 8 = i
  · rw [if_pos hi, if_pos (by rw [rowG_len]; exact ht), ← hi, ← e1]
    unfold rowG
    rw [List.getElem?_map, List.getElem?_range ht]
    rfl
  · rw [if_neg hi]
    unfold rowG
    rw [List.getElem?_map, List.getElem?_map]
    cases hr : (List.range size)[i]? with
    | none => rfl
    | some k =>
      obtain ⟨hlt, e⟩ := List.getElem?_eq_some_iff.1 hr
      rw [List.getElem_range] at e
      subst e
      simp only [Option.map_some]
      rw [e3 i (fun q => hi q.symm)]
theorem bits_sum : ∀ c : Nat, c < 256 → 128 * (c / 2 ^ (7 - 0) % 2) + 64 * (c / 2 ^ (7 - 1) % 2) + 32 * (c / 2 ^ (7 - 2) % 2) + 16 * (c / 2 ^ (7 - 3) % 2) + 8 * (c / 2 ^ (7 - 4) % 2) + 4 * (c / 2 ^ (7 - 5) % 2) + 2 * (c / 2 ^ (7 - 6) % 2) + c / 2 ^ (7 - 7) % 2 = c := by decide +kernel
/-- a row is told by its bits -/
theorem rowG_bits {g : Nat → Nat} {row : List UInt8} (h : ∀ t, t < 8 * row.length → bitAt row t = g t) : rowG g row.length = row := by
  apply List.ext_getElem?
  intro k
  by_cases hk : k < row.length
  · unfold rowG
    rw [List.getElem?_map, List.getElem?_range hk, List.getElem?_eq_getElem hk]
    simp only [Option.map_some]
    congr 1
    have hz : z8 row k = row[k] := by simp [z8, hk]
    have hlt := (z8 row k).toNat_lt
    rw [← hz]
    apply UInt8.toNat_inj.1
    have hb : bytG g k = (z8 row k).toNat := by
      have f : ∀ i, i < 8 → g (8 * k + i) = (z8 row k).toNat / 2 ^ (7 - i) % 2 := fun i hi => by rw [← h (8 * k + i) (by omega), bitAt_8 row k i hi]
      have e : bytG g k = 128 * g (8 * k + 0) + 64 * g (8 * k + 1) + 32 * g (8 * k + 2) + 16 * g (8 * k + 3) + 8 * g (8 * k + 4) + 4 * g (8 * k + 5) + 2 * g (8 * k + 6) + g (8 * k + 7) := rfl
      rw [e, f 0 (by decide), f 1 (by decide), f 2 (by decide), f 3 (by decide), f 4 (by decide), f 5 (by decide), f 6 (by decide), f 7 (by decide)]
      exact bits_sum _ hlt
    rw [hb, UInt8.toNat_ofNat', Nat.mod_eq_of_lt hlt]
  · rw [List.getElem?_eq_none (by rw [rowG_len]; omega), List.getElem?_eq_none (by omega)]
/-- the number that the reference writes for a pixel -/
def numP (f : Nat) (pal : List Col) (px : List UInt8) (x : Nat) : Nat := if f / 16 = 3 then 65536 * (z8 px (3 * x)).toNat + 256 * (z8 px (3 * x + 1)).toNat + (z8 px (3 * x + 2)).toNat else if f / 16 = 2 then (z8 px (3 * x)).toNat else posC pal (colAt px x)
/-- whether a pixel can be written -/
def numOk (f : Nat) (pal : List Col) (px : List UInt8) (x : Nat) : Prop := if f / 16 = 3 then True else if f / 16 = 2 then z8 px (3 * x) = z8 px (3 * x + 1) ∧ z8 px (3 * x) = z8 px (3 * x + 2) else colAt px x ∈ pal
theorem bits_of_field {n : Nat} {row : List UInt8} {N : Nat → Nat} {w : Nat} (hn : 0 < n) (hN : ∀ x, x < w → fieldN row (x * n) n = N x) (hz : ∀ t, t < 8 * row.length → w * n ≤ t → bitAt row t = 0) : rowG (gAt n N w 0) row.length = row := by
  refine rowG_bits fun t ht => ?_
  unfold gAt
  by_cases h : t < w * n
  · rw [if_pos (.inl h)]
    have hx : t / n < w := (Nat.div_lt_iff_lt_mul hn).2 h
    have hd := Nat.div_add_mod t n
    have hm := Nat.mod_lt t hn
    rw [← hN _ hx]
    have e := bit_of (row := row) (a := t / n * n) (m := n) (j := t % n) hm
    rw [e, Nat.mul_comm, hd]
  · rw [if_neg (by omega), hz t ht (by omega)]
theorem rowG_wr {f w : Nat} {pal : List Col} (hf : f < 64) (hp : PalOk f pal) {px : List UInt8} (hl : px.length = 3 * w) (hok : ∀ x, x < w → numOk f pal px x) : grayOk f w px ∧ wrRow f pal w px = some (rowG (gAt (bitsOf f) (numP f pal px) w 0) (rowOf f w)) := by
  unfold grayOk wrRow
  by_cases h3 : f / 16 = 3
  · have hb := bits_3 h3
    refine ⟨fun h => by omega, ?_⟩
    rw [if_pos h3]
    congr 1
    unfold rowOf
    rw [hb, show (w * 24 + 7) / 8 = px.length by omega]
    refine (bits_of_field (by decide) (fun x hx => ?_) fun t h1 h2 => by omega).symm
    rw [fieldN_24]
    unfold numP
    rw [if_pos h3]
  by_cases h2 : f / 16 = 2
  · have hb := bits_2 h2
    have hg : ∀ i, i < w → z8 px (3 * i) = z8 px (3 * i + 1) ∧ z8 px (3 * i) = z8 px (3 * i + 2) := fun i hi => by
      have := hok i hi
      unfold numOk at this
      rwa [if_neg h3, if_pos h2] at this
    refine ⟨fun _ => hg, ?_⟩
    rw [if_neg h3, if_pos h2]
    congr 1
    have hl2 : ((List.range w).map fun i => z8 px (3 * i)).length = w := by simp
    unfold rowOf
    rw [hb, show (w * 8 + 7) / 8 = w by omega]
    conv => rhs; rw [← hl2]
    rw [hl2]
    have key := bits_of_field (n := 8) (row := (List.range w).map fun i => z8 px (3 * i)) (N := numP f pal px) (w := w) (by decide) (fun x hx => ?_) fun t h1 h2 => by rw [hl2] at h1; omega
    · rw [hl2] at key
      exact key.symm
    · rw [Nat.mul_comm, fieldN_8]
      unfold numP
      rw [if_neg h3, if_pos h2]
      simp [z8, hx]
  refine ⟨fun h => absurd h h2, ?_⟩
  obtain ⟨hn, h32, hm⟩ := bits_small hf h3 h2
  have hin : ∀ i, i < w → colAt px i ∈ pal := fun i hi => by
    have := hok i hi
    unfold numOk at this
    rwa [if_neg h3, if_neg h2] at this
  rw [if_neg h3, if_neg h2, if_pos hin]
  congr 1
  have hple : pal.length ≤ 2 ^ bitsOf f := by
    have := hp.1 h32
    rw [← hm]
    exact this.2.1
  have hq : ∀ i, posAt pal w px i < 2 ^ bitsOf f := fun i => by
    unfold posAt
    split
    · rename_i hi
      have := (posC_le (colAt px i) pal).2.2 (hin i hi)
      omega
    · exact Nat.pow_pos (by decide)
  have hln := packRow_len (bitsOf f) (rowOf f w) (posAt pal w px)
  have hfl : ∀ i, i < 8 * rowOf f w / bitsOf f → fieldN (packRow (bitsOf f) (rowOf f w) (posAt pal w px)) (i * bitsOf f) (bitsOf f) = posAt pal w px i := fun i hi => by
    have := field_pack hn hq hi
    rcases hn with e | e <;> rw [e] at this ⊢
    · rw [fieldN_1, this]
    · rw [fieldN_4, this]
  have hbig : w * bitsOf f ≤ 8 * rowOf f w := by unfold rowOf; omega
  have key := bits_of_field (n := bitsOf f) (row := packRow (bitsOf f) (rowOf f w) (posAt pal w px)) (N := numP f pal px) (w := w) (by omega) (fun x hx => ?_) fun t h1 h3 => ?_
  · rw [hln] at key
    exact key.symm
  · rw [hfl x (by rcases hn with e | e <;> rw [e] at hbig ⊢ <;> omega)]
    unfold posAt numP
    rw [if_pos hx, if_neg h3, if_neg h2]
  · rw [hln] at h1
    have ht : w ≤ t / bitsOf f := (Nat.le_div_iff_mul_le (by omega)).2 h3
    have hi : t / bitsOf f < 8 * rowOf f w / bitsOf f := by rcases hn with e | e <;> rw [e] <;> omega
    have e0 := hfl _ hi
    unfold posAt at e0
    rw [if_neg (by omega)] at e0
    have := fieldN_zero.1 e0 (t % bitsOf f) (Nat.mod_lt _ (by omega))
    rwa [Nat.mul_comm, Nat.div_add_mod] at this
theorem wr_bad {f w : Nat} {pal : List Col} {px : List UInt8} {x : Nat} (hx : x < w) (hno : ¬ numOk f pal px x) : wrRow f pal w px = none ∨ ¬ grayOk f w px := by
  unfold numOk at hno
  by_cases h3 : f / 16 = 3
  · rw [if_pos h3] at hno
    exact absurd trivial hno
  rw [if_neg h3] at hno
  by_cases h2 : f / 16 = 2
  · rw [if_pos h2] at hno
    exact .inr fun h => hno (h h2 x hx)
  · rw [if_neg h2] at hno
    left
    unfold wrRow
    rw [if_neg h3, if_neg h2, if_neg fun h => hno (h x hx)]
theorem turnN_get {f s h : Nat} {d : List UInt8} {y : Nat} (hy : y < h) : ∃ a, a < h ∧ (a : Int) = (if f % 2 = 1 then (h : Int) - 1 - y else y) ∧ (turn f (rowsN s h d))[y]? = some ((d.drop (a * s)).take s) := by
  unfold turn
  split
  · refine ⟨h - 1 - y, by omega, by omega, ?_⟩
    rw [List.getElem?_reverse (by rw [rowsN_len]; exact hy), rowsN_len, rowsN_get (by omega)]
  · exact ⟨y, hy, rfl, rowsN_get hy⟩
end Go.Proofs.YtgnaojphgdaalaaGreat
