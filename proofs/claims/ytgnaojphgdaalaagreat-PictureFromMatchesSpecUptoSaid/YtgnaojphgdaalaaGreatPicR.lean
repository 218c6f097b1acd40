/-
  Pictures, plain: palettes, pixels, the rows of a file.
-/
import Derived.Test.YtgnaojphgdaalaaGreatLibE
import Derived.Test.YtgnaojphgdaalaaGreatPicP
import Derived.Test.YtgnaojphgdaalaaGreatPicA
import Derived.Test.YtgnaojphgdaalaaGreatPicE
namespace Go.Proofs.YtgnaojphgdaalaaGreat
open Go Go.RowKit

abbrev Col := UInt8 × UInt8 × UInt8
abbrev colL (c : Col) : List UInt8 := [c.1, c.2.1, c.2.2]
abbrev colsL (p : List Col) : List UInt8 := p.flatMap colL
def colsOf : List UInt8 → List Col
  | r :: g :: b :: l => (r, g, b) :: colsOf l
  | _ => []
theorem colsOf_L : ∀ p : List Col, colsOf (colsL p) = p
  | [] => rfl
  | c :: p => by
    show (c.1, c.2.1, c.2.2) :: colsOf (colsL p) = c :: p
    rw [colsOf_L p]
theorem colsL_of : ∀ (n : Nat) {l : List UInt8}, l.length = 3 * n → colsL (colsOf l) = l ∧ (colsOf l).length = n
  | 0, [], _ => ⟨rfl, rfl⟩
  | 0, _ :: _, h => by simp at h
  | n + 1, [], h => by first | (simp at h; omega) | simp at h
  | n + 1, [_], h => by first | (simp at h; omega) | simp at h
  | n + 1, [_, _], h => by first | (simp at h; omega) | simp at h
  | n + 1, r :: g :: b :: l, h => by
    obtain ⟨k1, k2⟩ := colsL_of n (l := l) (by simp at h; omega)
    show [r, g, b] ++ colsL (colsOf l) = _ ∧ (colsOf l).length + 1 = _
    rw [k1, k2]
    exact ⟨rfl, rfl⟩
theorem colsL_len (p : List Col) : (colsL p).length = 3 * p.length := by
  induction p with
  | nil => rfl
  | cons c p ih => simp only [colsL, List.flatMap_cons, List.length_append, List.length_cons, List.length_nil] at ih ⊢; omega
abbrev z8 (l : List UInt8) (i : Nat) : UInt8 := l[i]?.getD 0
abbrev colAt (l : List UInt8) (i : Nat) : Col := (z8 l (3 * i), z8 l (3 * i + 1), z8 l (3 * i + 2))
theorem colAt_of (l : List UInt8) : ∀ (n : Nat), l.length = 3 * n → colsOf l = (List.range n).map (colAt l) := by
  intro n
  induction n generalizing l with
  | zero => intro h; rw [List.eq_nil_of_length_eq_zero (l := l) (by omega)]; rfl
  | succ n ih =>
    intro h
    match l, h with
    | r :: g :: b :: l, h =>
      rw [List.range_succ_eq_map, List.map_cons, List.map_map]
      show (r, g, b) :: colsOf l = _
      rw [ih l (by simp at h; omega)]
      congr 1
    | [], h => first | (simp at h; omega) | simp at h
    | [_], h => first | (simp at h; omega) | simp at h
    | [_, _], h => first | (simp at h; omega) | simp at h
/-- the place of a color -/
def posC : List Col → Col → Nat
  | [], _ => 0
  | x :: l, c => if x = c then 0 else posC l c + 1
theorem posC_le (c : Col) : ∀ l, posC l c ≤ l.length ∧ (posC l c < l.length ↔ c ∈ l)
  | [] => ⟨Nat.le_refl _, by simp [posC]⟩
  | x :: l => by
    obtain ⟨k1, k2⟩ := posC_le c l
    unfold posC
    split
    · rename_i h; subst h; simp
    · rename_i h
      refine ⟨by simp; omega, ?_⟩
      rw [List.length_cons, Nat.succ_lt_succ_iff, k2, List.mem_cons]
      exact ⟨.inr, fun q => q.resolve_left fun e => h e.symm⟩
theorem posC_get {c : Col} : ∀ {l : List Col}, c ∈ l → l[posC l c]? = some c
  | x :: l, h => by
    unfold posC
    split
    · rename_i e; subst e; rfl
    · rename_i e
      rw [List.getElem?_cons_succ]
      exact posC_get ((List.mem_cons.1 h).resolve_left fun q => e q.symm)
theorem posC_at : ∀ {l : List Col} {i : Nat} {c : Col}, l.Nodup → l[i]? = some c → posC l c = i
  | x :: l, 0, c, _, h => by
    simp at h; subst h
    unfold posC
    rw [if_pos rfl]
  | x :: l, i + 1, c, hn, h => by
    rw [List.getElem?_cons_succ] at h
    obtain ⟨h1, h2⟩ := List.nodup_cons.1 hn
    unfold posC
    rw [if_neg (fun e => h1 (by rw [e]; exact List.mem_of_getElem? h)), posC_at h2 h]
/-! ### palettes -/
def mostP (f : Nat) : Nat := if f / 16 = 1 then 16 else 2
def okPal (f : Nat) (l : List UInt8) (n : Nat) : Prop := 1 ≤ n ∧ n ≤ mostP f ∧ 3 * n ≤ l.length ∧ (colsOf (l.take (3 * n))).Nodup
instance (f : Nat) (l : List UInt8) (n : Nat) : Decidable (okPal f l n) := by unfold okPal; infer_instance
def palR (f : Nat) : List UInt8 → Option (List Col × List UInt8)
  | [] => none
  | c :: l => if okPal f l c.toNat then some (colsOf (l.take (3 * c.toNat)), l.drop (3 * c.toNat)) else none
def styR (f : Nat) (b : List UInt8) : Option (List Col × List UInt8) := if f < 32 then palR f b else some ([], b)
def palB (p : List Col) : List UInt8 := UInt8.ofNat p.length :: colsL p
/-- the palette in a file and in a residue -/
def styB (f : Nat) (p : List Col) : List UInt8 := if f < 32 then palB p else []
structure PalOk (f : Nat) (p : List Col) : Prop where
  ind : f < 32 → 1 ≤ p.length ∧ p.length ≤ mostP f ∧ p.Nodup
  non : 32 ≤ f → p = []
theorem mostP_le (f : Nat) : mostP f ≤ 16 := by unfold mostP; split <;> omega
theorem PalOk.le {f : Nat} {p : List Col} (h : PalOk f p) : p.length ≤ 16 := by
  by_cases hf : f < 32
  · have := h.ind hf; have := mostP_le f; omega
  · rw [h.non (by omega)]; simp
theorem palR_some {f : Nat} {b l : List UInt8} {p : List Col} (h : palR f b = some (p, l)) : b = palB p ++ l ∧ 1 ≤ p.length ∧ p.length ≤ mostP f ∧ p.Nodup := by
  cases b with
  | nil => cases h
  | cons c r =>
    unfold palR at h
    simp only at h
    by_cases hk : okPal f r c.toNat
    · rw [if_pos hk] at h
      obtain ⟨h1, h2, h3, h4⟩ := hk
      cases h
      obtain ⟨k1, k2⟩ := colsL_of c.toNat (l := r.take (3 * c.toNat)) (by rw [List.length_take]; omega)
      refine ⟨?_, by rw [k2]; exact h1, by rw [k2]; exact h2, h4⟩
      unfold palB
      rw [k1, k2, List.cons_append, List.take_append_drop]
      congr 1
      exact (UInt8.ofNat_toNat).symm
    · rw [if_neg hk] at h
      cases h
theorem palR_of {f : Nat} {p : List Col} (l : List UInt8) (h : 1 ≤ p.length ∧ p.length ≤ mostP f ∧ p.Nodup) : palR f (palB p ++ l) = some (p, l) := by
  have hm := mostP_le f
  have e : (UInt8.ofNat p.length).toNat = p.length := by rw [UInt8.toNat_ofNat']; omega
  have e1 : (colsL p ++ l).take (3 * p.length) = colsL p := by rw [← colsL_len, List.take_left]
  have e2 : (colsL p ++ l).drop (3 * p.length) = l := by rw [← colsL_len, List.drop_left]
  show (if okPal f (colsL p ++ l) (UInt8.ofNat p.length).toNat then some (colsOf ((colsL p ++ l).take (3 * (UInt8.ofNat p.length).toNat)), (colsL p ++ l).drop (3 * (UInt8.ofNat p.length).toNat)) else none) = _
  rw [e, e1, e2, colsOf_L, if_pos]
  refine ⟨h.1, h.2.1, by rw [List.length_append, colsL_len]; omega, ?_⟩
  rw [e1, colsOf_L]
  exact h.2.2
theorem styR_some {f : Nat} {b l : List UInt8} {p : List Col} (h : styR f b = some (p, l)) : b = styB f p ++ l ∧ PalOk f p := by
  unfold styR at h
  unfold styB
  split at h
  · rename_i hf
    rw [if_pos hf]
    obtain ⟨k1, k2⟩ := palR_some h
    exact ⟨k1, fun _ => k2, fun q => by omega⟩
  · rename_i hf
    rw [if_neg hf]
    cases h
    exact ⟨rfl, fun q => absurd q hf, fun _ => rfl⟩
theorem styR_of {f : Nat} {p : List Col} (l : List UInt8) (h : PalOk f p) : styR f (styB f p ++ l) = some (p, l) := by
  unfold styR styB
  split
  · rename_i hf
    exact palR_of l (h.ind hf)
  · rename_i hf
    rw [h.non (by omega)]
    rfl
theorem styB_len {f : Nat} {p : List Col} (h : PalOk f p) : (styB f p).length ≤ 49 := by
  have := h.le
  unfold styB palB
  split
  · rw [List.length_cons, colsL_len]; omega
  · simp
/-! ### pixels of n bits -/
def fieldAt (n : Nat) (row : List UInt8) (i : Nat) : Nat := (z8 row (i * n / 8)).toNat / 2 ^ (8 - n - i * n % 8) % 2 ^ n
def byteOf (n : Nat) (q : Nat → Nat) (k : Nat) : Nat := if n = 4 then 16 * q (2 * k) + q (2 * k + 1)
  else 128 * q (8 * k) + 64 * q (8 * k + 1) + 32 * q (8 * k + 2) + 16 * q (8 * k + 3) + 8 * q (8 * k + 4) + 4 * q (8 * k + 5) + 2 * q (8 * k + 6) + q (8 * k + 7)
theorem byteOf_lt {n : Nat} (hn : n = 1 ∨ n = 4) {q : Nat → Nat} (hq : ∀ i, q i < 2 ^ n) (k : Nat) : byteOf n q k < 256 := by
  unfold byteOf
  rcases hn with rfl | rfl
  · have := hq (8 * k); have := hq (8 * k + 1); have := hq (8 * k + 2); have := hq (8 * k + 3); have := hq (8 * k + 4); have := hq (8 * k + 5); have := hq (8 * k + 6); have := hq (8 * k + 7)
    rw [if_neg (by decide)]
    omega
  · have := hq (2 * k); have := hq (2 * k + 1)
    rw [if_pos rfl]
    omega
def packRow (n size : Nat) (q : Nat → Nat) : List UInt8 := (List.range size).map fun k => UInt8.ofNat (byteOf n q k)
theorem packRow_len (n size : Nat) (q : Nat → Nat) : (packRow n size q).length = size := by simp [packRow]
theorem packRow_get {n size : Nat} {q : Nat → Nat} {k : Nat} (hk : k < size) : z8 (packRow n size q) k = UInt8.ofNat (byteOf n q k) := by
  simp [z8, packRow, List.getElem?_map, List.getElem?_range hk]
theorem field_pack {n size : Nat} (hn : n = 1 ∨ n = 4) {q : Nat → Nat} (hq : ∀ i, q i < 2 ^ n) {i : Nat} (hi : i < 8 * size / n) : fieldAt n (packRow n size q) i = q i := by
  have hb := byteOf_lt hn hq (i * n / 8)
  unfold fieldAt
  rcases hn with rfl | rfl
  · rw [packRow_get (by omega), UInt8.toNat_ofNat', Nat.mod_eq_of_lt hb]
    unfold byteOf
    rw [if_neg (by decide), Nat.mul_one]
    obtain ⟨k, hk⟩ : ∃ k, k = i / 8 := ⟨_, rfl⟩
    have g0 := hq (8 * k); have g1 := hq (8 * k + 1); have g2 := hq (8 * k + 2); have g3 := hq (8 * k + 3); have g4 := hq (8 * k + 4); have g5 := hq (8 * k + 5); have g6 := hq (8 * k + 6); have g7 := hq (8 * k + 7)
    rw [← hk]
    have hc : i % 8 = 0 ∨ i % 8 = 1 ∨ i % 8 = 2 ∨ i % 8 = 3 ∨ i % 8 = 4 ∨ i % 8 = 5 ∨ i % 8 = 6 ∨ i % 8 = 7 := by omega
    rcases hc with h | h | h | h | h | h | h | h <;> rw [h]
    · rw [show i = 8 * k by omega]; simp only [Nat.reducePow, Nat.reduceSub] at *; omega
    · rw [show i = 8 * k + 1 by omega]; simp only [Nat.reducePow, Nat.reduceSub] at *; omega
    · rw [show i = 8 * k + 2 by omega]; simp only [Nat.reducePow, Nat.reduceSub] at *; omega
    · rw [show i = 8 * k + 3 by omega]; simp only [Nat.reducePow, Nat.reduceSub] at *; omega
    · rw [show i = 8 * k + 4 by omega]; simp only [Nat.reducePow, Nat.reduceSub] at *; omega
    · rw [show i = 8 * k + 5 by omega]; simp only [Nat.reducePow, Nat.reduceSub] at *; omega
    · rw [show i = 8 * k + 6 by omega]; simp only [Nat.reducePow, Nat.reduceSub] at *; omega
    · rw [show i = 8 * k + 7 by omega]; simp only [Nat.reducePow, Nat.reduceSub] at *; omega
  · rw [packRow_get (by omega), UInt8.toNat_ofNat', Nat.mod_eq_of_lt hb]
    unfold byteOf
    rw [if_pos rfl]
    obtain ⟨k, hk⟩ : ∃ k, k = i * 4 / 8 := ⟨_, rfl⟩
    have g0 := hq (2 * k); have g1 := hq (2 * k + 1)
    rw [← hk]
    have hc : i * 4 % 8 = 0 ∨ i * 4 % 8 = 4 := by omega
    rcases hc with h | h <;> rw [h]
    · rw [show i = 2 * k by omega]; simp only [Nat.reducePow, Nat.reduceSub] at *; omega
    · rw [show i = 2 * k + 1 by omega]; simp only [Nat.reducePow, Nat.reduceSub] at *; omega
theorem fieldAt_lt (n : Nat) (row : List UInt8) (i : Nat) : fieldAt n row i < 2 ^ n := Nat.mod_lt _ (Nat.pow_pos (by decide))
theorem pack_field {n : Nat} (hn : n = 1 ∨ n = 4) (row : List UInt8) : packRow n row.length (fieldAt n row) = row := by
  refine List.ext_getElem? fun k => ?_
  by_cases hk : k < row.length
  rotate_left
  · rw [List.getElem?_eq_none (by rw [packRow_len]; omega), List.getElem?_eq_none (by omega)]
  have e : ∀ l : List UInt8, k < l.length → l[k]? = some (z8 l k) := fun l h => by simp [z8, List.getElem?_eq_getElem h]
  rw [e _ (by rw [packRow_len]; exact hk), e row hk, packRow_get hk]
  congr 1
  apply UInt8.toNat_inj.1
  have hc := (z8 row k).toNat_lt
  rw [UInt8.toNat_ofNat']
  have key : byteOf n (fieldAt n row) k = (z8 row k).toNat := by
    unfold byteOf fieldAt
    rcases hn with rfl | rfl
    · rw [if_neg (by decide)]
      simp only [Nat.mul_one, show 8 * k / 8 = k by omega, show (8 * k + 1) / 8 = k by omega, show (8 * k + 2) / 8 = k by omega, show (8 * k + 3) / 8 = k by omega, show (8 * k + 4) / 8 = k by omega, show (8 * k + 5) / 8 = k by omega, show (8 * k + 6) / 8 = k by omega, show (8 * k + 7) / 8 = k by omega,
        show 8 * k % 8 = 0 by omega, show (8 * k + 1) % 8 = 1 by omega, show (8 * k + 2) % 8 = 2 by omega, show (8 * k + 3) % 8 = 3 by omega, show (8 * k + 4) % 8 = 4 by omega, show (8 * k + 5) % 8 = 5 by omega, show (8 * k + 6) % 8 = 6 by omega, show (8 * k + 7) % 8 = 7 by omega]
      simp only [Nat.reducePow, Nat.reduceSub]
      omega
    · rw [if_pos rfl]
      simp only [show 2 * k * 4 / 8 = k by omega, show (2 * k + 1) * 4 / 8 = k by omega, show 2 * k * 4 % 8 = 0 by omega, show (2 * k + 1) * 4 % 8 = 4 by omega]
      simp only [Nat.reducePow, Nat.reduceSub]
      omega
  rw [key]
  omega
/-! ### a row -/
abbrev colN (pal : List Col) (k : Nat) : Col := pal[k]?.getD (0, 0, 0)
def rowOk (n : Nat) (pal : List Col) (w : Nat) (row : List UInt8) : Prop := (∀ i, i < w → fieldAt n row i < pal.length) ∧ ∀ i, i < 8 * row.length / n → w ≤ i → fieldAt n row i = 0
instance (n : Nat) (pal : List Col) (w : Nat) (row : List UInt8) : Decidable (rowOk n pal w row) := by unfold rowOk; infer_instance
def pixAt (n : Nat) (pal : List Col) (row : List UInt8) (i : Nat) : Col := colN pal (fieldAt n row i)
def rowPix (f : Nat) (pal : List Col) (w : Nat) (row : List UInt8) : Option (List UInt8) :=
  if f / 16 = 3 then some row else if f / 16 = 2 then some (row.flatMap fun c => [c, c, c]) else if rowOk (bitsOf f) pal w row then some (colsL ((List.range w).map (pixAt (bitsOf f) pal row))) else none
def posAt (pal : List Col) (w : Nat) (px : List UInt8) (i : Nat) : Nat := if i < w then posC pal (colAt px i) else 0
def wrRow (f : Nat) (pal : List Col) (w : Nat) (px : List UInt8) : Option (List UInt8) :=
  if f / 16 = 3 then some px else if f / 16 = 2 then some ((List.range w).map fun i => z8 px (3 * i)) else if ∀ i, i < w → colAt px i ∈ pal then some (packRow (bitsOf f) (rowOf f w) (posAt pal w px)) else none
/-- the pixels of gray are gray -/
def grayOk (f w : Nat) (px : List UInt8) : Prop := f / 16 = 2 → ∀ i, i < w → z8 px (3 * i) = z8 px (3 * i + 1) ∧ z8 px (3 * i) = z8 px (3 * i + 2)
instance (f w : Nat) (px : List UInt8) : Decidable (grayOk f w px) := by unfold grayOk; infer_instance
theorem bits_small {f : Nat} (hf : f < 64) (h3 : f / 16 ≠ 3) (h2 : f / 16 ≠ 2) : (bitsOf f = 1 ∨ bitsOf f = 4) ∧ f < 32 ∧ mostP f = 2 ^ bitsOf f := by
  unfold bitsOf mostP
  split
  · exact ⟨.inl rfl, by omega, by rw [if_neg (by omega)]⟩
  · split
    · exact ⟨.inr rfl, by omega, rfl⟩
    · omega
theorem flat_map3 (l : List UInt8) : (l.flatMap fun c => [c, c, c]) = colsL ((List.range l.length).map fun i => (z8 l i, z8 l i, z8 l i)) := by
  induction l with
  | nil => rfl
  | cons c l ih =>
    rw [List.length_cons, List.range_succ_eq_map, List.map_cons, List.map_map, List.flatMap_cons, ih]
    rfl
theorem z8_colsL (p : List Col) (i : Nat) (hi : i < p.length) : colAt (colsL p) i = p[i] := by
  have h := colAt_of (colsL p) p.length (colsL_len p)
  rw [colsOf_L] at h
  have := congrArg (fun l => l[i]?) h
  simp only [List.getElem?_map, List.getElem?_range hi, List.getElem?_eq_getElem hi, Option.map_some] at this
  exact (Option.some.inj this).symm
theorem colsL_at (px : List UInt8) (w : Nat) (h : px.length = 3 * w) : colsL ((List.range w).map (colAt px)) = px := by
  rw [← colAt_of px w h]
  exact (colsL_of w h).1
/-- a row that is read is written as it was -/
theorem wr_rowPix {f w : Nat} {pal : List Col} (hf : f < 64) (hp : PalOk f pal) {row px : List UInt8} (hl : row.length = rowOf f w) (h : rowPix f pal w row = some px) : px.length = 3 * w ∧ grayOk f w px ∧ wrRow f pal w px = some row := by
  unfold rowPix at h
  unfold wrRow
  split at h
  · rename_i h3
    cases h
    have : bitsOf f = 24 := by unfold bitsOf; rw [if_neg (by omega), if_neg (by omega), if_neg (by omega)]
    unfold rowOf at hl
    rw [this] at hl
    refine ⟨by omega, fun q => by omega, by rw [if_pos h3]⟩
  · rename_i h3
    split at h
    · rename_i h2
      cases h
      have : bitsOf f = 8 := by unfold bitsOf; rw [if_neg (by omega), if_neg (by omega), if_pos h2]
      unfold rowOf at hl
      rw [this] at hl
      have hw : row.length = w := by omega
      rw [flat_map3]
      have at3 : ∀ i, i < w → colAt (colsL ((List.range row.length).map fun i => (z8 row i, z8 row i, z8 row i))) i = (z8 row i, z8 row i, z8 row i) := by
        intro i hi
        rw [z8_colsL _ i (by simp; omega)]
        simp
      refine ⟨by rw [colsL_len, List.length_map, List.length_range, hw], fun _ i hi => ?_, ?_⟩
      · have := at3 i hi
        simp only [colAt, Prod.mk.injEq] at this
        obtain ⟨a, b, c⟩ := this
        rw [a, b, c]
        exact ⟨rfl, rfl⟩
      · rw [if_neg h3, if_pos h2]
        congr 1
        refine List.ext_getElem? fun k => ?_
        by_cases hk : k < w
        · rw [List.getElem?_map, List.getElem?_range hk]
          have := at3 k hk
          simp only [colAt, Prod.mk.injEq] at this
          simp only [Option.map_some]
          rw [this.1]
          simp [z8, List.getElem?_eq_getElem (show k < row.length by omega)]
        · rw [List.getElem?_eq_none (by simp; omega), List.getElem?_eq_none (by omega)]
    · rename_i h2
      split at h
      · rename_i hok
        cases h
        obtain ⟨hn, h32, hm⟩ := bits_small hf h3 h2
        obtain ⟨p1, p2, p3⟩ := hp.ind h32
        have ca : ∀ i, i < w → colAt (colsL ((List.range w).map (pixAt (bitsOf f) pal row))) i = pixAt (bitsOf f) pal row i := fun i hi => by
          rw [z8_colsL _ i (by simp; omega)]; simp
        have cp : ∀ i, i < w → pal[fieldAt (bitsOf f) row i]? = some (pixAt (bitsOf f) pal row i) := fun i hi => by
          unfold pixAt colN
          rw [List.getElem?_eq_getElem (hok.1 i hi)]
          rfl
        refine ⟨by rw [colsL_len, List.length_map, List.length_range], fun q => absurd q h2, ?_⟩
        rw [if_neg h3, if_neg h2, if_pos (fun i hi => by rw [ca i hi]; exact List.mem_of_getElem? (cp i hi))]
        congr 1
        rw [← hl]
        conv => rhs; rw [← pack_field hn row]
        unfold packRow
        refine List.map_congr_left fun k hk => ?_
        have hk := List.mem_range.1 hk
        have q : ∀ i, i < 8 * row.length / bitsOf f → posAt pal w (colsL ((List.range w).map (pixAt (bitsOf f) pal row))) i = fieldAt (bitsOf f) row i := by
          intro i hi
          unfold posAt
          split
          · rename_i hiw
            rw [ca i hiw]
            exact posC_at p3 (cp i hiw)
          · rename_i hiw
            exact (hok.2 i hi (by omega)).symm
        congr 1
        unfold byteOf
        rcases hn with e | e
        · rw [e] at q ⊢
          rw [if_neg (by decide), if_neg (by decide), q _ (by omega), q _ (by omega), q _ (by omega), q _ (by omega), q _ (by omega), q _ (by omega), q _ (by omega), q _ (by omega)]
        · rw [e] at q ⊢
          rw [if_pos rfl, if_pos rfl, q _ (by omega), q _ (by omega)]
      · cases h
/-- a row that is written is read as it was -/
theorem rowPix_wr {f w : Nat} {pal : List Col} (hf : f < 64) (hp : PalOk f pal) {row px : List UInt8} (hl : px.length = 3 * w) (hg : grayOk f w px) (h : wrRow f pal w px = some row) : row.length = rowOf f w ∧ rowPix f pal w row = some px := by
  unfold wrRow at h
  unfold rowPix
  split at h
  · rename_i h3
    cases h
    have : bitsOf f = 24 := by unfold bitsOf; rw [if_neg (by omega), if_neg (by omega), if_neg (by omega)]
    unfold rowOf
    rw [this]
    exact ⟨by omega, by rw [if_pos h3]⟩
  · rename_i h3
    split at h
    · rename_i h2
      cases h
      have : bitsOf f = 8 := by unfold bitsOf; rw [if_neg (by omega), if_neg (by omega), if_pos h2]
      unfold rowOf
      rw [this]
      refine ⟨by simp; omega, ?_⟩
      rw [if_neg h3, if_pos h2, flat_map3]
      congr 1
      conv => rhs; rw [← colsL_at px w hl]
      rw [List.length_map, List.length_range]
      congr 1
      refine List.map_congr_left fun i hi => ?_
      have hi := List.mem_range.1 hi
      obtain ⟨g1, g2⟩ := hg h2 i hi
      have : z8 ((List.range w).map fun i => z8 px (3 * i)) i = z8 px (3 * i) := by simp [z8, List.getElem?_map, List.getElem?_range hi]
      rw [this]
      simp only [colAt]
      rw [← g1, ← g2]
    · rename_i h2
      split at h
      · rename_i hok
        cases h
        obtain ⟨hn, h32, hm⟩ := bits_small hf h3 h2
        obtain ⟨p1, p2, p3⟩ := hp.ind h32
        have hq : ∀ i, posAt pal w px i < 2 ^ bitsOf f := by
          intro i
          unfold posAt
          split
          · rename_i hi
            have := (posC_le (colAt px i) pal).2.2 (hok i hi)
            omega
          · exact Nat.pow_pos (by decide)
        have room : w ≤ 8 * rowOf f w / bitsOf f := by
          unfold rowOf
          rcases hn with e | e <;> rw [e] <;> omega
        have fa : ∀ i, i < 8 * rowOf f w / bitsOf f → fieldAt (bitsOf f) (packRow (bitsOf f) (rowOf f w) (posAt pal w px)) i = posAt pal w px i := fun i hi => field_pack hn hq hi
        refine ⟨packRow_len .., ?_⟩
        rw [if_neg h3, if_neg h2, if_pos]
        · congr 1
          conv => rhs; rw [← colsL_at px w hl]
          congr 1
          refine List.map_congr_left fun i hi => ?_
          have hi := List.mem_range.1 hi
          unfold pixAt
          rw [fa i (by omega)]
          unfold posAt
          rw [if_pos hi]
          unfold colN
          rw [posC_get (hok i hi)]
          rfl
        · refine ⟨fun i hi => ?_, fun i hi hw => ?_⟩
          · rw [fa i (by omega)]
            unfold posAt
            rw [if_pos hi]
            exact (posC_le _ _).2.2 (hok i hi)
          · rw [packRow_len] at hi
            rw [fa i hi]
            unfold posAt
            rw [if_neg (by omega)]
      · cases h
end Go.Proofs.YtgnaojphgdaalaaGreat
