/-
  Text files: plain facts: characters, units, line ends.
-/
import Derived.Test.YtgnaojphgdaalaaDoorGetA
import Derived.Test.YtgnaojphgdaalaaDoorValP
namespace Go.Proofs.YtgnaojphgdaalaaDoor
open Go Go.RowKit

/-! ### characters -/
def isCh (c : Nat) : Prop := c < 55296 ∨ (57343 < c ∧ c < 1114112)
instance (c : Nat) : Decidable (isCh c) := by unfold isCh; infer_instance
def u8c (c : Nat) : List UInt8 :=
  if c < 128 then [UInt8.ofNat c] else if c < 2048 then [UInt8.ofNat (192 + c / 64), UInt8.ofNat (128 + c % 64)]
  else if c < 65536 then [UInt8.ofNat (224 + c / 4096), UInt8.ofNat (128 + c / 64 % 64), UInt8.ofNat (128 + c % 64)]
  else [UInt8.ofNat (240 + c / 262144), UInt8.ofNat (128 + c / 4096 % 64), UInt8.ofNat (128 + c / 64 % 64), UInt8.ofNat (128 + c % 64)]
def u8n (c : Nat) : Nat := if c < 128 then 1 else if c < 2048 then 2 else if c < 65536 then 3 else 4
theorem u8c_len (c : Nat) : (u8c c).length = u8n c := by
  unfold u8c u8n
  split
  · rfl
  · split
    · rfl
    · split <;> rfl
theorem u8n_le (c : Nat) : 1 ≤ u8n c ∧ u8n c ≤ 4 := by
  unfold u8n
  split
  · omega
  · split
    · omega
    · split <;> omega
/-- how many bytes a first byte announces -/
def widC (a : Nat) : Nat := if a < 128 then 1 else if a < 192 then 0 else if a < 224 then 2 else if a < 240 then 3 else 4
def headC (a : Nat) : Nat := if a < 128 then a else if a < 192 then 0 else if a < 224 then a - 192 else if a < 240 then a - 224 else a - 240
def accC (l : List UInt8) (c0 : Nat) : Nat → Nat
  | 0 => c0
  | k + 1 => 64 * accC l c0 k + (at8 l (k + 1) - 128)
theorem acc0 (l : List UInt8) (c : Nat) : accC l c 0 = c := rfl
theorem acc1 (l : List UInt8) (c : Nat) : accC l c 1 = 64 * c + (at8 l 1 - 128) := rfl
theorem acc2 (l : List UInt8) (c : Nat) : accC l c 2 = 64 * (64 * c + (at8 l 1 - 128)) + (at8 l 2 - 128) := rfl
theorem acc3 (l : List UInt8) (c : Nat) : accC l c 3 = 64 * (64 * (64 * c + (at8 l 1 - 128)) + (at8 l 2 - 128)) + (at8 l 3 - 128) := rfl
abbrev tail8 (l : List UInt8) (i : Nat) : Prop := 128 ≤ at8 l i ∧ at8 l i < 192
/-- the first n bytes are those of a character c -/
structure ChOk (l : List UInt8) (c n : Nat) : Prop where
  pos : 0 < n
  le : n ≤ l.length
  tl : ∀ j, j < n → 0 < j → tail8 l j
  ch : isCh c
  sh : u8n c = n
instance (l : List UInt8) (c n : Nat) : Decidable (ChOk l c n) := decidable_of_iff (0 < n ∧ n ≤ l.length ∧ (∀ j, j < n → 0 < j → tail8 l j) ∧ isCh c ∧ u8n c = n) ⟨fun ⟨a, b, c, d, e⟩ => ⟨a, b, c, d, e⟩, fun ⟨a, b, c, d, e⟩ => ⟨a, b, c, d, e⟩⟩
def rawC (l : List UInt8) : Nat := accC l (headC (at8 l 0)) (widC (at8 l 0) - 1)
def chAt (l : List UInt8) : Option (Nat × Nat) := if ChOk l (rawC l) (widC (at8 l 0)) then some (rawC l, widC (at8 l 0)) else none
theorem u8_eq {a : UInt8} {n : Nat} (h : n = a.toNat) : UInt8.ofNat n = a := by rw [h]; exact UInt8.ofNat_toNat
theorem cons_of {α : Type} {l : List α} (h : 1 ≤ l.length) : ∃ a r, l = a :: r := by
  cases l with
  | nil => simp at h
  | cons a r => exact ⟨a, r, rfl⟩
theorem chAt_some {l : List UInt8} {c n : Nat} (h : chAt l = some (c, n)) : isCh c ∧ u8n c = n ∧ n ≤ l.length ∧ l.take n = u8c c := by
  unfold chAt at h
  split at h
  rotate_left
  · cases h
  rename_i hk
  simp only [Option.some.injEq, Prod.mk.injEq] at h
  obtain ⟨h1, h2⟩ := h
  rw [h1, h2] at hk
  obtain ⟨p0, p1, p2, p3, p4⟩ := hk
  refine ⟨p3, p4, p1, ?_⟩
  unfold rawC at h1
  rw [h2] at h1
  unfold u8n at p4
  match l, p1 with
  | [], p1 => rw [List.length_nil] at p1; omega
  | a :: r, p1 =>
    have ha := a.toNat_lt
    have e0 : at8 (a :: r) 0 = a.toNat := rfl
    rw [e0] at h1 h2
    have hn : n = 1 ∨ n = 2 ∨ n = 3 ∨ n = 4 := by unfold widC at h2; split at h2 <;> (try split at h2) <;> (try split at h2) <;> (try split at h2) <;> omega
    rcases hn with rfl | rfl | rfl | rfl
    · rw [acc0] at h1
      unfold widC at h2
      unfold headC at h1
      unfold u8c
      have : a.toNat < 128 := by
        split at h2
        · assumption
        · split at h2
          · omega
          · split at h2
            · omega
            · split at h2 <;> omega
      rw [if_pos this] at h1
      rw [if_pos (by omega)]
      show [a] = _
      rw [u8_eq h1.symm]
    · obtain ⟨b, r, rfl⟩ := cons_of (show 1 ≤ r.length by rw [List.length_cons] at p1; omega)
      · have hb := b.toNat_lt
        obtain ⟨t1, t2⟩ := p2 1 (by decide) (by decide)
        have e1 : at8 (a :: b :: r) 1 = b.toNat := rfl
        rw [e1] at t1 t2
        rw [show 2 - 1 = 1 from rfl, acc1, e1] at h1
        have hh : 192 ≤ a.toNat ∧ a.toNat < 224 := by
          unfold widC at h2
          split at h2
          · omega
          · split at h2
            · omega
            · split at h2
              · omega
              · split at h2 <;> omega
        unfold headC at h1
        rw [if_neg (by omega), if_neg (by omega), if_pos (by omega)] at h1
        have hc : 128 ≤ c ∧ c < 2048 := by
          split at p4
          · omega
          · split at p4
            · omega
            · split at p4 <;> omega
        unfold u8c
        rw [if_neg (by omega), if_pos (by omega), u8_eq (a := a) (by omega), u8_eq (a := b) (by omega)]
        rfl
    · obtain ⟨b, r, rfl⟩ := cons_of (show 1 ≤ r.length by rw [List.length_cons] at p1; omega)
      obtain ⟨d, r, rfl⟩ := cons_of (show 1 ≤ r.length by rw [List.length_cons, List.length_cons] at p1; omega)
      · have hb := b.toNat_lt
        obtain ⟨t1, t2⟩ := p2 1 (by decide) (by decide)
        obtain ⟨t3, t4⟩ := p2 2 (by decide) (by decide)
        have e1 : at8 (a :: b :: d :: r) 1 = b.toNat := rfl
        have e2 : at8 (a :: b :: d :: r) 2 = d.toNat := rfl
        rw [e1] at t1 t2
        rw [e2] at t3 t4
        rw [show 3 - 1 = 2 from rfl, acc2, e1, e2] at h1
        have hh : 224 ≤ a.toNat ∧ a.toNat < 240 := by
          unfold widC at h2
          split at h2
          · omega
          · split at h2
            · omega
            · split at h2
              · omega
              · split at h2 <;> omega
        unfold headC at h1
        rw [if_neg (by omega), if_neg (by omega), if_neg (by omega), if_pos (by omega)] at h1
        have hc : 2048 ≤ c ∧ c < 65536 := by
          split at p4
          · omega
          · split at p4
            · omega
            · split at p4 <;> omega
        unfold u8c
        rw [if_neg (by omega), if_neg (by omega), if_pos (by omega), u8_eq (a := a) (by omega), u8_eq (a := b) (by omega), u8_eq (a := d) (by omega)]
        rfl
    · obtain ⟨b, r, rfl⟩ := cons_of (show 1 ≤ r.length by rw [List.length_cons] at p1; omega)
      obtain ⟨d, r, rfl⟩ := cons_of (show 1 ≤ r.length by rw [List.length_cons, List.length_cons] at p1; omega)
      obtain ⟨e, r, rfl⟩ := cons_of (show 1 ≤ r.length by rw [List.length_cons, List.length_cons, List.length_cons] at p1; omega)
      · obtain ⟨t1, t2⟩ := p2 1 (by decide) (by decide)
        obtain ⟨t3, t4⟩ := p2 2 (by decide) (by decide)
        obtain ⟨t5, t6⟩ := p2 3 (by decide) (by decide)
        have e1 : at8 (a :: b :: d :: e :: r) 1 = b.toNat := rfl
        have e2 : at8 (a :: b :: d :: e :: r) 2 = d.toNat := rfl
        have e3 : at8 (a :: b :: d :: e :: r) 3 = e.toNat := rfl
        rw [e1] at t1 t2
        rw [e2] at t3 t4
        rw [e3] at t5 t6
        rw [show 4 - 1 = 3 from rfl, acc3, e1, e2, e3] at h1
        have hh : 240 ≤ a.toNat := by
          unfold widC at h2
          split at h2
          · omega
          · split at h2
            · omega
            · split at h2
              · omega
              · split at h2 <;> omega
        unfold headC at h1
        rw [if_neg (by omega), if_neg (by omega), if_neg (by omega), if_neg (by omega)] at h1
        have hc : 65536 ≤ c := by
          split at p4
          · omega
          · split at p4
            · omega
            · split at p4 <;> omega
        unfold isCh at p3
        unfold u8c
        rw [if_neg (by omega), if_neg (by omega), if_neg (by omega), u8_eq (a := a) (by omega), u8_eq (a := b) (by omega), u8_eq (a := d) (by omega), u8_eq (a := e) (by omega)]
        rfl
theorem chAt_of {c : Nat} (r : List UInt8) (h : isCh c) : chAt (u8c c ++ r) = some (c, u8n c) := by
  have key : rawC (u8c c ++ r) = c ∧ widC (at8 (u8c c ++ r) 0) = u8n c ∧ ∀ j, j < u8n c → 0 < j → tail8 (u8c c ++ r) j := by
    unfold isCh at h
    unfold u8c u8n rawC
    split
    · rename_i h1
      have e0 : at8 ([UInt8.ofNat c] ++ r) 0 = c := toNat_ofNat_lt (by omega)
      have w : widC c = 1 := by unfold widC; rw [if_pos h1]
      rw [e0, w]
      refine ⟨?_, rfl, fun j hj hj2 => by omega⟩
      rw [show 1 - 1 = 0 from rfl, acc0]
      unfold headC
      rw [if_pos h1]
    · split
      · rename_i h1 h2
        have e0 : at8 ([UInt8.ofNat (192 + c / 64), UInt8.ofNat (128 + c % 64)] ++ r) 0 = 192 + c / 64 := toNat_ofNat_lt (by omega)
        have e1 : at8 ([UInt8.ofNat (192 + c / 64), UInt8.ofNat (128 + c % 64)] ++ r) 1 = 128 + c % 64 := toNat_ofNat_lt (by omega)
        have w : widC (192 + c / 64) = 2 := by unfold widC; rw [if_neg (by omega), if_neg (by omega), if_pos (by omega)]
        rw [e0, w]
        refine ⟨?_, rfl, fun j hj hj2 => ?_⟩
        · rw [show 2 - 1 = 1 from rfl, acc1, e1]
          unfold headC
          rw [if_neg (by omega), if_neg (by omega), if_pos (by omega)]
          omega
        · obtain rfl : j = 1 := by omega
          unfold tail8
          rw [e1]
          omega
      · split
        · rename_i h1 h2 h3
          have e0 : at8 ([UInt8.ofNat (224 + c / 4096), UInt8.ofNat (128 + c / 64 % 64), UInt8.ofNat (128 + c % 64)] ++ r) 0 = 224 + c / 4096 := toNat_ofNat_lt (by omega)
          have e1 : at8 ([UInt8.ofNat (224 + c / 4096), UInt8.ofNat (128 + c / 64 % 64), UInt8.ofNat (128 + c % 64)] ++ r) 1 = 128 + c / 64 % 64 := toNat_ofNat_lt (by omega)
          have e2 : at8 ([UInt8.ofNat (224 + c / 4096), UInt8.ofNat (128 + c / 64 % 64), UInt8.ofNat (128 + c % 64)] ++ r) 2 = 128 + c % 64 := toNat_ofNat_lt (by omega)
          have w : widC (224 + c / 4096) = 3 := by unfold widC; rw [if_neg (by omega), if_neg (by omega), if_neg (by omega), if_pos (by omega)]
          rw [e0, w]
          refine ⟨?_, rfl, fun j hj hj2 => ?_⟩
          · rw [show 3 - 1 = 2 from rfl, acc2, e1, e2]
            unfold headC
            rw [if_neg (by omega), if_neg (by omega), if_neg (by omega), if_pos (by omega)]
            omega
          · obtain rfl | rfl : j = 1 ∨ j = 2 := by omega
            · unfold tail8; rw [e1]; omega
            · unfold tail8; rw [e2]; omega
        · rename_i h1 h2 h3
          have e0 : at8 ([UInt8.ofNat (240 + c / 262144), UInt8.ofNat (128 + c / 4096 % 64), UInt8.ofNat (128 + c / 64 % 64), UInt8.ofNat (128 + c % 64)] ++ r) 0 = 240 + c / 262144 := toNat_ofNat_lt (by omega)
          have e1 : at8 ([UInt8.ofNat (240 + c / 262144), UInt8.ofNat (128 + c / 4096 % 64), UInt8.ofNat (128 + c / 64 % 64), UInt8.ofNat (128 + c % 64)] ++ r) 1 = 128 + c / 4096 % 64 := toNat_ofNat_lt (by omega)
          have e2 : at8 ([UInt8.ofNat (240 + c / 262144), UInt8.ofNat (128 + c / 4096 % 64), UInt8.ofNat (128 + c / 64 % 64), UInt8.ofNat (128 + c % 64)] ++ r) 2 = 128 + c / 64 % 64 := toNat_ofNat_lt (by omega)
          have e3 : at8 ([UInt8.ofNat (240 + c / 262144), UInt8.ofNat (128 + c / 4096 % 64), UInt8.ofNat (128 + c / 64 % 64), UInt8.ofNat (128 + c % 64)] ++ r) 3 = 128 + c % 64 := toNat_ofNat_lt (by omega)
          have w : widC (240 + c / 262144) = 4 := by unfold widC; rw [if_neg (by omega), if_neg (by omega), if_neg (by omega), if_neg (by omega)]
          rw [e0, w]
          refine ⟨?_, rfl, fun j hj hj2 => ?_⟩
          · rw [show 4 - 1 = 3 from rfl, acc3, e1, e2, e3]
            unfold headC
            rw [if_neg (by omega), if_neg (by omega), if_neg (by omega), if_neg (by omega)]
            omega
          · obtain rfl | rfl | rfl : j = 1 ∨ j = 2 ∨ j = 3 := by omega
            · unfold tail8; rw [e1]; omega
            · unfold tail8; rw [e2]; omega
            · unfold tail8; rw [e3]; omega
  obtain ⟨k1, k2, k3⟩ := key
  unfold chAt
  rw [k1, k2, if_pos ⟨by have := u8n_le c; omega, by rw [List.length_append, u8c_len]; omega, k3, h, rfl⟩]
/-- the characters of bytes -/
def charsF : Nat → List UInt8 → Option (List Nat)
  | 0, l => if l = [] then some [] else none
  | k + 1, l => if l = [] then some [] else match chAt l with
    | none => none
    | some (c, n) => (charsF k (l.drop n)).map (c :: ·)
def chars (l : List UInt8) : Option (List Nat) := charsF l.length l
theorem charsF_fuel : ∀ (n m : Nat) (l : List UInt8), l.length ≤ n → l.length ≤ m → charsF n l = charsF m l
  | 0, m, l, h1, h2 => by
    have : l = [] := List.eq_nil_of_length_eq_zero (by omega)
    subst this
    cases m <;> simp [charsF]
  | n + 1, 0, l, h1, h2 => by
    have : l = [] := List.eq_nil_of_length_eq_zero (by omega)
    subst this
    simp [charsF]
  | n + 1, m + 1, l, h1, h2 => by
    simp only [charsF]
    split
    · rfl
    · split
      · rfl
      · rename_i c k hk
        obtain ⟨_, q1, q2, _⟩ := chAt_some hk
        have := u8n_le c
        rw [charsF_fuel n m _ (by rw [List.length_drop]; omega) (by rw [List.length_drop]; omega)]
theorem chars_nil : chars [] = some [] := rfl
theorem chars_step {l : List UInt8} (h : l ≠ []) : chars l = match chAt l with
    | none => none
    | some (c, n) => (chars (l.drop n)).map (c :: ·) := by
  have hp := List.length_pos_iff.2 h
  unfold chars
  obtain ⟨k, hk⟩ : ∃ k, l.length = k + 1 := ⟨l.length - 1, by omega⟩
  rw [hk, charsF, if_neg h]
  split
  · rfl
  · rename_i c n e
    obtain ⟨_, q1, q2, _⟩ := chAt_some e
    have := u8n_le c
    rw [charsF_fuel k (l.drop n).length _ (by rw [List.length_drop]; omega) (Nat.le_refl _)]
theorem chars_of : ∀ (cs : List Nat), (∀ c ∈ cs, isCh c) → chars (cs.flatMap u8c) = some cs
  | [], _ => rfl
  | c :: cs, h => by
    have hc := u8c_len c
    have := u8n_le c
    rw [List.flatMap_cons, chars_step, chAt_of _ (h c (by simp))]
    · simp only
      rw [List.drop_left' hc, chars_of cs fun x hx => h x (by simp [hx])]
      rfl
    · intro e
      have := congrArg List.length e
      rw [List.length_append, hc, List.length_nil] at this
      omega
theorem chars_some : ∀ (n : Nat) {l : List UInt8} {cs : List Nat}, l.length ≤ n → chars l = some cs → (∀ c ∈ cs, isCh c) ∧ cs.flatMap u8c = l
  | 0, l, cs, hl, h => by
    have : l = [] := List.eq_nil_of_length_eq_zero (by omega)
    subst this
    cases h
    simp
  | n + 1, l, cs, hl, h => by
    by_cases hn : l = []
    · subst hn; cases h; simp
    rw [chars_step hn] at h
    split at h
    · cases h
    · rename_i c k e
      obtain ⟨q1, q2, q3, q4⟩ := chAt_some e
      have := u8n_le c
      cases hr : chars (l.drop k) with
      | none => rw [hr] at h; cases h
      | some r =>
        rw [hr] at h
        cases h
        obtain ⟨a1, a2⟩ := chars_some n (by rw [List.length_drop]; omega) hr
        refine ⟨fun x hx => ?_, ?_⟩
        · rcases List.mem_cons.1 hx with rfl | hx
          · exact q1
          · exact a1 x hx
        · rw [List.flatMap_cons, a2, ← q4, List.take_append_drop]
theorem chars_iff {l : List UInt8} {cs : List Nat} : chars l = some cs ↔ (∀ c ∈ cs, isCh c) ∧ cs.flatMap u8c = l := by
  constructor
  · exact chars_some _ (Nat.le_refl _)
  · rintro ⟨h1, h2⟩
    rw [← h2]
    exact chars_of cs h1
/-! ### units of UTF-16 -/
def u16c (c : Nat) : List Nat := if c < 65536 then [c] else [55296 + (c - 65536) / 1024, 56320 + (c - 65536) % 1024]
abbrev isLow (u : Nat) : Prop := 56320 ≤ u ∧ u < 57344
abbrev isHigh (u : Nat) : Prop := 55296 ≤ u ∧ u < 56320
def unitsD : List Nat → Option (List Nat)
  | [] => some []
  | [u] => if isLow u then none else if isHigh u then none else some [u]
  | u :: v :: r => if isLow u then none else if isHigh u then (if isLow v then (unitsD r).map ((65536 + 1024 * (u - 55296) + (v - 56320)) :: ·) else none) else (unitsD (v :: r)).map (u :: ·)
theorem unitsD_low {u : Nat} (h : isLow u) (r : List Nat) : unitsD (u :: r) = none := by
  cases r <;> simp only [unitsD] <;> rw [if_pos h]
theorem unitsD_pair {u v : Nat} (h : isHigh u) (hv : isLow v) (r : List Nat) : unitsD (u :: v :: r) = (unitsD r).map ((65536 + 1024 * (u - 55296) + (v - 56320)) :: ·) := by
  rw [unitsD, if_neg (by unfold isLow isHigh at *; omega), if_pos h, if_pos hv]
theorem unitsD_lone {u : Nat} (h : isHigh u) (r : List Nat) (hr : ∀ v k, r = v :: k → ¬ isLow v) : unitsD (u :: r) = none := by
  have h1 : ¬ isLow u := by unfold isLow isHigh at *; omega
  cases r with
  | nil => simp only [unitsD]; rw [if_neg h1, if_pos h]
  | cons v r => simp only [unitsD]; rw [if_neg h1, if_pos h, if_neg (hr v r rfl)]
theorem unitsD_one {u : Nat} (h1 : ¬ isLow u) (h2 : ¬ isHigh u) (r : List Nat) : unitsD (u :: r) = (unitsD r).map (u :: ·) := by
  cases r with
  | nil => simp only [unitsD]; rw [if_neg h1, if_neg h2]; rfl
  | cons v r => simp only [unitsD]; rw [if_neg h1, if_neg h2]
theorem unitsD_some : ∀ (n : Nat) {us cs : List Nat}, us.length ≤ n → (∀ u ∈ us, u < 65536) → unitsD us = some cs → (∀ c ∈ cs, isCh c) ∧ cs.flatMap u16c = us
  | 0, us, cs, hn, hu, h => by
    have : us = [] := List.eq_nil_of_length_eq_zero (by omega)
    subst this
    cases h
    simp
  | n + 1, [], cs, hn, hu, h => by cases h; simp
  | n + 1, u :: r, cs, hn, hu, h => by
    have hu0 := hu u (by simp)
    have hur : ∀ x ∈ r, x < 65536 := fun x hx => hu x (by simp [hx])
    by_cases h1 : isLow u
    · rw [unitsD_low h1] at h; cases h
    by_cases h2 : isHigh u
    · match r, h with
      | [], h => rw [unitsD_lone h2 [] (by simp)] at h; cases h
      | v :: r, h =>
        by_cases h3 : isLow v
        rotate_left
        · rw [unitsD_lone h2 (v :: r) (fun a k e => by cases e; exact h3)] at h; cases h
        rw [unitsD_pair h2 h3] at h
        cases hr : unitsD r with
        | none => rw [hr] at h; cases h
        | some k =>
          rw [hr] at h
          cases h
          obtain ⟨a1, a2⟩ := unitsD_some n (by simp only [List.length_cons] at hn; omega) (fun x hx => hur x (by simp [hx])) hr
          unfold isLow isHigh at *
          obtain ⟨c, hc⟩ : ∃ c, c = 65536 + 1024 * (u - 55296) + (v - 56320) := ⟨_, rfl⟩
          rw [← hc]
          refine ⟨fun x hx => ?_, ?_⟩
          · rcases List.mem_cons.1 hx with hx | hx
            · rw [hx]; unfold isCh; omega
            · exact a1 x hx
          · rw [List.flatMap_cons, a2]
            unfold u16c
            rw [if_neg (by omega), show 55296 + (c - 65536) / 1024 = u by omega, show 56320 + (c - 65536) % 1024 = v by omega]
            rfl
    · rw [unitsD_one h1 h2] at h
      cases hr : unitsD r with
      | none => rw [hr] at h; cases h
      | some k =>
        rw [hr] at h
        cases h
        obtain ⟨a1, a2⟩ := unitsD_some n (by simp only [List.length_cons] at hn; omega) hur hr
        unfold isLow isHigh at *
        refine ⟨fun x hx => ?_, ?_⟩
        · rcases List.mem_cons.1 hx with rfl | hx
          · unfold isCh; omega
          · exact a1 x hx
        · rw [List.flatMap_cons, a2]
          unfold u16c
          rw [if_pos (by omega)]
          rfl
def unitAt (big : Bool) (l : List UInt8) (k : Nat) : Nat := if big = true then 256 * at8 l (2 * k) + at8 l (2 * k + 1) else 256 * at8 l (2 * k + 1) + at8 l (2 * k)
def unitsOf (big : Bool) (l : List UInt8) : List Nat := (List.range (l.length / 2)).map (unitAt big l)
theorem unitAt_lt (big : Bool) (l : List UInt8) (k : Nat) : unitAt big l k < 65536 := by
  have h1 : at8 l (2 * k) < 256 := UInt8.toNat_lt _
  have h2 : at8 l (2 * k + 1) < 256 := UInt8.toNat_lt _
  unfold unitAt
  split <;> omega
def unB (big : Bool) (u : Nat) : List UInt8 := if big = true then [UInt8.ofNat (u / 256), UInt8.ofNat (u % 256)] else [UInt8.ofNat (u % 256), UInt8.ofNat (u / 256)]
theorem unB_len (big : Bool) (u : Nat) : (unB big u).length = 2 := by unfold unB; split <;> rfl
theorem unitsOf_cons (big : Bool) (a b : UInt8) (l : List UInt8) : unitsOf big (a :: b :: l) = (if big = true then 256 * a.toNat + b.toNat else 256 * b.toNat + a.toNat) :: unitsOf big l := by
  unfold unitsOf
  rw [show (a :: b :: l).length / 2 = l.length / 2 + 1 by simp only [List.length_cons]; omega, List.range_succ_eq_map, List.map_cons, List.map_map]
  congr 1
theorem units_bytes (big : Bool) : ∀ (n : Nat) {l : List UInt8}, l.length = 2 * n → (unitsOf big l).flatMap (unB big) = l
  | 0, l, h => by
    have : l = [] := List.eq_nil_of_length_eq_zero (by omega)
    subst this
    rfl
  | n + 1, [], h => by simp only [List.length_nil] at h; omega
  | n + 1, [_], h => by simp only [List.length_cons, List.length_nil] at h; omega
  | n + 1, a :: b :: l, h => by
    have ha := a.toNat_lt
    have hb := b.toNat_lt
    rw [unitsOf_cons, List.flatMap_cons, units_bytes big n (by simp only [List.length_cons] at h; omega)]
    cases big
    · simp only [Bool.false_eq_true, if_false, unB]
      rw [u8_eq (a := a) (by omega), u8_eq (a := b) (by omega)]
      rfl
    · simp only [if_true, unB]
      rw [u8_eq (a := a) (by omega), u8_eq (a := b) (by omega)]
      rfl
/-! ### the characters of a file -/
abbrev markB : List UInt8 := [239, 187, 191]
def u16Of (big : Bool) (b : List UInt8) : Option (List Nat) := if 2 ≤ b.length ∧ b.length % 2 = 0 ∧ b.take 2 = (if big = true then [254, 255] else [255, 254]) then unitsD (unitsOf big (b.drop 2)) else none
def fileC8 (b : List UInt8) : List Nat × Nat := match chars b with
  | some cs => if cs.head? = some 65279 then (cs.tail, 1) else (cs, 0)
  | none => (b.map UInt8.toNat, 4)
def fileC (b : List UInt8) : List Nat × Nat := match u16Of true b with
  | some cs => (cs, 2)
  | none => match u16Of false b with
    | some cs => (cs, 3)
    | none => fileC8 b
/-- .. and back -/
def encC (e : Nat) (cs : List Nat) : Option (List UInt8) :=
  if e = 0 then some (cs.flatMap u8c) else if e = 1 then some (markB ++ cs.flatMap u8c)
  else if e = 2 then some ([254, 255] ++ (cs.flatMap u16c).flatMap (unB true)) else if e = 3 then some ([255, 254] ++ (cs.flatMap u16c).flatMap (unB false))
  else if ∀ c ∈ cs, c < 256 then some (cs.map UInt8.ofNat) else none
theorem u16Of_some {big : Bool} {b : List UInt8} {cs : List Nat} (h : u16Of big b = some cs) : (∀ c ∈ cs, isCh c) ∧ b = (if big = true then [254, 255] else [255, 254]) ++ (cs.flatMap u16c).flatMap (unB big) := by
  unfold u16Of at h
  by_cases hk : 2 ≤ b.length ∧ b.length % 2 = 0 ∧ b.take 2 = (if big = true then [254, 255] else [255, 254])
  rotate_left
  · rw [if_neg hk] at h
    cases h
  rw [if_pos hk] at h
  obtain ⟨h1, h2, h3⟩ := hk
  obtain ⟨a1, a2⟩ := unitsD_some _ (Nat.le_refl _) (fun u hu => by
    obtain ⟨k, _, rfl⟩ := List.mem_map.1 hu
    exact unitAt_lt _ _ _) h
  refine ⟨a1, ?_⟩
  rw [a2, units_bytes big ((b.length - 2) / 2) (by rw [List.length_drop]; omega), ← h3, List.take_append_drop]
theorem fileC_enc (b : List UInt8) : encC (fileC b).2 (fileC b).1 = some b ∧ (fileC b).2 < 5 ∧ (∀ c ∈ (fileC b).1, isCh c) := by
  unfold fileC
  split
  · rename_i cs h
    obtain ⟨h1, h2⟩ := u16Of_some h
    refine ⟨?_, show _ < 5 by simp only; omega, h1⟩
    rw [h2]
    rfl
  · split
    · rename_i cs h
      obtain ⟨h1, h2⟩ := u16Of_some h
      refine ⟨?_, show _ < 5 by simp only; omega, h1⟩
      rw [h2]
      rfl
    · unfold fileC8
      split
      · rename_i cs h
        obtain ⟨h1, h2⟩ := chars_iff.1 h
        split
        · rename_i hh
          obtain ⟨cs, rfl⟩ : ∃ r, cs = 65279 :: r := by
            cases cs with
            | nil => cases hh
            | cons c r => cases hh; exact ⟨r, rfl⟩
          refine ⟨?_, show _ < 5 by simp only; omega, fun c hc => h1 c (by simp only [List.tail_cons] at hc; simp [hc])⟩
          rw [← h2]
          rfl
        · refine ⟨?_, show _ < 5 by simp only; omega, h1⟩
          rw [← h2]
          rfl
      · refine ⟨?_, show _ < 5 by simp only; omega, fun c hc => ?_⟩
        · unfold encC
          rw [if_neg (show ¬ (4 = 0) by decide), if_neg (show ¬ (4 = 1) by decide), if_neg (show ¬ (4 = 2) by decide), if_neg (show ¬ (4 = 3) by decide), if_pos]
          · rw [List.map_map]
            congr 1
            conv => rhs; rw [← List.map_id b]
            refine List.map_congr_left fun x _ => ?_
            exact UInt8.ofNat_toNat
          · intro c hc
            obtain ⟨x, _, rfl⟩ := List.mem_map.1 hc
            exact x.toNat_lt
        · obtain ⟨x, _, rfl⟩ := List.mem_map.1 hc
          have := x.toNat_lt
          unfold isCh
          omega
/-! ### line ends -/
def lines : List Nat → List Nat × List Nat
  | [] => ([], [])
  | [c] => if c = 10 then ([10], [0]) else if c = 13 then ([10], [2]) else ([c], [])
  | c :: d :: r => if c = 13 ∧ d = 10 then (10 :: (lines r).1, 1 :: (lines r).2)
    else if c = 10 then (10 :: (lines (d :: r)).1, 0 :: (lines (d :: r)).2) else if c = 13 then (10 :: (lines (d :: r)).1, 2 :: (lines (d :: r)).2) else (c :: (lines (d :: r)).1, (lines (d :: r)).2)
theorem lines_both (r : List Nat) : lines (13 :: 10 :: r) = (10 :: (lines r).1, 1 :: (lines r).2) := by simp only [lines]; rw [if_pos ⟨trivial, trivial⟩]
theorem lines_lf (r : List Nat) : lines (10 :: r) = (10 :: (lines r).1, 0 :: (lines r).2) := by
  cases r with
  | nil => rfl
  | cons d r => simp only [lines]; rw [if_neg (by omega), if_pos trivial]
theorem lines_cr {r : List Nat} (h : ∀ k, r ≠ 10 :: k) : lines (13 :: r) = (10 :: (lines r).1, 2 :: (lines r).2) := by
  cases r with
  | nil => rfl
  | cons d r => simp only [lines]; rw [if_neg (fun e => h r (by rw [e.2])), if_neg (by decide), if_pos trivial]
theorem lines_other {c : Nat} (h1 : c ≠ 10) (h2 : c ≠ 13) (r : List Nat) : lines (c :: r) = (c :: (lines r).1, (lines r).2) := by
  cases r with
  | nil => simp only [lines]; rw [if_neg h1, if_neg h2]
  | cons d r => simp only [lines]; rw [if_neg (fun e => h2 e.1), if_neg h1, if_neg h2]
def endC (k : Nat) : List Nat := if k = 0 then [10] else if k = 1 then [13, 10] else [13]
/-- the characters of a text whose line ends are of these kinds -/
def unlines : List Nat → List Nat → Option (List Nat)
  | [], [] => some []
  | [], _ :: _ => none
  | c :: r, ks => if c = 10 then (match ks with
      | [] => none
      | k :: ks => (unlines r ks).map (endC k ++ ·)) else (unlines r ks).map (c :: ·)
theorem lines_back : ∀ (n : Nat) (l : List Nat), l.length ≤ n → unlines (lines l).1 (lines l).2 = some l ∧ (∀ k ∈ (lines l).2, k < 3) ∧ (lines l).2.length ≤ l.length ∧ (lines l).1.length ≤ l.length ∧ (∀ c ∈ (lines l).1, c = 10 ∨ c ∈ l)
  | 0, l, h => by
    have : l = [] := List.eq_nil_of_length_eq_zero (by omega)
    subst this
    exact ⟨rfl, by simp [lines], Nat.le_refl _, Nat.le_refl _, by simp [lines]⟩
  | n + 1, [], h => ⟨rfl, by simp [lines], Nat.le_refl _, Nat.le_refl _, by simp [lines]⟩
  | n + 1, c :: r, h => by
    have hr : r.length ≤ n := by simpa using h
    obtain ⟨a1, a2, a3, a4, a5⟩ := lines_back n r hr
    by_cases h1 : c = 10
    · subst h1
      rw [lines_lf]
      refine ⟨?_, ?_, by simp only [List.length_cons]; omega, by simp only [List.length_cons]; omega, ?_⟩
      · simp only [unlines, if_true, a1]
        rfl
      · intro k hk
        rcases List.mem_cons.1 hk with rfl | hk
        · decide
        · exact a2 k hk
      · intro c hc
        rcases List.mem_cons.1 hc with rfl | hc
        · exact .inl rfl
        · rcases a5 c hc with h | h
          · exact .inl h
          · exact .inr (by simp [h])
    by_cases h2 : c = 13
    · subst h2
      by_cases h3 : ∃ k, r = 10 :: k
      · obtain ⟨r, rfl⟩ := h3
        obtain ⟨a1, a2, a3, a4, a5⟩ := lines_back n r (by simp at hr; omega)
        rw [lines_both]
        refine ⟨?_, ?_, by simp only [List.length_cons]; omega, by simp only [List.length_cons]; omega, ?_⟩
        · simp only [unlines, if_true, a1]
          rfl
        · intro k hk
          rcases List.mem_cons.1 hk with rfl | hk
          · decide
          · exact a2 k hk
        · intro c hc
          rcases List.mem_cons.1 hc with rfl | hc
          · exact .inl rfl
          · rcases a5 c hc with h | h
            · exact .inl h
            · exact .inr (by simp [h])
      · rw [lines_cr (fun k e => h3 ⟨k, e⟩)]
        refine ⟨?_, ?_, by simp only [List.length_cons]; omega, by simp only [List.length_cons]; omega, ?_⟩
        · simp only [unlines, if_true, a1]
          rfl
        · intro k hk
          rcases List.mem_cons.1 hk with rfl | hk
          · decide
          · exact a2 k hk
        · intro c hc
          rcases List.mem_cons.1 hc with rfl | hc
          · exact .inl rfl
          · rcases a5 c hc with h | h
            · exact .inl h
            · exact .inr (by simp [h])
    · rw [lines_other h1 h2]
      refine ⟨?_, a2, by simp only [List.length_cons]; omega, by simp only [List.length_cons]; omega, ?_⟩
      · simp only [unlines, a1]
        rw [if_neg h1]
        rfl
      · intro x hx
        rcases List.mem_cons.1 hx with rfl | hx
        · exact .inr (by simp)
        · rcases a5 x hx with h | h
          · exact .inl h
          · exact .inr (by simp [h])
theorem lines_plain : ∀ (n : Nat) (l : List Nat), l.length ≤ n → (∀ k ∈ (lines l).2, k = 0) → (lines l).1 = l
  | 0, l, h, _ => by
    have : l = [] := List.eq_nil_of_length_eq_zero (by omega)
    subst this
    rfl
  | n + 1, [], h, _ => rfl
  | n + 1, c :: r, h, hk => by
    have hr : r.length ≤ n := by simpa using h
    by_cases h1 : c = 10
    · subst h1
      rw [lines_lf] at hk ⊢
      rw [lines_plain n r hr fun k h => hk k (by simp [h])]
    by_cases h2 : c = 13
    · subst h2
      by_cases h3 : ∃ k, r = 10 :: k
      · obtain ⟨r, rfl⟩ := h3
        rw [lines_both] at hk
        exact absurd (hk 1 (by simp)) (by decide)
      · rw [lines_cr (fun k e => h3 ⟨k, e⟩)] at hk
        exact absurd (hk 2 (by simp)) (by decide)
    · rw [lines_other h1 h2] at hk ⊢
      rw [lines_plain n r hr hk]
/-! ### runs -/
abbrev Run := Nat × Nat
def runsOf : List Nat → List Run
  | [] => []
  | k :: ks => match runsOf ks with
    | (j, n) :: r => if k = j then (j, n + 1) :: r else (k, 1) :: (j, n) :: r
    | [] => [(k, 1)]
def runsK (rs : List Run) : List Nat := rs.flatMap fun r => List.replicate r.2 r.1
/-- runs of known kinds, none empty, no two of one kind in a row -/
def runsOk (p : Nat) : List Run → Prop
  | [] => True
  | r :: rs => r.1 < 3 ∧ 1 ≤ r.2 ∧ r.1 ≠ p ∧ runsOk r.1 rs
def runsSum (rs : List Run) : Nat := (rs.map (·.2)).sum
theorem runsOf_facts : ∀ (ks : List Nat), runsK (runsOf ks) = ks ∧ (runsOf ks).head?.map (·.1) = ks.head? ∧ ((∀ k ∈ ks, k < 3) → ∀ p, ks.head? ≠ some p → runsOk p (runsOf ks)) ∧ runsSum (runsOf ks) = ks.length ∧ (runsOf ks).length ≤ ks.length
  | [] => ⟨rfl, rfl, fun _ _ _ => trivial, rfl, Nat.le_refl _⟩
  | k :: ks => by
    obtain ⟨a1, a2, a3, a4, a5⟩ := runsOf_facts ks
    unfold runsOf
    split
    · rename_i j n r hr
      rw [hr] at a1 a2 a3 a4 a5
      have hj : ks.head? = some j := a2.symm
      split
      · rename_i e
        subst e
        refine ⟨?_, rfl, fun h p hp => ?_, ?_, ?_⟩
        · unfold runsK at a1 ⊢
          rw [List.flatMap_cons] at a1 ⊢
          simp only [List.replicate_succ, List.cons_append] at a1 ⊢
          rw [a1]
        · have := a3 (fun x hx => h x (by simp [hx])) 3 (by rw [hj]; have := h k (by simp); simp; omega)
          obtain ⟨b1, b2, _, b4⟩ := this
          exact ⟨b1, by simp, fun e => hp (by rw [← e]; rfl), b4⟩
        · unfold runsSum at a4 ⊢
          simp only [List.map_cons, List.sum_cons, List.length_cons] at a4 ⊢
          omega
        · simp only [List.length_cons] at a5 ⊢
          omega
      · rename_i e
        refine ⟨?_, rfl, fun h p hp => ?_, ?_, ?_⟩
        · unfold runsK at a1 ⊢
          rw [List.flatMap_cons, a1]
          rfl
        · have := a3 (fun x hx => h x (by simp [hx])) k (by rw [hj]; simp; exact fun q => e q.symm)
          exact ⟨h k (by simp), Nat.le_refl _, fun e => hp (by rw [← e]; rfl), this⟩
        · unfold runsSum at a4 ⊢
          simp only [List.map_cons, List.sum_cons, List.length_cons] at a4 ⊢
          omega
        · simp only [List.length_cons] at a5 ⊢
          omega
    · rename_i hr
      rw [hr] at a1 a4
      refine ⟨?_, rfl, fun h p hp => ⟨h k (by simp), Nat.le_refl _, fun e => hp (by rw [← e]; rfl), trivial⟩, ?_, by simp⟩
      · rw [← a1]; rfl
      · unfold runsSum at a4 ⊢
        simp only [List.map_cons, List.sum_cons, List.length_cons, List.map_nil, List.sum_nil] at a4 ⊢
        omega
theorem runsOf_rep : ∀ (n k : Nat) (ks : List Nat), ks.head? ≠ some k → runsOf (List.replicate (n + 1) k ++ ks) = (k, n + 1) :: runsOf ks
  | 0, k, ks, h => by
    show (match runsOf ks with | (j, n) :: r => if k = j then (j, n + 1) :: r else (k, 1) :: (j, n) :: r | [] => [(k, 1)]) = _
    have h2 := (runsOf_facts ks).2.1
    cases hr : runsOf ks with
    | nil => rfl
    | cons x r =>
      obtain ⟨j, n⟩ := x
      rw [hr] at h2
      simp only
      rw [if_neg]
      rintro rfl
      exact h h2.symm
  | n + 1, k, ks, h => by
    rw [List.replicate_succ, List.cons_append, runsOf, runsOf_rep n k ks h]
    simp
theorem runsOf_K : ∀ (rs : List Run) (p : Nat), runsOk p rs → runsOf (runsK rs) = rs ∧ (runsK rs).head? = rs.head?.map (·.1) ∧ (∀ k ∈ runsK rs, k < 3) ∧ (runsK rs).length = runsSum rs
  | [], _, _ => ⟨rfl, rfl, by simp [runsK], rfl⟩
  | (k, n) :: rs, p, h => by
    obtain ⟨h1, h2, h3, h4⟩ := h
    obtain ⟨a1, a2, a3, a4⟩ := runsOf_K rs k h4
    obtain ⟨m, rfl⟩ : ∃ m, n = m + 1 := ⟨n - 1, by dsimp only at h2; omega⟩
    have e : runsK ((k, m + 1) :: rs) = List.replicate (m + 1) k ++ runsK rs := rfl
    have hh : (runsK rs).head? ≠ some k := by
      rw [a2]
      cases rs with
      | nil => simp
      | cons r rs => simp only [List.head?_cons, Option.map_some]; intro q; exact h4.2.2.1 (Option.some.inj q)
    rw [e, runsOf_rep _ _ _ hh, a1]
    refine ⟨rfl, rfl, fun x hx => ?_, ?_⟩
    · rcases List.mem_append.1 hx with hx | hx
      · rw [(List.mem_replicate.1 hx).2]; exact h1
      · exact a3 x hx
    · rw [List.length_append, List.length_replicate, a4]
      rfl
end Go.Proofs.YtgnaojphgdaalaaDoor
