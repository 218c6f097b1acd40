/-
  Numbers, byte strings and lists as bytes: plain facts.
-/
import Derived.Test.YtffaffojkfalhaaGreatDoorVcA
namespace Go.Proofs.YtffaffojkfalhaaGreatDoor
open Go Go.RowKit

/-! ### numbers -/
/-- groups of seven bits -/
def putU (u : Nat) : List UInt8 := if u < 128 then [UInt8.ofNat u] else UInt8.ofNat (u % 128 + 128) :: putU (u / 128)
decreasing_by omega
theorem putU_small {u : Nat} (h : u < 128) : putU u = [UInt8.ofNat u] := by rw [putU, if_pos h]
theorem putU_big {u : Nat} (h : ¬ u < 128) : putU u = UInt8.ofNat (u % 128 + 128) :: putU (u / 128) := by rw [putU, if_neg h]
def zz (n : Int) : Nat := if 0 ≤ n then 2 * n.toNat else 2 * (-(n + 1)).toNat + 1
def unzz (u : Nat) : Int := if u % 2 = 0 then (u / 2 : Nat) else -((u / 2 : Nat) : Int) - 1
theorem unzz_zz (n : Int) : unzz (zz n) = n := by
  unfold unzz zz
  split <;> split <;> omega
theorem zz_unzz (u : Nat) : zz (unzz u) = u := by
  unfold unzz zz
  split <;> split <;> omega
theorem zz_lt {n : Int} (h1 : -9223372036854775808 ≤ n) (h2 : n ≤ 9223372036854775807) : zz n < 18446744073709551616 := by
  unfold zz
  split <;> omega
theorem unzz_i64 {u : Nat} (h : u < 18446744073709551616) : -9223372036854775808 ≤ unzz u ∧ unzz u ≤ 9223372036854775807 := by
  unfold unzz
  split <;> omega
def putN (n : Int) : List UInt8 := putU (zz n)
theorem putU_len (u : Nat) : 0 < (putU u).length := by
  rw [putU]
  split <;> simp
theorem putU_len_le : ∀ (k u : Nat), u < 128 ^ (k + 1) → (putU u).length ≤ k + 1 := by
  intro k
  induction k with
  | zero => intro u h; rw [putU_small (by omega)]; simp
  | succ k ih =>
    intro u h
    by_cases hu : u < 128
    · rw [putU_small hu]; simp
    · rw [putU_big hu]
      have := ih (u / 128) (by rw [Nat.pow_succ] at h; omega)
      simp only [List.length_cons]
      omega
theorem putN_len {n : Int} (h1 : -9223372036854775808 ≤ n) (h2 : n ≤ 9223372036854775807) : (putN n).length ≤ 10 :=
  putU_len_le 9 _ (by have := zz_lt h1 h2; simp only [Nat.reduceAdd, Nat.reducePow]; omega)

/-- what reading gives: a fault, or what was read and the place behind it -/
inductive Got (α : Type) where
  | bad (c i : Int)
  | ok (x : α) (next : Nat)
inductive NumR where
  | trunc
  | syn
  | ok (u k : Nat)
def getU : Nat → List UInt8 → NumR
  | _, [] => .trunc
  | i, c :: r => if (i = 9 ∧ 1 < c.toNat) ∨ (0 < i ∧ c.toNat = 0) then .syn else if c.toNat < 128 then .ok c.toNat 1 else
      match getU (i + 1) r with
      | .ok u k => .ok (c.toNat % 128 + 128 * u) (k + 1)
      | e => e
theorem toNat_ofNat_lt {n : Nat} (h : n < 256) : (UInt8.ofNat n).toNat = n := by simp [UInt8.toNat_ofNat']; omega
theorem pow_step {i : Nat} (h : i < 9) : 2 ^ (64 - 7 * i) = 128 * 2 ^ (64 - 7 * (i + 1)) := by
  rw [show 64 - 7 * i = (64 - 7 * (i + 1)) + 7 by omega, Nat.pow_add]
  omega
theorem get_put (u : Nat) : ∀ (i : Nat) (r : List UInt8), i ≤ 9 → u < 2 ^ (64 - 7 * i) → (0 < i → 0 < u) → getU i (putU u ++ r) = .ok u (putU u).length := by
  induction u using Nat.strongRecOn with
  | ind u ih =>
    intro i r hi hu hp
    by_cases h : u < 128
    · rw [putU_small h]
      simp only [List.cons_append, List.nil_append, getU, toNat_ofNat_lt (show u < 256 by omega), List.length_singleton]
      rw [if_neg, if_pos h]
      rintro (⟨rfl, h1⟩ | ⟨h1, h2⟩)
      · simp at hu; omega
      · have := hp h1; omega
    · rw [putU_big h]
      have hi9 : i ≠ 9 := by rintro rfl; simp at hu; omega
      have hs := pow_step (i := i) (by omega)
      have e := ih (u / 128) (by omega) (i + 1) r (by omega) (by omega) (by omega)
      simp only [List.cons_append, getU, toNat_ofNat_lt (show u % 128 + 128 < 256 by omega), e, List.length_cons]
      rw [if_neg (by omega), if_neg (by omega)]
      congr 1
      omega
theorem put_get : ∀ (r : List UInt8) (i u k : Nat), i ≤ 9 → getU i r = .ok u k → k ≤ r.length ∧ r.take k = putU u ∧ u < 2 ^ (64 - 7 * i) ∧ (0 < i → 0 < u)
  | [], i, u, k, _, h => by simp [getU] at h
  | c :: r, i, u, k, hi, h => by
    have hc := c.toNat_lt
    simp only [getU] at h
    split at h
    · cases h
    · rename_i h1
      split at h
      · rename_i h2
        cases h
        refine ⟨by simp, ?_, ?_, fun h0 => by omega⟩
        · rw [putU_small h2]; simp
        · by_cases hi9 : i = 9
          · subst hi9; simp; omega
          · have hs := pow_step (i := i) (by omega)
            have : 0 < 2 ^ (64 - 7 * (i + 1)) := Nat.two_pow_pos _
            omega
      · rename_i h2
        split at h
        · rename_i u' k' h3
          cases h
          have hi9 : i ≠ 9 := by rintro rfl; omega
          obtain ⟨g1, g2, g3, g4⟩ := put_get r (i + 1) u' k' (by omega) h3
          have hs := pow_step (i := i) (by omega)
          have g5 := g4 (by omega)
          refine ⟨by simp; omega, ?_, by omega, fun _ => by omega⟩
          rw [putU_big (by omega), List.take_succ_cons, g2]
          congr 1
          · apply UInt8.toNat_inj.1
            rw [toNat_ofNat_lt (by omega)]
            omega
          · congr 1; omega
        · rename_i e _
          cases e <;> simp_all
/-- the number at a place -/
def numAt (l : List UInt8) (p : Nat) : Got Int :=
  match getU 0 (l.drop p) with
  | .trunc => .bad 15 p
  | .syn => .bad 1 p
  | .ok u k => .ok (unzz u) (p + k)
theorem numAt_put {n : Int} (h1 : -9223372036854775808 ≤ n) (h2 : n ≤ 9223372036854775807) (l r : List UInt8) : numAt (l ++ (putN n ++ r)) l.length = .ok n (l.length + (putN n).length) := by
  unfold numAt putN
  rw [List.drop_left, get_put _ 0 r (by omega) (by simpa using zz_lt h1 h2) (by omega)]
  simp only [unzz_zz]
theorem numAt_ok {l : List UInt8} {p q : Nat} {n : Int} (hp : p ≤ l.length) (h : numAt l p = .ok n q) : p < q ∧ q ≤ l.length ∧ (l.take q).drop p = putN n ∧ -9223372036854775808 ≤ n ∧ n ≤ 9223372036854775807 := by
  unfold numAt at h
  split at h
  · cases h
  · cases h
  · rename_i u k hg
    cases h
    obtain ⟨g1, g2, g3, _⟩ := put_get _ 0 _ _ (by omega) hg
    simp only [List.length_drop] at g1
    have hl := congrArg List.length g2
    have := putU_len u
    simp only [List.length_take, List.length_drop] at hl
    refine ⟨by omega, by omega, ?_, unzz_i64 (by simpa using g3)⟩
    rw [putN, zz_unzz, ← g2, List.take_drop, Nat.add_comm]
theorem numAt_split {l : List UInt8} {p q : Nat} {n : Int} (hp : p ≤ l.length) (h : numAt l p = .ok n q) : l.drop p = putN n ++ l.drop q := by
  obtain ⟨h1, h2, h3, _⟩ := numAt_ok hp h
  rw [← h3]
  conv => lhs; rw [← List.take_append_drop q l, List.drop_append_of_le_length (by simp; omega)]
theorem numAt_bad {l : List UInt8} {p : Nat} {c i : Int} (h : numAt l p = .bad c i) : (c = 15 ∨ c = 1) ∧ i = p := by
  unfold numAt at h
  split at h <;> cases h
  · exact ⟨.inl rfl, rfl⟩
  · exact ⟨.inr rfl, rfl⟩
/-- a number's bytes are no beginning of others -/
theorem putN_inj {a b : Int} (ha : -9223372036854775808 ≤ a ∧ a ≤ 9223372036854775807) (hb : -9223372036854775808 ≤ b ∧ b ≤ 9223372036854775807) {x y : List UInt8} (h : putN a ++ x = putN b ++ y) : a = b ∧ x = y := by
  have h1 := numAt_put ha.1 ha.2 [] x
  have h2 := numAt_put hb.1 hb.2 [] y
  simp only [List.nil_append] at h1 h2
  rw [h, h2] at h1
  cases h1
  exact ⟨rfl, List.append_cancel_left h⟩

/-! ### byte strings -/
def putC (b : List UInt8) : List UInt8 := putN b.length ++ b
def chunkAt (l : List UInt8) (p : Nat) : Got (List UInt8) :=
  match numAt l p with
  | .bad c i => .bad c i
  | .ok n q => if n < 0 then .bad 4 p else if (l.length : Int) - q < n then .bad 15 p else .ok ((l.drop q).take n.toNat) (q + n.toNat)
theorem chunkAt_put {b : List UInt8} (hb : b.length ≤ 1099511627776) (l r : List UInt8) : chunkAt (l ++ (putC b ++ r)) l.length = .ok b (l.length + (putC b).length) := by
  unfold chunkAt putC
  rw [List.append_assoc, numAt_put (by omega) (by omega)]
  simp only
  rw [if_neg (by omega), if_neg (by simp; omega)]
  simp only [Int.toNat_natCast, List.length_append]
  congr 1
  · rw [← List.append_assoc, List.drop_append_of_le_length (by simp), List.drop_of_length_le (by simp), List.nil_append, List.take_left]
  · omega
theorem chunkAt_ok {l b : List UInt8} {p q : Nat} (hp : p ≤ l.length) (h : chunkAt l p = .ok b q) : p < q ∧ q ≤ l.length ∧ l.drop p = putC b ++ l.drop q := by
  unfold chunkAt at h
  split at h
  · cases h
  · rename_i n q' hn
    obtain ⟨h1, h2, h3, h4⟩ := numAt_ok hp hn
    have hs := numAt_split hp hn
    split at h
    · cases h
    · split at h
      · cases h
      · cases h
        refine ⟨by omega, by omega, ?_⟩
        have hlen : ((l.drop q').take n.toNat).length = n.toNat := by simp; omega
        rw [putC, hlen, Int.toNat_of_nonneg (by omega), hs, List.append_assoc, ← List.drop_drop, List.take_append_drop]
theorem chunkAt_bad {l : List UInt8} {p : Nat} {c i : Int} (h : chunkAt l p = .bad c i) : (c = 15 ∨ c = 1 ∨ c = 4) ∧ i = p := by
  unfold chunkAt at h
  split at h
  · rename_i c' i' hn
    cases h
    obtain ⟨h1, h2⟩ := numAt_bad hn
    exact ⟨by omega, h2⟩
  · split at h
    · cases h; exact ⟨by omega, rfl⟩
    · split at h <;> cases h
      exact ⟨by omega, rfl⟩
theorem putC_len {b : List UInt8} (h : b.length ≤ 1099511627776) : (putC b).length ≤ 10 + b.length := by
  have := putN_len (n := b.length) (by omega) (by omega)
  rw [putC, List.length_append]
  omega
theorem putC_inj {a b : List UInt8} (ha : a.length ≤ 1099511627776) (hb : b.length ≤ 1099511627776) {x y : List UInt8} (h : putC a ++ x = putC b ++ y) : a = b ∧ x = y := by
  unfold putC at h
  rw [List.append_assoc, List.append_assoc] at h
  obtain ⟨h1, h2⟩ := putN_inj (by constructor <;> omega) (by constructor <;> omega) h
  exact List.append_inj h2 (by omega)

/-! ### lists -/
/-- n things that 'one' reads -/
def manyAt {α : Type} (one : Nat → Got α) : Nat → Nat → Got (List α)
  | 0, p => .ok [] p
  | n + 1, p => match one p with
    | .bad c i => .bad c i
    | .ok x q => match manyAt one n q with
      | .bad c i => .bad c i
      | .ok l r => .ok (x :: l) r
def listAt {α : Type} (l : List UInt8) (one : Nat → Got α) (most : Int) (p : Nat) : Got (List α) :=
  match numAt l p with
  | .bad c i => .bad c i
  | .ok n q => if n < 0 ∨ most < n then .bad 4 p else manyAt one n.toNat q
/-- one more behind -/
theorem manyAt_snoc {α : Type} {one : Nat → Got α} : ∀ (n p : Nat), manyAt one (n + 1) p = match manyAt one n p with
    | .bad c i => .bad c i
    | .ok l q => match one q with
      | .bad c i => .bad c i
      | .ok x r => .ok (l ++ [x]) r
  | 0, p => by
    simp only [manyAt]
    cases one p <;> rfl
  | n + 1, p => by
    rw [manyAt]
    cases h1 : one p with
    | bad c i => simp only [manyAt, h1]
    | ok x q =>
      simp only
      rw [manyAt_snoc n q]
      conv => rhs; rw [manyAt, h1]
      cases h2 : manyAt one n q with
      | bad c i => simp only [h2]
      | ok l r =>
        simp only [h2]
        cases one r <;> rfl
def putL {α : Type} (f : α → List UInt8) (l : List α) : List UInt8 := putN l.length ++ l.flatMap f
theorem manyAt_put {α : Type} {f : α → List UInt8} {b : List UInt8} {one : Nat → Got α} : ∀ (l : List α) (p : Nat), p ≤ b.length → (∀ x ∈ l, ∀ q r, q ≤ b.length → b.drop q = f x ++ r → one q = .ok x (q + (f x).length)) → ∀ r, b.drop p = l.flatMap f ++ r → manyAt one l.length p = .ok l (p + (l.flatMap f).length)
  | [], p, _, _, r, _ => by simp [manyAt]
  | x :: l, p, hp, h, r, hb => by
    simp only [List.flatMap_cons, List.append_assoc] at hb
    simp only [List.length_cons, manyAt]
    rw [h x (by simp) p _ hp hb]
    simp only
    have hl := congrArg List.length hb
    simp only [List.length_drop, List.length_append] at hl
    rw [manyAt_put l (p + (f x).length) (by omega) (fun y hy => h y (by simp [hy])) r (by rw [← List.drop_drop, hb, List.drop_left])]
    simp only [List.flatMap_cons, List.length_append]
    congr 1
    omega
theorem manyAt_ok {α : Type} {f : α → List UInt8} {b : List UInt8} {one : Nat → Got α} (h : ∀ p q x, p ≤ b.length → one p = .ok x q → p ≤ q ∧ q ≤ b.length ∧ b.drop p = f x ++ b.drop q) : ∀ (n p q : Nat) (l : List α), p ≤ b.length → manyAt one n p = .ok l q → l.length = n ∧ p ≤ q ∧ q ≤ b.length ∧ b.drop p = l.flatMap f ++ b.drop q
  | 0, p, q, l, hp, he => by
    simp only [manyAt] at he
    cases he
    simp [hp]
  | n + 1, p, q, l, hp, he => by
    simp only [manyAt] at he
    split at he
    · cases he
    · rename_i x q1 h1
      split at he
      · cases he
      · rename_i l' r h2
        cases he
        obtain ⟨a1, a2, a3⟩ := h p q1 x hp h1
        obtain ⟨b1, b2, b3, b4⟩ := manyAt_ok h n q1 _ _ a2 h2
        refine ⟨by simp [b1], by omega, b3, ?_⟩
        rw [a3, b4]
        simp
end Go.Proofs.YtffaffojkfalhaaGreatDoor
