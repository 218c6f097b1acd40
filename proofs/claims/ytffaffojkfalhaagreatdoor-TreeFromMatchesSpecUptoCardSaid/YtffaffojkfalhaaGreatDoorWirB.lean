/-
  Bits: what the operations on them give.
-/
import Derived.Test.YtffaffojkfalhaaGreatDoorVcB
import Derived.Test.YtffaffojkfalhaaGreatDoorWirP
namespace Go.Proofs.YtffaffojkfalhaaGreatDoor
open Go Go.RowKit

theorem wrap_u64_nat {x : Nat} (h : x < 18446744073709551616) : IntKind.u64.wrap (x : Int) = x := by
  rw [← wr_eq]
  simp only [wr]
  omega
theorem wrap_u8_nat {x : Nat} (h : x < 256) : IntKind.u8.wrap (x : Int) = x := by
  rw [← wr_eq]
  simp only [wr]
  omega
theorem ofInt_nat {w x : Nat} (h : x < 2 ^ w) : (BitVec.ofInt w (x : Int)).toNat = x := by
  rw [BitVec.toNat_ofInt]
  have : ((x : Int) % (2 ^ w : Nat)) = x := Int.emod_eq_of_lt (by omega) (by exact_mod_cast h)
  rw [this]
  simp
theorem or128 {x : Nat} (h : x < 256) : bitsI .or .u8 (x : Int) 128 = ((x % 128 + 128 : Nat) : Int) := by
  have key : ∀ x : Fin 256, bitsI .or .u8 (x.val : Int) 128 = ((x.val % 128 + 128 : Nat) : Int) := by decide +kernel
  exact key ⟨x, h⟩
theorem and127 {x : Nat} (h : x < 256) : bitsI .and .u8 (x : Int) 127 = ((x % 128 : Nat) : Int) := by
  have key : ∀ x : Fin 256, bitsI .and .u8 (x.val : Int) 127 = ((x.val % 128 : Nat) : Int) := by decide +kernel
  exact key ⟨x, h⟩
theorem bits64 : IntKind.u64.bits = 64 := rfl
theorem and1 {x : Nat} (h : x < 18446744073709551616) : bitsI .and .u64 (x : Int) 1 = ((x % 2 : Nat) : Int) := by
  show IntKind.u64.wrap ((BitVec.ofInt 64 (x : Int) &&& BitVec.ofInt 64 1).toNat : Int) = _
  rw [BitVec.toNat_and, ofInt_nat (by simpa using h), show (BitVec.ofInt 64 1).toNat = 1 from rfl, Nat.and_one_is_mod, wrap_u64_nat (by omega)]
theorem or_shift {u x j : Nat} (hu : u < 2 ^ j) (hx : x * 2 ^ j < 18446744073709551616) (hu2 : u < 18446744073709551616) : bitsI .or .u64 (u : Int) ((x * 2 ^ j : Nat) : Int) = ((u + x * 2 ^ j : Nat) : Int) := by
  show IntKind.u64.wrap ((BitVec.ofInt 64 (u : Int) ||| BitVec.ofInt 64 ((x * 2 ^ j : Nat) : Int)).toNat : Int) = _
  rw [BitVec.toNat_or, ofInt_nat (by simpa using hu2), ofInt_nat (by simpa using hx)]
  have e : u ||| x * 2 ^ j = u + x * 2 ^ j := by
    rw [Nat.or_comm, Nat.mul_comm, ← Nat.two_pow_add_eq_or_of_lt hu, Nat.add_comm]
  rw [e]
  refine wrap_u64_nat ?_
  have h1 := Nat.or_lt_two_pow (x := u) (y := x * 2 ^ j) (n := 64) (by simpa using hu2) (by simpa using hx)
  rw [e] at h1
  simpa using h1
theorem zz_bits {n : Int} (h : I64 n) : bitsI .xor .u64 (((n % 18446744073709551616) * 2) % 18446744073709551616) ((n / 9223372036854775808) % 18446744073709551616) = (zz n : Int) := by
  obtain ⟨h1, h2⟩ := h
  have hz := zz_lt h1 h2
  show IntKind.u64.wrap ((BitVec.ofInt 64 _ ^^^ BitVec.ofInt 64 _).toNat : Int) = _
  by_cases hn : 0 ≤ n
  · have e1 : n / 9223372036854775808 % 18446744073709551616 = 0 := by omega
    have e2 : n % 18446744073709551616 * 2 % 18446744073709551616 = (zz n : Int) := by unfold zz; rw [if_pos hn]; omega
    rw [e1, e2, BitVec.toNat_xor, ofInt_nat (by simpa using hz), show (BitVec.ofInt 64 0).toNat = 0 from rfl, Nat.xor_zero, wrap_u64_nat hz]
  · have e1 : n / 9223372036854775808 % 18446744073709551616 = 18446744073709551615 := by omega
    have e2 : n % 18446744073709551616 * 2 % 18446744073709551616 = ((18446744073709551615 - zz n : Nat) : Int) := by unfold zz; rw [if_neg hn]; omega
    rw [e1, e2, show BitVec.ofInt 64 18446744073709551615 = BitVec.allOnes 64 from rfl, BitVec.xor_allOnes, BitVec.toNat_not, ofInt_nat (by simp only [Nat.reducePow]; omega)]
    rw [show (2 ^ 64 - 1 - (18446744073709551615 - zz n)) = zz n by simp only [Nat.reducePow]; omega, wrap_u64_nat hz]
theorem unzz_bits {u : Nat} (h : u < 18446744073709551616) : bitsI .xor .i64 ((u / 2 : Nat) : Int) (0 - ((u % 2 : Nat) : Int)) = unzz u := by
  show IntKind.i64.wrap ((BitVec.ofInt 64 _ ^^^ BitVec.ofInt 64 _).toNat : Int) = _
  unfold unzz
  rcases Nat.mod_two_eq_zero_or_one u with e | e
  · rw [e, if_pos rfl]
    rw [show (0 - ((0 : Nat) : Int)) = 0 from rfl, BitVec.toNat_xor, ofInt_nat (by simp only [Nat.reducePow]; omega), show (BitVec.ofInt 64 0).toNat = 0 from rfl, Nat.xor_zero]
    exact wrap_i64 (by constructor <;> omega)
  · rw [e, if_neg (by omega)]
    rw [show (0 - ((1 : Nat) : Int)) = -1 from rfl, show BitVec.ofInt 64 (-1) = BitVec.allOnes 64 from rfl, BitVec.xor_allOnes, BitVec.toNat_not, ofInt_nat (by simp only [Nat.reducePow]; omega)]
    have key : ∀ x : Int, 9223372036854775808 ≤ x → x < 18446744073709551616 → IntKind.i64.wrap x = x - 18446744073709551616 := by
      intro x h1 h2
      have : ∀ m p : Int, m = 18446744073709551616 → p = 9223372036854775808 → (if (true && decide (x % m ≥ p)) = true then x % m - m else x % m) = x - 18446744073709551616 := by
        rintro m p rfl rfl
        simp only [Bool.true_and, ge_iff_le, decide_eq_true_eq]
        split <;> omega
      exact this (2 ^ 64) (2 ^ 63) (by decide) (by decide)
    rw [key _ (by simp only [Nat.reducePow]; omega) (by simp only [Nat.reducePow]; omega)]
    simp only [Nat.reducePow]
    omega
end Go.Proofs.YtffaffojkfalhaaGreatDoor
namespace Go.Proofs.YtffaffojkfalhaaGreatDoor
open Go Go.RowKit

theorem wrap_i64_nat {x : Nat} (h : x < 9223372036854775808) : IntKind.i64.wrap (x : Int) = x := wrap_i64 (by constructor <;> omega)
theorem or_i64 {u x j : Nat} (hu : u < 2 ^ j) (hx : x * 2 ^ j + u < 9223372036854775808) : bitsI .or .i64 ((x * 2 ^ j : Nat) : Int) (u : Int) = ((x * 2 ^ j + u : Nat) : Int) := by
  show IntKind.i64.wrap ((BitVec.ofInt 64 ((x * 2 ^ j : Nat) : Int) ||| BitVec.ofInt 64 (u : Int)).toNat : Int) = _
  rw [BitVec.toNat_or, ofInt_nat (by simp only [Nat.reducePow]; omega), ofInt_nat (by simp only [Nat.reducePow]; omega)]
  have e : x * 2 ^ j ||| u = x * 2 ^ j + u := by
    rw [Nat.mul_comm, ← Nat.two_pow_add_eq_or_of_lt hu]
  rw [e]
  exact wrap_i64_nat hx
/-- high byte and low byte -/
theorem or_hi {x y : Nat} (hx : x < 256) (hy : y < 256) : bitsI .or .i64 ((x : Int) * 256) (y : Int) = ((256 * x + y : Nat) : Int) := by
  have := or_i64 (u := y) (x := x) (j := 8) hy (by simp only [Nat.reducePow]; omega)
  rw [show ((x : Int) * 256) = ((x * 2 ^ 8 : Nat) : Int) by simp only [Nat.reducePow]; omega, this]
  simp only [Nat.reducePow]
  congr 1
  omega
theorem bits_comm_or (k : IntKind) (a b : Int) : bitsI .or k a b = bitsI .or k b a := by
  show k.wrap _ = k.wrap _
  rw [BitVec.or_comm]
theorem or_lo {x y : Nat} (hx : x < 256) (hy : y < 256) : bitsI .or .i64 (y : Int) ((x : Int) * 256) = ((256 * x + y : Nat) : Int) := by
  rw [bits_comm_or, or_hi hx hy]
theorem shl8 : (2 : Int) ^ min (Int.toNat 8) IntKind.i64.bits = 256 := by decide
end Go.Proofs.YtffaffojkfalhaaGreatDoor
