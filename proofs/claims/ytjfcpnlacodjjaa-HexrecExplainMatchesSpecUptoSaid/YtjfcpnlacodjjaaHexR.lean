/-
  Files of hexadecimal records, plain: what To, From and Explain answer.
-/
import Derived.Test.YtjfcpnlacodjjaaHexP
import Derived.Test.YtjfcpnlacodjjaaCnvL
import Derived.Test.YtjfcpnlacodjjaaWirF
namespace Go.Proofs.Ytjfcpnlacodjjaa
open Go Go.RowKit

abbrev sAt : List UInt8 := [97, 116]
abbrev sData : List UInt8 := [100, 97, 116, 97]
abbrev segV (s : Seg) : Val := .mk 4 0 [] [sAt, sData] [.mk 1 (s.1 : Int) [] [] [], .mk 2 0 s.2 [] []]
abbrev hexVal (S : List Seg) : Val := .mk 3 0 [] [] (S.map segV)
abbrev ints (Z : List Nat) : List Int := Z.map fun (n : Nat) => (n : Int)
def resB (fl : Nat) (Z : List Nat) : List UInt8 := if fl = 0 ∧ Z = [] then [] else putN fl ++ putL putN (ints Z)
/-- the sizes that a residue tells -/
def szOf (S : List Seg) (Z : List Nat) : List Nat := if Z = usual S then [] else Z
def hexOne (fl : Nat) (l : List UInt8) : Option (Val × List UInt8) := match hexRead fl l with
  | none => none
  | some (S, Z) => if (vfault (hexVal S)).1 = 0 then some (hexVal S, resB fl (szOf S Z)) else none
def hexFrom (l : List UInt8) : Nat → Option (Val × List UInt8)
  | 0 => none
  | n + 1 => match hexOne (3 - n) l with
    | some x => some x
    | none => hexFrom l n
def hexTo (l : List UInt8) : Option (Val × List UInt8) := hexFrom l 4
/-- the segment of a part -/
def segOf (r : Val) : Option Seg := if r.kind = 4 ∧ r.names = [sAt, sData] then (match r.parts with
  | [a, d] => if a.kind = 1 ∧ d.kind = 2 ∧ 0 ≤ a.num ∧ a.num < 65536 ∧ d.bytes ≠ [] ∧ (d.bytes.length : Int) ≤ 65536 - a.num then some (a.num.toNat, d.bytes) else none
  | _ => none) else none
def hexShape (v : Val) : Option (List Seg) := if v.kind = 3 then allM segOf v.parts else none
def szOk (z : List Int) : Prop := ∀ n ∈ z, 1 ≤ n ∧ n ≤ 255
instance (z : List Int) : Decidable (szOk z) := by unfold szOk; infer_instance
def hexRaw (b : List UInt8) : Option (Int × List Int) := match numAt b 0 with
  | .bad _ _ => none
  | .ok c p => match listAt b (numAt b) 1000 p with
    | .bad _ _ => none
    | .ok z q => if q = b.length then some (c, z) else none
def hexRd (b : List UInt8) : Option (Nat × List Nat) := if b = [] then some (0, []) else match hexRaw b with
  | none => none
  | some (c, z) => if (0 ≤ c ∧ c < 4) ∧ ¬ (c = 0 ∧ z = []) ∧ szOk z then some (c.toNat, z.map Int.toNat) else none
noncomputable def hexMake (v : Val) (b : List UInt8) : Option (List UInt8) := match hexShape v with
  | none => none
  | some S => match hexRd b with
    | none => none
    | some (fl, Z) => match hexOut fl S Z with
      | none => none
      | some o => if o.length ≤ 1000 ∧ hexTo o = some (v, b) then some o else none
abbrev lsLower : List UInt8 := [108, 111, 119, 101, 114, 32, 99, 97, 115, 101]
abbrev lsCrlf : List UInt8 := [99, 97, 114, 114, 105, 97, 103, 101, 32, 114, 101, 116, 117, 114, 110, 32, 97, 110, 100, 32, 108, 105, 110, 101, 32, 102, 101, 101, 100]
abbrev lsRecords : List UInt8 := [114, 101, 99, 111, 114, 100, 115]
def lossHex (fl n : Nat) : List LossD := (if fl % 2 = 1 then [(lsLower, 1)] else []) ++ (if 2 ≤ fl then [(lsCrlf, 1)] else []) ++ (if 0 < n then [(lsRecords, (n : Int))] else [])
def hexLoss (b : List UInt8) : Option (List LossD) := match hexRd b with
  | none => none
  | some (fl, Z) => some (lossHex fl Z.length)
/-! ### residues -/
theorem ints_nat (Z : List Nat) : (ints Z).map Int.toNat = Z := by
  unfold ints
  rw [List.map_map]
  conv => rhs; rw [← List.map_id Z]
  exact List.map_congr_left fun x _ => by simp
theorem hexRaw_put {fl : Nat} {Z : List Nat} (hf : fl < 4) (hl : Z.length ≤ 1000) (hz : ∀ n ∈ Z, n ≤ 255) : hexRaw (putN fl ++ putL putN (ints Z)) = some ((fl : Int), ints Z) := by
  obtain ⟨b, hb⟩ : ∃ b, b = putN (fl : Int) ++ putL putN (ints Z) := ⟨_, rfl⟩
  rw [← hb]
  have e1 : b = [] ++ (putN (fl : Int) ++ putL putN (ints Z)) := by rw [hb]; rfl
  have n1 := numAt_put (n := (fl : Int)) (by omega) (by omega) [] (putL putN (ints Z))
  rw [← e1] at n1
  have e2 : b = putN (fl : Int) ++ (putN ((ints Z).length : Int) ++ ((ints Z).flatMap putN ++ [])) := by rw [hb, putL, List.append_nil]
  have hil : (ints Z).length = Z.length := by simp
  have n2 := numAt_put (n := ((ints Z).length : Int)) (by omega) (by omega) (putN (fl : Int)) ((ints Z).flatMap putN ++ [])
  rw [← e2] at n2
  have hbl := congrArg List.length e2
  simp only [List.length_append, List.length_nil] at hbl
  have n3 := manyAt_put (f := putN) (b := b) (one := numAt b) (ints Z) ((putN (fl : Int)).length + (putN ((ints Z).length : Int)).length) (by omega) (fun x hx q r hq hd => by
    obtain ⟨n, hn, rfl⟩ := List.mem_map.1 hx
    have := hz n hn
    have e : b = b.take q ++ (putN (n : Int) ++ r) := by rw [← hd, List.take_append_drop]
    have hql : (b.take q).length = q := by simp; omega
    have := numAt_put (n := (n : Int)) (by omega) (by omega) (b.take q) r
    rwa [hql, ← e] at this) [] (by
      rw [← List.drop_drop]
      conv => lhs; rw [e2]
      rw [List.drop_left, List.drop_left])
  unfold hexRaw
  simp only [List.length_nil, Nat.zero_add] at n1
  rw [n1]
  simp only
  unfold listAt
  rw [n2]
  simp only
  rw [if_neg (by omega), Int.toNat_natCast, n3]
  simp only
  rw [if_pos (by omega)]
theorem hexRd_res {fl : Nat} {Z : List Nat} (hf : fl < 4) (hl : Z.length ≤ 1000) (hz : ∀ n ∈ Z, 1 ≤ n ∧ n ≤ 255) : hexRd (resB fl Z) = some (fl, Z) := by
  unfold resB
  split
  · rename_i h
    obtain ⟨rfl, rfl⟩ := h
    rfl
  · rename_i hne
    unfold hexRd
    rw [if_neg, hexRaw_put hf hl fun n hn => (hz n hn).2]
    · simp only
      rw [if_pos, Int.toNat_natCast, ints_nat]
      refine ⟨by omega, fun q => hne ⟨by omega, ?_⟩, fun n hn => ?_⟩
      · have := q.2
        simpa [ints] using this
      · obtain ⟨m, hm, rfl⟩ := List.mem_map.1 hn
        have := hz m hm
        omega
    · intro h
      have := congrArg List.length h
      have := putU_len (zz (fl : Int))
      simp only [List.length_append, putN, List.length_nil] at *
      omega
theorem hexRaw_some {b : List UInt8} {c : Int} {z : List Int} (h : hexRaw b = some (c, z)) : b = putN c ++ putL putN z ∧ I64 c ∧ z.length ≤ 1000 := by
  unfold hexRaw at h
  split at h
  · cases h
  · rename_i c' p h1
    split at h
    · cases h
    · rename_i z' q h2
      split at h
      · rename_i hq
        cases h
        have a1 := numAt_split (Nat.zero_le _) h1
        obtain ⟨a2, a3, _, a4⟩ := numAt_ok (Nat.zero_le _) h1
        unfold listAt at h2
        split at h2
        · cases h2
        · rename_i n p2 h3
          split at h2
          · cases h2
          · rename_i hn
            have b1 := numAt_split a3 h3
            obtain ⟨b2, b3, _, b4⟩ := numAt_ok a3 h3
            obtain ⟨c1, c2, c3, c4⟩ := manyAt_ok (f := putN) (b := b) (one := numAt b) (fun p q x hp h => by
              obtain ⟨d1, d2, _, _⟩ := numAt_ok hp h
              exact ⟨by omega, d2, numAt_split hp h⟩) n.toNat p2 q z b3 h2
            rw [List.drop_zero] at a1
            rw [hq, List.drop_length, List.append_nil] at c4
            refine ⟨?_, a4, by omega⟩
            rw [a1, b1, c4, putL, c1, Int.toNat_of_nonneg (by omega)]
      · cases h
theorem hexRd_some {b : List UInt8} {fl : Nat} {Z : List Nat} (h : hexRd b = some (fl, Z)) : fl < 4 ∧ Z.length ≤ 1000 ∧ (∀ n ∈ Z, 1 ≤ n ∧ n ≤ 255) ∧ b = resB fl Z := by
  unfold hexRd at h
  split at h
  · rename_i hb
    cases h
    exact ⟨by omega, by simp, by simp, by rw [hb]; rfl⟩
  · split at h
    · cases h
    · rename_i c z hr
      obtain ⟨h1, h2, h3⟩ := hexRaw_some hr
      split at h
      · rename_i hc
        cases h
        obtain ⟨c1, c2, c3⟩ := hc
        have hz : ints (z.map Int.toNat) = z := by
          unfold ints
          rw [List.map_map]
          conv => rhs; rw [← List.map_id z]
          refine List.map_congr_left fun x hx => ?_
          have := c3 x hx
          show ((x.toNat : Nat) : Int) = x
          omega
        refine ⟨by omega, by simpa using h3, fun n hn => ?_, ?_⟩
        · obtain ⟨x, hx, rfl⟩ := List.mem_map.1 hn
          have := c3 x hx
          omega
        · unfold resB
          rw [if_neg, hz, Int.toNat_of_nonneg c1.1]
          · exact h1
          · rintro ⟨q1, q2⟩
            refine c2 ⟨by omega, ?_⟩
            simpa using q2
      · cases h
theorem resB_nil {fl : Nat} {Z : List Nat} : resB fl Z = [] ↔ fl = 0 ∧ Z = [] := by
  unfold resB
  constructor
  · intro h
    split at h
    · assumption
    · have := congrArg List.length h
      have := putU_len (zz (fl : Int))
      simp only [List.length_append, putN, List.length_nil] at *
      omega
  · intro h
    rw [if_pos h]
theorem lossHex_nil {fl n : Nat} (hf : fl < 4) : lossHex fl n = [] ↔ fl = 0 ∧ n = 0 := by
  unfold lossHex
  by_cases h1 : fl % 2 = 1
  · simp [h1]; omega
  · by_cases h2 : 2 ≤ fl
    · simp [h2]; omega
    · by_cases h3 : 0 < n
      · simp [h3]; omega
      · simp [h1, h2, h3]; omega
theorem lossHex_len (fl n : Nat) : (lossHex fl n).length ≤ 3 := by
  unfold lossHex
  simp only [List.length_append]
  split <;> split <;> split <;> simp
end Go.Proofs.Ytjfcpnlacodjjaa
