/-
  Files of trees, plain: strings, numbers, tokens; what the reader does.
-/
import Derived.Test.YtffaffojkfalhaaGreatDoorCnvL
import Derived.Test.YtffaffojkfalhaaGreatDoorWirF
import Derived.Lib.ItoaMem
import Derived.Lib.ItoaLen
import Derived.Lib.AtoiAllCases
namespace Go.Proofs.YtffaffojkfalhaaGreatDoor
open Go Go.RowKit

/-! ### lists -/
theorem takeWhile_stop {p : UInt8 → Bool} {a : List UInt8} (h : ∀ c ∈ a, p c = true) {t : List UInt8} (ht : ∀ c r, t = c :: r → p c = false) : (a ++ t).takeWhile p = a ∧ (a ++ t).dropWhile p = t := by
  induction a with
  | nil =>
    cases t with
    | nil => exact ⟨rfl, rfl⟩
    | cons c r => simp [ht c r rfl]
  | cons c a ih =>
    obtain ⟨h1, h2⟩ := ih fun x hx => h x (by simp [hx])
    have hc := h c (by simp)
    simp only [List.cons_append, List.takeWhile_cons, List.dropWhile_cons, hc, if_true]
    exact ⟨by rw [h1], h2⟩
theorem takeWhile_all {p : UInt8 → Bool} : ∀ {l : List UInt8}, ∀ c ∈ l.takeWhile p, p c = true
  | [], c, h => by simp at h
  | x :: l, c, h => by
    simp only [List.takeWhile_cons] at h
    split at h
    · rename_i hx
      rcases List.mem_cons.1 h with rfl | h
      · exact hx
      · exact takeWhile_all c h
    · simp at h
theorem dropWhile_head {p : UInt8 → Bool} : ∀ {l : List UInt8} {c : UInt8} {r : List UInt8}, l.dropWhile p = c :: r → p c = false
  | [], c, r, h => by simp at h
  | x :: l, c, r, h => by
    simp only [List.dropWhile_cons] at h
    split at h
    · exact dropWhile_head h
    · rename_i hx
      cases h
      simpa using hx

theorem flatMap_eq {α β : Type} {f g : α → List β} : ∀ {l : List α}, (∀ x ∈ l, f x = g x) → l.flatMap f = l.flatMap g
  | [], _ => rfl
  | x :: l, h => by rw [List.flatMap_cons, List.flatMap_cons, h x (by simp), flatMap_eq fun y hy => h y (by simp [hy])]

/-! ### bytes -/
abbrev bkB (c : UInt8) : Bool := decide (c = 32) || decide (c = 9) || decide (c = 13) || decide (c = 10)
abbrev spcB (c : UInt8) : Bool := decide (c.toNat < 32) || decide (126 < c.toNat)
abbrev isDg (c : UInt8) : Bool := decide (48 ≤ c.toNat) && decide (c.toNat ≤ 57)
abbrev nmB (c : UInt8) : Bool := okN c.toNat
def hexD (n : Nat) : UInt8 := if n < 10 then UInt8.ofNat (48 + n) else UInt8.ofNat (87 + n)
def hexN (c : UInt8) : Option Nat := if 48 ≤ c.toNat ∧ c.toNat ≤ 57 then some (c.toNat - 48) else if 97 ≤ c.toNat ∧ c.toNat ≤ 102 then some (c.toNat - 87) else none
theorem hexN_hexD {n : Nat} (h : n < 16) : hexN (hexD n) = some n := by
  have key : ∀ n : Fin 16, hexN (hexD n.val) = some n.val := by decide
  exact key ⟨n, h⟩
theorem hexN_some {c : UInt8} {n : Nat} (h : hexN c = some n) : n < 16 ∧ hexD n = c := by
  unfold hexN at h
  split at h
  · cases h
    rename_i h1
    refine ⟨by omega, ?_⟩
    unfold hexD
    rw [if_pos (by omega)]
    apply UInt8.toNat_inj.1
    rw [UInt8.toNat_ofNat']
    omega
  · split at h
    · cases h
      rename_i h1
      refine ⟨by omega, ?_⟩
      unfold hexD
      rw [if_neg (by omega)]
      apply UInt8.toNat_inj.1
      rw [UInt8.toNat_ofNat']
      omega
    · cases h

/-! ### strings -/
def quoB (c : UInt8) : List UInt8 := if c = 34 ∨ c = 92 then [92, c] else if spcB c = true then [92, 120, hexD (c.toNat / 16), hexD (c.toNat % 16)] else [c]
def quoL (b : List UInt8) : List UInt8 := b.flatMap quoB
def quoT (b : List UInt8) : List UInt8 := 34 :: (quoL b ++ [34])
def escB : List UInt8 → Option (UInt8 × List UInt8)
  | [] => none
  | c :: r => if c = 34 ∨ c = 92 then some (c, r) else if c ≠ 120 then none else match r with
    | h :: l :: r' => (match hexN h, hexN l with
      | some a, some b => if spcB (UInt8.ofNat (16 * a + b)) = true then some (UInt8.ofNat (16 * a + b), r') else none
      | _, _ => none)
    | _ => none
theorem escB_cons (c : UInt8) (r : List UInt8) : escB (c :: r) = if c = 34 ∨ c = 92 then some (c, r) else if c ≠ 120 then none else match r with
    | h :: l :: r' => (match hexN h, hexN l with
      | some a, some b => if spcB (UInt8.ofNat (16 * a + b)) = true then some (UInt8.ofNat (16 * a + b), r') else none
      | _, _ => none)
    | _ => none := rfl
def trS : Nat → List UInt8 → Option (List UInt8 × List UInt8)
  | 0, _ => none
  | _ + 1, [] => none
  | n + 1, c :: r => if c = 34 then some ([], r) else if spcB c = true then none else if c = 92 then (match escB r with
      | none => none
      | some (d, r') => (trS n r').map fun x => (d :: x.1, x.2)) else (trS n r).map fun x => (c :: x.1, x.2)
theorem quoB_esc {d : UInt8} (h : d = 34 ∨ d = 92) : quoB d = [92, d] := by unfold quoB; rw [if_pos h]
theorem quoB_spc {d : UInt8} (h : spcB d = true) : quoB d = [92, 120, hexD (d.toNat / 16), hexD (d.toNat % 16)] := by
  have : ¬ (d = 34 ∨ d = 92) := by
    rintro (rfl | rfl) <;> exact absurd h (by decide)
  unfold quoB
  rw [if_neg this, if_pos h]
theorem quoB_plain {d : UInt8} (h1 : ¬ (d = 34 ∨ d = 92)) (h2 : spcB d = false) : quoB d = [d] := by
  unfold quoB
  rw [if_neg h1, if_neg (by simp [h2])]
theorem escB_some {r t : List UInt8} {d : UInt8} (h : escB r = some (d, t)) : 92 :: r = quoB d ++ t ∧ t.length < r.length := by
  cases r with
  | nil => simp [escB] at h
  | cons c r =>
    rw [escB_cons] at h
    split at h
    · rename_i hc
      cases h
      rw [quoB_esc hc]
      exact ⟨rfl, by simp⟩
    · split at h
      · cases h
      · rename_i h1 h2
        have hc : c = 120 := Decidable.not_not.1 h2
        split at h
        · rename_i x y r'
          split at h
          · rename_i a b ha hb
            split at h
            · rename_i hs
              cases h
              obtain ⟨a1, a2⟩ := hexN_some ha
              obtain ⟨b1, b2⟩ := hexN_some hb
              have hn : (UInt8.ofNat (16 * a + b)).toNat = 16 * a + b := by rw [UInt8.toNat_ofNat']; omega
              rw [quoB_spc hs, hn, show (16 * a + b) / 16 = a by omega, show (16 * a + b) % 16 = b by omega, a2, b2, hc]
              exact ⟨rfl, by simp; omega⟩
            · cases h
          · cases h
        · cases h
theorem escB_of {d : UInt8} (h : d = 34 ∨ d = 92 ∨ spcB d = true) (t : List UInt8) : ∃ r, quoB d ++ t = 92 :: r ∧ escB r = some (d, t) := by
  by_cases h1 : d = 34 ∨ d = 92
  · rw [quoB_esc h1]
    exact ⟨d :: t, rfl, by rw [escB_cons, if_pos h1]⟩
  · have h2 : spcB d = true := by
      rcases h with h | h | h
      · exact absurd (.inl h) h1
      · exact absurd (.inr h) h1
      · exact h
    rw [quoB_spc h2]
    have hlt := d.toNat_lt
    refine ⟨120 :: hexD (d.toNat / 16) :: hexD (d.toNat % 16) :: t, rfl, ?_⟩
    rw [escB_cons, if_neg (by decide), if_neg (by decide)]
    simp only [hexN_hexD (show d.toNat / 16 < 16 by omega), hexN_hexD (show d.toNat % 16 < 16 by omega)]
    have e : UInt8.ofNat (16 * (d.toNat / 16) + d.toNat % 16) = d := by
      apply UInt8.toNat_inj.1
      rw [UInt8.toNat_ofNat']
      omega
    rw [e, if_pos h2]
theorem trS_some : ∀ {n : Nat} {l b t : List UInt8}, trS n l = some (b, t) → l = quoL b ++ 34 :: t
  | 0, l, b, t, h => by simp [trS] at h
  | n + 1, [], b, t, h => by simp [trS] at h
  | n + 1, c :: r, b, t, h => by
    rw [trS] at h
    split at h
    · rename_i hc
      cases h
      rw [hc]
      rfl
    · rename_i hc
      split at h
      · cases h
      · rename_i hs
        split at h
        · rename_i h92
          split at h
          · cases h
          · rename_i d r' he
            obtain ⟨x, hx, h⟩ := Option.map_eq_some_iff.1 h
            obtain ⟨b', t'⟩ := x
            cases h
            have ih := trS_some hx
            rw [h92, (escB_some he).1, ih]
            simp [quoL]
        · rename_i h92
          obtain ⟨x, hx, h⟩ := Option.map_eq_some_iff.1 h
          obtain ⟨b', t'⟩ := x
          cases h
          have ih := trS_some hx
          rw [ih]
          simp [quoL, quoB_plain (d := c) (by rintro (h | h); exact hc h; exact h92 h) (by simpa using hs)]
theorem quoB_ne (c : UInt8) : ∃ x r, quoB c = x :: r ∧ x ≠ 34 := by
  by_cases h1 : c = 34 ∨ c = 92
  · exact ⟨92, [c], quoB_esc h1, by decide⟩
  · by_cases h2 : spcB c = true
    · exact ⟨92, _, quoB_spc h2, by decide⟩
    · exact ⟨c, [], quoB_plain h1 (by simpa using h2), fun e => h1 (.inl e)⟩
theorem trS_of : ∀ {b : List UInt8} {n : Nat} {t : List UInt8}, (quoL b).length < n → trS n (quoL b ++ 34 :: t) = some (b, t)
  | [], 0, t, h => by omega
  | [], n + 1, t, h => by simp [quoL, trS]
  | c :: b, 0, t, h => by omega
  | c :: b, n + 1, t, h => by
    have e : quoL (c :: b) = quoB c ++ quoL b := by simp [quoL]
    have hl : (quoB c).length ≥ 1 := by
      obtain ⟨x, r, hx, _⟩ := quoB_ne c
      rw [hx]; simp
    rw [e, List.length_append] at h
    have ih := trS_of (b := b) (n := n) (t := t) (by omega)
    rw [e, List.append_assoc]
    by_cases h1 : c = 34 ∨ c = 92 ∨ spcB c = true
    · obtain ⟨r, h2, h3⟩ := escB_of h1 (quoL b ++ 34 :: t)
      rw [h2, trS, if_neg (by decide), if_neg (by decide), if_pos rfl, h3]
      simp only [ih, Option.map_some]
    · have h2 : ¬ (c = 34 ∨ c = 92) := fun h => h1 (h.imp_right .inl)
      have h3 : spcB c = false := by simpa using fun h => h1 (.inr (.inr h))
      rw [quoB_plain h2 h3]
      simp only [List.cons_append, List.nil_append]
      rw [trS, if_neg (fun h => h2 (.inl h)), if_neg (by simp [h3]), if_neg (fun h => h2 (.inr h)), ih]
      rfl
theorem quoL_inj {a b : List UInt8} {s t : List UInt8} (h : quoL a ++ 34 :: s = quoL b ++ 34 :: t) : a = b ∧ s = t := by
  have h1 := trS_of (b := a) (n := (quoL a).length + (quoL b).length + 1) (t := s) (by omega)
  rw [h, trS_of (b := b) (n := (quoL a).length + (quoL b).length + 1) (t := t) (by omega)] at h1
  cases h1
  exact ⟨rfl, rfl⟩

/-! ### numbers -/
def trNum (s : List UInt8) : Option Int := match Lib.atoiAll s with
  | .ok v => if Lib.itoa v = s then some v else none
  | _ => none
theorem trNum_some {s : List UInt8} {v : Int} (h : trNum s = some v) : s = Lib.itoa v ∧ I64 v := by
  unfold trNum at h
  split at h
  · rename_i u hu
    split at h
    · rename_i he
      cases h
      exact ⟨he.symm, Lib.atoiAll_bounds hu⟩
    · cases h
  · cases h
theorem parse_append : ∀ (a b : List UInt8) (acc : Nat), Lib.parseUint10 acc (a ++ b) = match Lib.parseUint10 acc a with
    | .ok u => Lib.parseUint10 u b
    | e => e
  | [], b, acc => rfl
  | c :: a, b, acc => by
    simp only [List.cons_append, Lib.parseUint10]
    split
    · split
      · rfl
      · split
        · rfl
        · exact parse_append a b _
    · rfl
theorem dg_nat {n : Nat} (h : n < 10) : (UInt8.ofNat (48 + n)).toNat = 48 + n := by rw [UInt8.toNat_ofNat']; omega
theorem parse_dec : ∀ (u : Nat), u < 18446744073709551616 → Lib.parseUint10 0 (Lib.decDigits u) = .ok u := by
  intro u
  induction u using Nat.strongRecOn with
  | _ u ih =>
    intro hu
    by_cases h : u < 10
    · rw [Lib.decDigits_one h]
      simp only [Lib.parseUint10, dg_nat h]
      rw [if_pos (by omega), if_neg (by omega), if_neg (by omega)]
      congr 1
      omega
    · rw [Lib.decDigits, dif_neg h, parse_append, ih (u / 10) (by omega) (by omega)]
      simp only [Lib.parseUint10, dg_nat (show u % 10 < 10 by omega)]
      rw [if_pos (by omega), if_neg (by omega), if_neg (by omega)]
      congr 1
      omega
theorem dec_dg : ∀ (u : Nat), ∀ c ∈ Lib.decDigits u, isDg c = true := by
  intro u
  induction u using Nat.strongRecOn with
  | _ u ih =>
    intro c hc
    by_cases h : u < 10
    · rw [Lib.decDigits_one h] at hc
      simp only [List.mem_singleton] at hc
      subst hc
      simp only [isDg, dg_nat h]
      simp
      omega
    · rw [Lib.decDigits, dif_neg h] at hc
      rcases List.mem_append.1 hc with hc | hc
      · exact ih (u / 10) (by omega) c hc
      · simp only [List.mem_singleton] at hc
        subst hc
        simp only [isDg, dg_nat (show u % 10 < 10 by omega)]
        simp
        omega
theorem dec_ne (u : Nat) : ∃ c r, Lib.decDigits u = c :: r := by
  cases h : Lib.decDigits u with
  | nil =>
    have := Lib.decDigits_length u
    rw [h] at this
    have := Lib.nDigits_pos u
    simp at *
    omega
  | cons c r => exact ⟨c, r, rfl⟩
theorem parseMag_dec {u : Nat} (h : u < 18446744073709551616) : Lib.parseMag (Lib.decDigits u) = .ok u := by
  obtain ⟨c, r, hc⟩ := dec_ne u
  unfold Lib.parseMag
  rw [if_neg (by rw [hc]; simp), parse_dec u h]
theorem trNum_of {v : Int} (h : I64 v) : trNum (Lib.itoa v) = some v := by
  have key : Lib.atoiAll (Lib.itoa v) = .ok v := by
    unfold Lib.itoa
    split
    · rename_i hn
      rw [Lib.atoiAll_minus, parseMag_dec (by omega)]
      simp only [Lib.signed]
      rw [if_neg (by omega)]
      congr 1
      omega
    · rename_i hn
      obtain ⟨c, r, hc⟩ := dec_ne v.toNat
      have hd := dec_dg v.toNat c (by rw [hc]; simp)
      simp only [isDg, Bool.and_eq_true, decide_eq_true_eq] at hd
      rw [hc, Lib.atoiAll_plain c r (by omega) (by omega), ← hc, parseMag_dec (by omega)]
      simp only [Lib.signless]
      rw [if_neg (by omega)]
      congr 1
      omega
  unfold trNum
  rw [key]
  simp
def numT (l : List UInt8) : List UInt8 := match l with
  | [] => []
  | c :: r => if c = 45 then 45 :: r.takeWhile isDg else (c :: r).takeWhile isDg
theorem numT_cons (c : UInt8) (r : List UInt8) : numT (c :: r) = if c = 45 then 45 :: r.takeWhile isDg else (c :: r).takeWhile isDg := rfl
theorem numT_pre (l : List UInt8) : ∃ t, l = numT l ++ t := by
  cases l with
  | nil => exact ⟨[], rfl⟩
  | cons c r =>
    rw [numT_cons]
    split
    · rename_i h
      exact ⟨r.dropWhile isDg, by rw [h, List.cons_append, List.takeWhile_append_dropWhile]⟩
    · exact ⟨(c :: r).dropWhile isDg, by rw [List.takeWhile_append_dropWhile]⟩
theorem itoa_ne (v : Int) : ∃ c r, Lib.itoa v = c :: r ∧ (c = 45 ∨ isDg c = true) ∧ ∀ x ∈ r, isDg x = true := by
  unfold Lib.itoa
  split
  · exact ⟨45, _, rfl, .inl rfl, dec_dg _⟩
  · obtain ⟨c, r, hc⟩ := dec_ne v.toNat
    rw [hc]
    exact ⟨c, r, rfl, .inr (dec_dg v.toNat c (by rw [hc]; simp)), fun x hx => dec_dg v.toNat x (by rw [hc]; simp [hx])⟩
theorem numT_of {v : Int} {t : List UInt8} (ht : ∀ c r, t = c :: r → isDg c = false) : numT (Lib.itoa v ++ t) = Lib.itoa v := by
  obtain ⟨c, r, hc, h1, h2⟩ := itoa_ne v
  rw [hc, List.cons_append, numT_cons]
  split
  · rename_i h
    rw [(takeWhile_stop h2 ht).1, h]
  · rename_i h
    have h1 := h1.resolve_left h
    rw [← List.cons_append, (takeWhile_stop (fun x hx => by rcases List.mem_cons.1 hx with rfl | hx; exact h1; exact h2 x hx) ht).1]

/-! ### tokens -/
abbrev Tok := List UInt8
abbrev af (s : Tok) : Bool := decide (s = [44]) || decide (s = [58])
abbrev wantB (sp : Bool) : List UInt8 := if sp = true then [32] else []
def tokV : Val → List Tok
  | .mk k n b s ps => if k = 1 then [Lib.itoa n] else if k = 2 then [quoT b] else
    [if k = 4 then 123 else 91] :: ((ps.attach.zipIdx.flatMap fun p => (if p.2 = 0 then [] else [[44]]) ++ ((if k = 4 then [s.getD p.2 [], [58]] else []) ++ tokV p.1.1)) ++ [[if k = 4 then 125 else 93]])
decreasing_by
  have := List.sizeOf_lt_of_mem p.1.2
  simp only [Val.mk.sizeOf_spec]
  omega
/-- one part, at a place -/
def tokE (k : Int) (s : List (List UInt8)) (i : Nat) (p : Val) : List Tok := (if i = 0 then [] else [[44]]) ++ ((if k = 4 then [s.getD i [], [58]] else []) ++ tokV p)
def tokL (k : Int) (s : List (List UInt8)) (ps : List Val) : List Tok := ps.zipIdx.flatMap fun p => tokE k s p.2 p.1
abbrev opT (k : Int) : Tok := [if k = 4 then 123 else 91]
abbrev enT (k : Int) : Tok := [if k = 4 then 125 else 93]
theorem tokV_eq (v : Val) : tokV v = if v.kind = 1 then [Lib.itoa v.num] else if v.kind = 2 then [quoT v.bytes] else opT v.kind :: (tokL v.kind v.names v.parts ++ [enT v.kind]) := by
  cases v with
  | mk k n b s ps =>
    rw [tokV]
    simp only [Val.parts]
    split
    · rfl
    · split
      · rfl
      · congr 2
        unfold tokL tokE
        conv => rhs; rw [← List.attach_map_subtype_val ps, List.zipIdx_map, List.flatMap_map]
        rfl
theorem tokV_num (n : Int) : tokV (.mk 1 n [] [] []) = [Lib.itoa n] := by rw [tokV_eq, if_pos rfl]
theorem tokV_byt (b : List UInt8) : tokV (.mk 2 0 b [] []) = [quoT b] := (tokV_eq _).trans rfl
theorem tokV_lst (ps : List Val) : tokV (.mk 3 0 [] [] ps) = opT 3 :: (tokL 3 [] ps ++ [enT 3]) := (tokV_eq _).trans rfl
theorem tokV_rcd (s : List (List UInt8)) (ps : List Val) : tokV (.mk 4 0 [] s ps) = opT 4 :: (tokL 4 s ps ++ [enT 4]) := (tokV_eq _).trans rfl
theorem tokL_nil (k : Int) (s : List (List UInt8)) : tokL k s [] = [] := rfl
theorem tokL_snoc (k : Int) (s : List (List UInt8)) (ps : List Val) (p : Val) : tokL k s (ps ++ [p]) = tokL k s ps ++ tokE k s ps.length p := by
  unfold tokL
  rw [List.zipIdx_append, List.flatMap_append]
  simp
theorem tokL_names (k : Int) (s t : List (List UInt8)) (ps : List Val) (h : k = 4 → ps.length ≤ s.length) : tokL k (s ++ t) ps = tokL k s ps := by
  unfold tokL
  refine flatMap_eq fun p hp => ?_
  unfold tokE
  by_cases hk : k = 4
  · rw [if_pos hk, if_pos hk]
    have h1 := h hk
    have h2 : p.2 < ps.length := by
      obtain ⟨i, hi⟩ := List.mem_iff_getElem?.1 hp
      rw [List.getElem?_zipIdx] at hi
      obtain ⟨x, hx, rfl⟩ := Option.map_eq_some_iff.1 hi
      simpa using (List.getElem?_eq_some_iff.1 hx).1
    have e : (s ++ t).getD p.2 [] = s.getD p.2 [] := by simp [List.getD, List.getElem?_append_left (show p.2 < s.length by omega)]
    rw [e]
  · rw [if_neg hk, if_neg hk]
/-- what the notation can tell -/
inductive WfV : Val → Prop where
  | num {n : Int} (h : I64 n) : WfV (.mk 1 n [] [] [])
  | byt (b : List UInt8) : WfV (.mk 2 0 b [] [])
  | lst {ps : List Val} (h : ∀ p ∈ ps, WfV p) : WfV (.mk 3 0 [] [] ps)
  | rcd {s : List (List UInt8)} {ps : List Val} (hs : ∀ x ∈ s, nameOk x = true) (hl : s.length = ps.length) (h : ∀ p ∈ ps, WfV p) : WfV (.mk 4 0 [] s ps)

/-! ### the reader -/
structure RS where
  rest : List UInt8
  cnt : Nat
  last : Tok
  oth : List (Nat × List UInt8)
def skR (want : List UInt8) (s : RS) : RS := ⟨s.rest.dropWhile bkB, s.cnt + 1, [], if s.rest.takeWhile bkB = want then s.oth else s.oth ++ [(s.cnt, s.rest.takeWhile bkB)]⟩
def pk (s : RS) : Option UInt8 := (s.rest.dropWhile bkB).head?
abbrev sk0 (s : RS) : RS := skR (wantB (af s.last)) s
def sgR (c : UInt8) (s : RS) : Option RS := if pk s = some c then some { sk0 s with last := [c], rest := (s.rest.dropWhile bkB).tail } else none
def nmR (s : RS) : Option (List UInt8 × RS) := if pk s = none then none else
  if nameOk ((s.rest.dropWhile bkB).takeWhile nmB) = true then some ((s.rest.dropWhile bkB).takeWhile nmB, { sk0 s with rest := (s.rest.dropWhile bkB).dropWhile nmB }) else none
def nuR (s : RS) : Option (Int × RS) := match trNum (numT (s.rest.dropWhile bkB)) with
  | none => none
  | some v => some (v, { sk0 s with rest := (s.rest.dropWhile bkB).drop (numT (s.rest.dropWhile bkB)).length })
def txR (s : RS) : Option (List UInt8 × RS) := match trS ((s.rest.dropWhile bkB).length + 1) (s.rest.dropWhile bkB).tail with
  | none => none
  | some (b, t) => some (b, { sk0 s with rest := t })
abbrev EL := List (List UInt8) × List Val × RS
abbrev TrF := RS → Option (Val × RS)
def elV (f : TrF) (ns : List (List UInt8)) (ps : List Val) (s : RS) : Option EL := match f s with
  | none => none
  | some (v, s) => some (ns, ps ++ [v], s)
def elR (f : TrF) (k : Int) (x : EL) : Option EL :=
  if k = 4 then match nmR x.2.2 with
    | none => none
    | some (nm, s) => match sgR 58 s with
      | none => none
      | some s => elV f (x.1 ++ [nm]) x.2.1 s
  else elV f x.1 x.2.1 x.2.2
def lpR (f : TrF) (k : Int) : Nat → EL → Option EL
  | 0, _ => none
  | n + 1, x => match pk x.2.2 with
    | none => none
    | some c => if c = 44 then (match sgR 44 x.2.2 with
        | none => none
        | some s => match elR f k (x.1, x.2.1, s) with
          | none => none
          | some y => lpR f k n y) else some x
def enR (e : UInt8) (x : EL) : Option EL := match sgR e x.2.2 with
  | none => none
  | some s => some (x.1, x.2.1, s)
def lsR (f : TrF) (k : Int) (s : RS) : Option EL := match sgR (if k = 4 then 123 else 91) s with
  | none => none
  | some s => match pk s with
    | none => none
    | some c => if c = (if k = 4 then 125 else 93) then enR (if k = 4 then 125 else 93) ([], [], s) else match elR f k ([], [], s) with
      | none => none
      | some y => match lpR f k (y.2.2.rest.length + 1) y with
        | none => none
        | some z => enR (if k = 4 then 125 else 93) z
def rdV : Nat → TrF
  | 0, _ => none
  | n + 1, s => match pk s with
    | none => none
    | some c => if c = 34 then (txR s).map fun x => (.mk 2 0 x.1 [] [], x.2)
      else if c = 91 then (lsR (rdV n) 3 s).map fun x => (.mk 3 0 [] x.1 x.2.1, x.2.2)
      else if c = 123 then (lsR (rdV n) 4 s).map fun x => (.mk 4 0 [] x.1 x.2.1, x.2.2)
      else (nuR s).map fun x => (.mk 1 x.1 [] [] [], x.2)
def trF (l : List UInt8) : Option (Val × List (Nat × List UInt8)) := match rdV (l.length + 1) ⟨l, 0, [], []⟩ with
  | none => none
  | some (v, s) => if (skR [10] s).rest = [] then some (v, (skR [10] s).oth) else none

/-! ### what was read -/
abbrev BL := List (List UInt8 × Tok)
def flatB (L : BL) : List UInt8 := L.flatMap fun p => p.1 ++ p.2
def dif : Nat → Bool → BL → List (Nat × List UInt8)
  | _, _, [] => []
  | i, sp, p :: L => (if p.1 = wantB sp then [] else [(i, p.1)]) ++ dif (i + 1) (af p.2) L
def afB (sp : Bool) : BL → Bool
  | [] => sp
  | p :: L => afB (af p.2) L
theorem flatB_append (a b : BL) : flatB (a ++ b) = flatB a ++ flatB b := by simp [flatB]
theorem flatB_cons (p : List UInt8 × Tok) (b : BL) : flatB (p :: b) = p.1 ++ (p.2 ++ flatB b) := by simp [flatB]
theorem afB_append : ∀ (sp : Bool) (a b : BL), afB sp (a ++ b) = afB (afB sp a) b
  | _, [], _ => rfl
  | _, _ :: a, b => afB_append _ a b
theorem dif_append : ∀ (i : Nat) (sp : Bool) (a b : BL), dif i sp (a ++ b) = dif i sp a ++ dif (i + a.length) (afB sp a) b
  | _, _, [], _ => rfl
  | i, sp, p :: a, b => by
    rw [List.cons_append, dif, dif, dif_append (i + 1) (af p.2) a b, List.append_assoc, List.length_cons, show i + 1 + a.length = i + (a.length + 1) by omega]
    rfl
/-- from s the reader comes to s' over the tokens of L -/
structure TRds (s : RS) (L : BL) (s' : RS) : Prop where
  rest : s.rest = flatB L ++ s'.rest
  bk : ∀ p ∈ L, ∀ c ∈ p.1, bkB c = true
  cnt : s'.cnt = s.cnt + L.length
  sp : af s'.last = afB (af s.last) L
  oth : s'.oth = s.oth ++ dif s.cnt (af s.last) L
theorem TRds.refl (s : RS) : TRds s [] s := ⟨rfl, by simp, rfl, rfl, by simp [dif]⟩
theorem TRds.trans {a b c : RS} {L M : BL} (h : TRds a L b) (k : TRds b M c) : TRds a (L ++ M) c := by
  refine ⟨by rw [h.rest, k.rest, flatB_append, List.append_assoc], fun p hp => ?_, by rw [k.cnt, h.cnt, List.length_append, Nat.add_assoc], by rw [k.sp, h.sp, afB_append], by rw [k.oth, h.oth, dif_append, List.append_assoc, h.cnt, h.sp]⟩
  rcases List.mem_append.1 hp with hp | hp
  · exact h.bk p hp
  · exact k.bk p hp
theorem TRds.one {s : RS} {t : Tok} {r : List UInt8} {ls : Tok} (h : s.rest.dropWhile bkB = t ++ r) (hl : af ls = af t) : TRds s [(s.rest.takeWhile bkB, t)] { sk0 s with last := ls, rest := r } := by
  refine ⟨?_, ?_, rfl, hl, ?_⟩
  · conv => lhs; rw [← List.takeWhile_append_dropWhile (p := bkB) (l := s.rest), h]
    simp [flatB]
  · intro p hp
    simp only [List.mem_singleton] at hp
    subst hp
    exact takeWhile_all
  · simp only [skR, dif, List.append_nil]
    split <;> simp
theorem sgR_some {c : UInt8} {s s' : RS} (h : sgR c s = some s') : TRds s [(s.rest.takeWhile bkB, [c])] s' := by
  unfold sgR at h
  split at h
  · rename_i hp
    cases h
    refine TRds.one ?_ rfl
    unfold pk at hp
    cases hd : s.rest.dropWhile bkB with
    | nil => rw [hd] at hp; cases hp
    | cons x r => rw [hd] at hp; cases hp; rfl
  · cases h
theorem nameOk_af {x : List UInt8} (h : nameOk x = true) : af x = false := by
  cases e : af x with
  | false => rfl
  | true =>
    simp only [af, Bool.or_eq_true, decide_eq_true_eq] at e
    rcases e with rfl | rfl <;> exact absurd h (by decide)
theorem quoT_af (b : List UInt8) : af (quoT b) = false := by
  simp [af, quoT]
theorem itoa_af (v : Int) : af (Lib.itoa v) = false := by
  obtain ⟨c, r, hc, h1, _⟩ := itoa_ne v
  rw [hc]
  cases e : af (c :: r) with
  | false => rfl
  | true =>
    simp only [af, Bool.or_eq_true, decide_eq_true_eq, List.cons.injEq] at e
    rcases e with ⟨rfl, _⟩ | ⟨rfl, _⟩ <;> rcases h1 with h1 | h1 <;> exact absurd h1 (by decide)
theorem nmR_some {s s' : RS} {x : List UInt8} (h : nmR s = some (x, s')) : TRds s [(s.rest.takeWhile bkB, x)] s' ∧ nameOk x = true := by
  unfold nmR at h
  split at h
  · cases h
  · split at h
    · rename_i hn
      cases h
      exact ⟨TRds.one (by rw [List.takeWhile_append_dropWhile]) (by rw [nameOk_af hn]; rfl), hn⟩
    · cases h
theorem nuR_some {s s' : RS} {v : Int} (h : nuR s = some (v, s')) : TRds s [(s.rest.takeWhile bkB, Lib.itoa v)] s' ∧ I64 v := by
  unfold nuR at h
  split at h
  · cases h
  · rename_i u hu
    cases h
    obtain ⟨h1, h2⟩ := trNum_some hu
    refine ⟨TRds.one ?_ (by rw [itoa_af]; rfl), h2⟩
    obtain ⟨t, ht⟩ := numT_pre (s.rest.dropWhile bkB)
    rw [h1] at ht
    rw [h1]
    conv => lhs; rw [ht]
    congr 1
    conv => rhs; rw [ht]
    rw [List.drop_left]
theorem txR_some {s s' : RS} {b : List UInt8} (hp : pk s = some 34) (h : txR s = some (b, s')) : TRds s [(s.rest.takeWhile bkB, quoT b)] s' := by
  unfold txR at h
  split at h
  · cases h
  · rename_i b' t hs
    cases h
    refine TRds.one ?_ (by rw [quoT_af]; rfl)
    have h1 := trS_some hs
    unfold pk at hp
    cases hd : s.rest.dropWhile bkB with
    | nil => rw [hd] at hp; cases hp
    | cons x r =>
      rw [hd] at hp h1
      cases hp
      simp only [List.tail_cons] at h1
      rw [h1]
      simp [quoT]
/-- of a reader of values -/
def TrOk (f : TrF) : Prop := ∀ s v s', f s = some (v, s') → ∃ L, TRds s L s' ∧ L.map Prod.snd = tokV v ∧ WfV v
/-- what was read of a list or a record that began at s0 -/
structure ElOk (k : Int) (s0 : RS) (x : EL) : Prop where
  ex : ∃ L, TRds s0 L x.2.2 ∧ L.map Prod.snd = tokL k x.1 x.2.1
  wf : ∀ p ∈ x.2.1, WfV p
  nm : ∀ n ∈ x.1, nameOk n = true
  len : k = 4 → x.1.length = x.2.1.length
  nil : k ≠ 4 → x.1 = []
theorem elV_some {f : TrF} (hf : TrOk f) {ns : List (List UInt8)} {ps : List Val} {s : RS} {y : EL} (h : elV f ns ps s = some y) : ∃ v L, y.1 = ns ∧ y.2.1 = ps ++ [v] ∧ TRds s L y.2.2 ∧ L.map Prod.snd = tokV v ∧ WfV v := by
  unfold elV at h
  split at h
  · cases h
  · rename_i v s' hv
    cases h
    obtain ⟨L, h1, h2, h3⟩ := hf _ _ _ hv
    exact ⟨v, L, rfl, rfl, h1, h2, h3⟩
theorem elR_some {f : TrF} (hf : TrOk f) {k : Int} {s0 s1 : RS} {ns : List (List UInt8)} {ps : List Val} {s : RS} {y : EL} (hx : ElOk k s0 (ns, ps, s1)) {L0 : BL} (h0 : TRds s1 L0 s) (hL0 : L0.map Prod.snd = (if ps.length = 0 then [] else [[44]])) (h : elR f k (ns, ps, s) = some y) : ElOk k s0 y := by
  obtain ⟨⟨L, hL, ht⟩, hw, hn, hl, hz⟩ := hx
  dsimp only at hL ht hw hn hl hz
  unfold elR at h
  split at h
  · rename_i hk
    split at h
    · cases h
    · rename_i nm s2 h2
      split at h
      · cases h
      · rename_i s3 h3
        obtain ⟨v, M, e1, e2, h4, h5, h6⟩ := elV_some hf h
        obtain ⟨y1, y2, y3⟩ := y
        dsimp only at e1 e2 h4
        subst e1 e2
        obtain ⟨h7, h8⟩ := nmR_some h2
        have h9 := sgR_some h3
        refine ⟨⟨_, ((hL.trans h0).trans ((h7.trans h9).trans h4)), ?_⟩, ?_, ?_, fun _ => by have := hl hk; simp; omega, fun hk' => absurd hk hk'⟩
        · rw [tokL_snoc, tokL_names k ns [nm] ps (fun _ => by have := hl hk; omega)]
          unfold tokE
          rw [if_pos hk]
          have e : (ns ++ [nm]).getD ps.length [] = nm := by
            have := hl hk
            simp [List.getD, ← this]
          rw [e]
          simp only [List.map_append, List.map_cons, List.map_nil, ht, hL0, h5]
          simp
        · intro p hp
          rcases List.mem_append.1 hp with hp | hp
          · exact hw p hp
          · simp only [List.mem_singleton] at hp
            subst hp
            exact h6
        · intro n hn'
          rcases List.mem_append.1 hn' with hn' | hn'
          · exact hn n hn'
          · simp only [List.mem_singleton] at hn'
            subst hn'
            exact h8
  · rename_i hk
    obtain ⟨v, M, e1, e2, h4, h5, h6⟩ := elV_some hf h
    obtain ⟨y1, y2, y3⟩ := y
    dsimp only at e1 e2 h4
    subst e1 e2
    refine ⟨⟨_, (hL.trans h0).trans h4, ?_⟩, ?_, hn, fun hk' => absurd hk' hk, hz⟩
    · rw [tokL_snoc]
      unfold tokE
      rw [if_neg hk]
      simp only [List.map_append, ht, hL0, h5]
      simp
    · intro p hp
      rcases List.mem_append.1 hp with hp | hp
      · exact hw p hp
      · simp only [List.mem_singleton] at hp
        subst hp
        exact h6
theorem elR_more {f : TrF} {k : Int} {x y : EL} (h : elR f k x = some y) : y.2.1.length = x.2.1.length + 1 := by
  have key : ∀ ns ps s, elV f ns ps s = some y → y.2.1.length = ps.length + 1 := by
    intro ns ps s h
    unfold elV at h
    split at h
    · cases h
    · cases h; simp
  unfold elR at h
  split at h
  · split at h
    · cases h
    · split at h
      · cases h
      · exact key _ _ _ h
  · exact key _ _ _ h
theorem lpR_some {f : TrF} (hf : TrOk f) {k : Int} {s0 : RS} : ∀ {n : Nat} {x y : EL}, ElOk k s0 x → x.2.1.length ≠ 0 → lpR f k n x = some y → ElOk k s0 y
  | 0, x, y, _, _, h => by simp [lpR] at h
  | n + 1, x, y, hx, hne, h => by
    rw [lpR] at h
    split at h
    · cases h
    · split at h
      · split at h
        · cases h
        · rename_i s hs
          split at h
          · cases h
          · rename_i z hz
            refine lpR_some hf ?_ (by rw [elR_more hz]; omega) h
            obtain ⟨ns, ps, s1⟩ := x
            exact elR_some hf hx (sgR_some hs) (by rw [if_neg hne]; rfl) hz
      · cases h
        exact hx
theorem enR_some {e : UInt8} {x y : EL} (h : enR e x = some y) : y.1 = x.1 ∧ y.2.1 = x.2.1 ∧ TRds x.2.2 [(x.2.2.rest.takeWhile bkB, [e])] y.2.2 := by
  unfold enR at h
  split at h
  · cases h
  · rename_i s hs
    cases h
    exact ⟨rfl, rfl, sgR_some hs⟩
theorem lsR_some {f : TrF} (hf : TrOk f) {k : Int} {s : RS} {y : EL} (h : lsR f k s = some y) :
    (∃ L, TRds s L y.2.2 ∧ L.map Prod.snd = opT k :: (tokL k y.1 y.2.1 ++ [enT k])) ∧ (∀ p ∈ y.2.1, WfV p) ∧ (∀ n ∈ y.1, nameOk n = true) ∧ (k = 4 → y.1.length = y.2.1.length) ∧ (k ≠ 4 → y.1 = []) := by
  obtain ⟨e, he⟩ : ∃ e, e = (if k = 4 then (125 : UInt8) else 93) := ⟨_, rfl⟩
  have fin : ∀ s1 x, TRds s [(s.rest.takeWhile bkB, opT k)] s1 → ElOk k s1 x → enR e x = some y →
      (∃ L, TRds s L y.2.2 ∧ L.map Prod.snd = opT k :: (tokL k y.1 y.2.1 ++ [enT k])) ∧ (∀ p ∈ y.2.1, WfV p) ∧ (∀ n ∈ y.1, nameOk n = true) ∧ (k = 4 → y.1.length = y.2.1.length) ∧ (k ≠ 4 → y.1 = []) := by
    intro s1 x h1 hx hen
    obtain ⟨e1, e2, h2⟩ := enR_some hen
    obtain ⟨⟨L, hL, ht⟩, hw, hn, hl, hz⟩ := hx
    rw [e1, e2]
    refine ⟨⟨_, h1.trans (hL.trans h2), ?_⟩, hw, hn, hl, hz⟩
    subst he
    simp [ht]
  unfold lsR at h
  rw [← he] at h
  split at h
  · cases h
  · rename_i s1 h1
    have h1 := sgR_some h1
    have hz : ElOk k s1 ([], [], s1) := ⟨⟨[], TRds.refl _, rfl⟩, by simp, by simp, fun _ => rfl, fun _ => rfl⟩
    split at h
    · cases h
    · split at h
      · exact fin s1 _ h1 hz h
      · split at h
        · cases h
        · rename_i z hz1
          split at h
          · cases h
          · rename_i u hu
            refine fin s1 u h1 (lpR_some hf ?_ (by rw [elR_more hz1]; simp) hu) h
            exact elR_some hf hz (TRds.refl _) (by simp) hz1
theorem rdV_ok : ∀ (n : Nat), TrOk (rdV n)
  | 0 => fun s v s' h => by simp [rdV] at h
  | n + 1 => fun s v s' h => by
    have ih := rdV_ok n
    rw [rdV] at h
    split at h
    · cases h
    · rename_i c hc
      split at h
      · rename_i h34
        obtain ⟨x, hx, h⟩ := Option.map_eq_some_iff.1 h
        obtain ⟨b, s2⟩ := x
        cases h
        exact ⟨_, txR_some (by rw [hc, h34]) hx, by rw [tokV_byt]; rfl, .byt b⟩
      · split at h
        · obtain ⟨x, hx, h⟩ := Option.map_eq_some_iff.1 h
          obtain ⟨ns, ps, s2⟩ := x
          cases h
          obtain ⟨⟨L, h1, h2⟩, h3, h4, h5, h6⟩ := lsR_some ih hx
          obtain rfl : ns = [] := h6 (by decide)
          exact ⟨L, h1, by rw [tokV_lst, h2], .lst h3⟩
        · split at h
          · obtain ⟨x, hx, h⟩ := Option.map_eq_some_iff.1 h
            obtain ⟨ns, ps, s2⟩ := x
            cases h
            obtain ⟨⟨L, h1, h2⟩, h3, h4, h5, h6⟩ := lsR_some ih hx
            exact ⟨L, h1, by rw [tokV_rcd, h2], .rcd h4 (h5 rfl) h3⟩
          · obtain ⟨x, hx, h⟩ := Option.map_eq_some_iff.1 h
            obtain ⟨u, s2⟩ := x
            cases h
            obtain ⟨h1, h2⟩ := nuR_some hx
            exact ⟨_, h1, by rw [tokV_num]; rfl, .num h2⟩

/-! ### .. and what can be read -/
abbrev Bks (b : List UInt8) : Prop := ∀ c ∈ b, bkB c = true
def nst (q : UInt8 → Bool) (t : List UInt8) : Prop := ∀ c r, t = c :: r → q c = false
theorem bk_cases {c : UInt8} (h : bkB c = true) : c = 32 ∨ c = 9 ∨ c = 13 ∨ c = 10 := by
  simpa [bkB, or_assoc] using h
theorem bk_dg {c : UInt8} (h : bkB c = true) : isDg c = false := by
  rcases bk_cases h with rfl | rfl | rfl | rfl <;> decide
theorem bk_nm {c : UInt8} (h : bkB c = true) : nmB c = false := by
  rcases bk_cases h with rfl | rfl | rfl | rfl <;> decide
theorem nst_bc {q : UInt8 → Bool} (hq : ∀ c, bkB c = true → q c = false) {b : List UInt8} (hb : Bks b) {c : UInt8} (hc : q c = false) (r : List UInt8) : nst q (b ++ c :: r) := by
  intro x y h
  cases b with
  | nil => cases h; exact hc
  | cons z b => cases h; exact hq _ (hb _ (by simp))
theorem bks_split {b : List UInt8} (hb : Bks b) {c : UInt8} (hc : bkB c = false) (r : List UInt8) : (b ++ c :: r).takeWhile bkB = b ∧ (b ++ c :: r).dropWhile bkB = c :: r :=
  takeWhile_stop hb fun x y h => by cases h; exact hc
theorem pk_of {s : RS} {b r : List UInt8} {c : UInt8} (hs : s.rest = b ++ c :: r) (hb : Bks b) (hc : bkB c = false) : pk s = some c := by
  unfold pk
  rw [hs, (bks_split hb hc r).2]
  rfl
theorem sgR_of {s : RS} {b r : List UInt8} {c : UInt8} (hs : s.rest = b ++ c :: r) (hb : Bks b) (hc : bkB c = false) : ∃ s', sgR c s = some s' ∧ TRds s [(b, [c])] s' ∧ s'.rest = r := by
  obtain ⟨h1, h2⟩ := bks_split hb hc r
  have e : sgR c s = some { sk0 s with last := [c], rest := (s.rest.dropWhile bkB).tail } := by unfold sgR; rw [if_pos (pk_of hs hb hc)]
  refine ⟨_, e, ?_, by rw [hs, h2]; rfl⟩
  have := sgR_some e
  rwa [hs, h1, ← hs] at this
theorem nameOk_head {x : List UInt8} (h : nameOk x = true) : ∃ c r, x = c :: r ∧ (97 ≤ c.toNat ∧ c.toNat ≤ 122) ∧ ∀ y ∈ x, nmB y = true := by
  unfold nameOk at h
  simp only [Bool.and_eq_true, decide_eq_true_eq, List.all_eq_true] at h
  obtain ⟨h1, h2, h3⟩ := h
  cases x with
  | nil => simp at h1
  | cons c r => exact ⟨c, r, rfl, by simpa using h2, h3⟩
theorem low_bk {c : UInt8} (h : 33 ≤ c.toNat) : bkB c = false := by
  cases e : bkB c with
  | false => rfl
  | true => rcases bk_cases e with rfl | rfl | rfl | rfl <;> exact absurd h (by decide)
theorem nmR_of {s : RS} {b x r : List UInt8} (hs : s.rest = b ++ (x ++ r)) (hb : Bks b) (hx : nameOk x = true) (hr : nst nmB r) : ∃ s', nmR s = some (x, s') ∧ TRds s [(b, x)] s' ∧ s'.rest = r := by
  obtain ⟨c, x', hc, h1, h2⟩ := nameOk_head hx
  have hbc : bkB c = false := low_bk (by omega)
  have hs' : s.rest = b ++ c :: (x' ++ r) := by rw [hs, hc]; rfl
  obtain ⟨h3, h4⟩ := bks_split hb hbc (x' ++ r)
  have h5 : s.rest.dropWhile bkB = x ++ r := by rw [hs', h4, hc]; rfl
  obtain ⟨h6, h7⟩ := takeWhile_stop h2 hr
  have e : nmR s = some (x, { sk0 s with rest := r }) := by
    unfold nmR
    rw [if_neg (by rw [pk_of hs' hb hbc]; simp), h5, h6, h7, if_pos hx]
  refine ⟨_, e, ?_, rfl⟩
  have := (nmR_some e).1
  rwa [hs', h3] at this
theorem itoa_bk (v : Int) : ∃ c r, Lib.itoa v = c :: r ∧ bkB c = false ∧ c ≠ 34 ∧ c ≠ 91 ∧ c ≠ 123 := by
  obtain ⟨c, r, hc, h1, _⟩ := itoa_ne v
  refine ⟨c, r, hc, ?_⟩
  rcases h1 with rfl | h1
  · decide
  · simp only [isDg, Bool.and_eq_true, decide_eq_true_eq] at h1
    refine ⟨low_bk (by omega), ?_, ?_, ?_⟩ <;> (rintro rfl; exact absurd h1 (by decide))
theorem nuR_of {s : RS} {b r : List UInt8} {v : Int} (hs : s.rest = b ++ (Lib.itoa v ++ r)) (hb : Bks b) (hv : I64 v) (hr : nst isDg r) : ∃ s', nuR s = some (v, s') ∧ TRds s [(b, Lib.itoa v)] s' ∧ s'.rest = r := by
  obtain ⟨c, x', hc, hbc, _⟩ := itoa_bk v
  have hs' : s.rest = b ++ c :: (x' ++ r) := by rw [hs, hc]; rfl
  obtain ⟨h3, h4⟩ := bks_split hb hbc (x' ++ r)
  have h5 : s.rest.dropWhile bkB = Lib.itoa v ++ r := by rw [hs', h4, hc]; rfl
  have e : nuR s = some (v, { sk0 s with rest := r }) := by
    unfold nuR
    rw [h5, numT_of hr, trNum_of hv]
    simp only [List.drop_left]
  refine ⟨_, e, ?_, rfl⟩
  have := (nuR_some e).1
  rwa [hs', h3] at this
theorem txR_of {s : RS} {b x r : List UInt8} (hs : s.rest = b ++ (quoT x ++ r)) (hb : Bks b) : ∃ s', txR s = some (x, s') ∧ TRds s [(b, quoT x)] s' ∧ s'.rest = r := by
  have hs' : s.rest = b ++ 34 :: (quoL x ++ 34 :: r) := by rw [hs]; simp [quoT]
  have hbc : bkB 34 = false := by decide
  obtain ⟨h3, h4⟩ := bks_split hb hbc (quoL x ++ 34 :: r)
  have h5 : s.rest.dropWhile bkB = 34 :: (quoL x ++ 34 :: r) := by rw [hs', h4]
  have e : txR s = some (x, { sk0 s with rest := r }) := by
    unfold txR
    rw [h5, List.tail_cons, trS_of (by simp; omega)]
  refine ⟨_, e, ?_, rfl⟩
  have := txR_some (pk_of hs' hb hbc) e
  rwa [hs', h3] at this
theorem map_cons_inv {L : BL} {a : Tok} {A : List Tok} (h : L.map Prod.snd = a :: A) : ∃ b M, L = (b, a) :: M ∧ M.map Prod.snd = A := by
  cases L with
  | nil => cases h
  | cons p M =>
    obtain ⟨b, x⟩ := p
    simp only [List.map_cons, List.cons.injEq] at h
    exact ⟨b, M, by rw [h.1], h.2⟩
theorem map_append_inv {L : BL} {A B : List Tok} (h : L.map Prod.snd = A ++ B) : ∃ M N, L = M ++ N ∧ M.map Prod.snd = A ∧ N.map Prod.snd = B := by
  obtain ⟨M, N, h1, h2, h3⟩ := List.map_eq_append_iff.1 h
  exact ⟨M, N, h1, h2, h3⟩
def BksL (L : BL) : Prop := ∀ p ∈ L, Bks p.1
theorem BksL.left {a b : BL} (h : BksL (a ++ b)) : BksL a := fun p hp => h p (List.mem_append.2 (.inl hp))
theorem BksL.right {a b : BL} (h : BksL (a ++ b)) : BksL b := fun p hp => h p (List.mem_append.2 (.inr hp))
theorem BksL.tail {p : List UInt8 × Tok} {b : BL} (h : BksL (p :: b)) : BksL b := fun q hq => h q (by simp [hq])
theorem BksL.head {p : List UInt8 × Tok} {b : BL} (h : BksL (p :: b)) : Bks p.1 := h p (by simp)
/-- a reader f that reads what is shorter than n -/
def CanRd (f : TrF) (n : Nat) (v : Val) : Prop := ∀ (L : BL) (s : RS) (t : List UInt8), L.map Prod.snd = tokV v → BksL L → s.rest = flatB L ++ t → (v.kind = 1 → nst isDg t) → s.rest.length < n → ∃ s', f s = some (v, s') ∧ TRds s L s' ∧ s'.rest = t
def tokR (k : Int) (s : List (List UInt8)) (i : Nat) (ps : List Val) : List Tok := (ps.zipIdx i).flatMap fun p => tokE k s p.2 p.1
theorem tokR_cons (k : Int) (s : List (List UInt8)) (i : Nat) (p : Val) (ps : List Val) : tokR k s i (p :: ps) = tokE k s i p ++ tokR k s (i + 1) ps := by
  unfold tokR
  rw [List.zipIdx_cons, List.flatMap_cons]
/-- one part -/
theorem elR_of {f : TrF} {n : Nat} {k : Int} {p : Val} (hp : CanRd f n p) {nm : List UInt8} (hn : k = 4 → nameOk nm = true) {ns : List (List UInt8)} {qs : List Val} {L : BL} {s : RS} {t : List UInt8}
    (hL : L.map Prod.snd = (if k = 4 then [nm, [58]] else []) ++ tokV p) (hb : BksL L) (hs : s.rest = flatB L ++ t) (ht : nst isDg t) (hl : s.rest.length < n) :
    ∃ s', elR f k (ns, qs, s) = some (if k = 4 then ns ++ [nm] else ns, qs ++ [p], s') ∧ TRds s L s' ∧ s'.rest = t := by
  by_cases hk : k = 4
  · rw [if_pos hk] at hL
    obtain ⟨b1, M1, rfl, hL1⟩ := map_cons_inv hL
    obtain ⟨b2, M2, rfl, hL2⟩ := map_cons_inv hL1
    have q1 : s.rest = b1 ++ (nm ++ (b2 ++ 58 :: (flatB M2 ++ t))) := by rw [hs]; simp [flatB]
    obtain ⟨s1, e1, r1, t1⟩ := nmR_of q1 hb.head (hn hk) (nst_bc (fun _ => bk_nm) hb.tail.head (by decide) _)
    obtain ⟨s2, e2, r2, t2⟩ := sgR_of t1 hb.tail.head (by decide)
    obtain ⟨s3, e3, r3, t3⟩ := hp M2 s2 t hL2 hb.tail.tail t2 (fun _ => ht) (by
      have := congrArg List.length q1
      simp only [List.length_append, List.length_cons] at this
      rw [t2, List.length_append]
      omega)
    refine ⟨s3, ?_, (r1.trans r2).trans r3, t3⟩
    unfold elR elV
    rw [if_pos hk, if_pos hk]
    simp only [e1, e2, e3]
  · rw [if_neg hk] at hL
    obtain ⟨s3, e3, r3, t3⟩ := hp L s t hL hb hs (fun _ => ht) hl
    refine ⟨s3, ?_, r3, t3⟩
    unfold elR elV
    rw [if_neg hk, if_neg hk]
    simp only [e3]
theorem lpR_of {f : TrF} {n : Nat} {k : Int} {e : UInt8} (he : bkB e = false) (he' : isDg e = false) (h44 : e ≠ 44) {ns : List (List UInt8)} {b1 t : List UInt8} (hb1 : Bks b1) (hns : k = 4 → ∀ x ∈ ns, nameOk x = true) : ∀ (rs : List Val) (qs : List Val) (M : BL) (s : RS) (m : Nat),
    (∀ p ∈ rs, CanRd f n p) → qs.length ≠ 0 → (k = 4 → qs.length + rs.length = ns.length) → (k ≠ 4 → ns = []) → M.map Prod.snd = tokR k ns qs.length rs → BksL M → s.rest = flatB M ++ (b1 ++ e :: t) → s.rest.length < n → s.rest.length < m →
    ∃ s', lpR f k m (ns.take qs.length, qs, s) = some (ns, qs ++ rs, s') ∧ TRds s M s' ∧ s'.rest = b1 ++ e :: t
  | [], qs, M, s, 0, _, _, _, _, _, _, _, _, hm => by omega
  | [], qs, M, s, m + 1, _, hq, hl, hz, hM, hb, hs, hn, hm => by
    obtain rfl : M = [] := by
      cases M with
      | nil => rfl
      | cons p M => simp [tokR] at hM
    have hs : s.rest = b1 ++ e :: t := by rw [hs]; rfl
    refine ⟨s, ?_, TRds.refl s, hs⟩
    rw [lpR, pk_of hs hb1 he]
    simp only
    rw [if_neg h44]
    have e1 : ns.take qs.length = ns := by
      by_cases hk : k = 4
      · have := hl hk
        rw [List.take_of_length_le (by simp at this; omega)]
      · rw [hz hk]; simp
    rw [e1, List.append_nil]
  | p :: rs, qs, M, s, 0, _, _, _, _, _, _, _, _, hm => by omega
  | p :: rs, qs, M, s, m + 1, hp, hq, hl, hz, hM, hb, hs, hn, hm => by
    rw [tokR_cons] at hM
    unfold tokE at hM
    rw [if_neg hq, List.append_assoc] at hM
    obtain ⟨b2, M1, rfl, hM1⟩ := map_cons_inv hM
    replace hM1 : M1.map Prod.snd = ((if k = 4 then [ns.getD qs.length [], [58]] else []) ++ tokV p) ++ tokR k ns (qs.length + 1) rs := hM1
    obtain ⟨M2, M3, rfl, hM2, hM3⟩ := map_append_inv hM1
    have q1 : s.rest = b2 ++ 44 :: (flatB M2 ++ (flatB M3 ++ (b1 ++ e :: t))) := by rw [hs]; simp [flatB]
    obtain ⟨s1, e1, r1, t1⟩ := sgR_of q1 hb.head (by decide)
    have hlen := congrArg List.length q1
    simp only [List.length_append, List.length_cons] at hlen
    have hstop : nst isDg (flatB M3 ++ (b1 ++ e :: t)) := by
      cases rs with
      | nil =>
        obtain rfl : M3 = [] := by
          cases M3 with
          | nil => rfl
          | cons p M => simp [tokR] at hM3
        exact nst_bc (fun _ => bk_dg) hb1 he' _
      | cons p' rs =>
        rw [tokR_cons] at hM3
        unfold tokE at hM3
        rw [if_neg (by omega), List.append_assoc] at hM3
        obtain ⟨b3, M4, rfl, _⟩ := map_cons_inv hM3
        have : flatB ((b3, [44]) :: M4) ++ (b1 ++ e :: t) = b3 ++ 44 :: (flatB M4 ++ (b1 ++ e :: t)) := by simp [flatB]
        rw [this]
        exact nst_bc (fun _ => bk_dg) (hb.tail.right).head (by decide) _
    have hnm : k = 4 → nameOk (ns.getD qs.length []) = true := fun hk => by
      have := hl hk
      simp only [List.length_cons] at this
      have hlt : qs.length < ns.length := by omega
      have e : ns.getD qs.length [] = ns[qs.length] := by simp [List.getD, hlt]
      rw [e]
      exact hns hk _ (List.getElem_mem hlt)
    obtain ⟨s2, e2, r2, t2⟩ := elR_of (ns := ns.take qs.length) (qs := qs) (hp p (by simp)) hnm hM2 hb.tail.left t1 hstop (by rw [t1]; simp only [List.length_append, List.length_cons]; omega)
    have e3 : (if k = 4 then ns.take qs.length ++ [ns.getD qs.length []] else ns.take qs.length) = ns.take (qs ++ [p]).length := by
      by_cases hk : k = 4
      · have := hl hk
        simp only [List.length_cons] at this
        have hlt : qs.length < ns.length := by omega
        rw [if_pos hk, List.length_append, List.length_singleton, List.take_succ_eq_append_getElem hlt]
        congr 2
        simp [List.getD, hlt]
      · rw [if_neg hk, hz hk]; simp
    obtain ⟨s3, e4, r3, t3⟩ := lpR_of he he' h44 hb1 hns rs (qs ++ [p]) M3 s2 m (fun x hx => hp x (by simp [hx])) (by simp) (fun hk => by have := hl hk; simp at *; omega) hz (by rw [List.length_append, List.length_singleton]; exact hM3) hb.tail.right t2
      (by rw [t2]; simp only [List.length_append, List.length_cons]; omega) (by rw [t2]; simp only [List.length_append, List.length_cons]; omega)
    refine ⟨s3, ?_, ?_, t3⟩
    · rw [lpR, pk_of q1 hb.head (by decide)]
      simp only
      rw [if_pos trivial, e1]
      simp only
      rw [e2]
      simp only
      rw [e3, e4, List.append_assoc]
      rfl
    · have := (r1.trans r2).trans r3
      simpa using this
theorem lsR_of {f : TrF} {n : Nat} {k : Int} {ns : List (List UInt8)} {ps : List Val} (hk4 : k = 3 ∨ k = 4) (hp : ∀ p ∈ ps, CanRd f n p) (hns : k = 4 → ∀ x ∈ ns, nameOk x = true) (hl : k = 4 → ps.length = ns.length) (hz : k ≠ 4 → ns = [])
    {L : BL} {s : RS} {t : List UInt8} (hL : L.map Prod.snd = opT k :: (tokL k ns ps ++ [enT k])) (hb : BksL L) (hs : s.rest = flatB L ++ t) (hn : s.rest.length < n + 1) : ∃ s', lsR f k s = some (ns, ps, s') ∧ TRds s L s' ∧ s'.rest = t := by
  have hob : bkB (if k = 4 then (123 : UInt8) else 91) = false := by split <;> decide
  have heb : bkB (if k = 4 then (125 : UInt8) else 93) = false := by split <;> decide
  have hed : isDg (if k = 4 then (125 : UInt8) else 93) = false := by split <;> decide
  have he44 : (if k = 4 then (125 : UInt8) else 93) ≠ 44 := by split <;> decide
  obtain ⟨b0, M0, rfl, hL0⟩ := map_cons_inv hL
  obtain ⟨M, N, rfl, hM, hN⟩ := map_append_inv hL0
  obtain ⟨b1, N1, rfl, hN1⟩ := map_cons_inv hN
  obtain rfl : N1 = [] := by
    cases N1 with
    | nil => rfl
    | cons p M => simp at hN1
  generalize ho : (if k = 4 then (123 : UInt8) else 91) = o at hob hs
  generalize hee : (if k = 4 then (125 : UInt8) else 93) = e at heb hed he44 hs hb
  have eo : opT k = [o] := congrArg (fun x => [x]) ho
  have ee : enT k = [e] := congrArg (fun x => [x]) hee
  rw [eo, ee] at hs
  have q1 : s.rest = b0 ++ o :: (flatB M ++ (b1 ++ e :: t)) := by rw [hs]; simp [flatB]
  obtain ⟨s1, e1, r1, t1⟩ := sgR_of q1 hb.head hob
  have hb1 : Bks b1 := hb.tail.right.head
  have hlen := congrArg List.length q1
  simp only [List.length_append, List.length_cons] at hlen
  have hl1 : s1.rest.length < n := by rw [t1]; simp only [List.length_append, List.length_cons]; omega
  unfold lsR
  rw [ho, hee, e1]
  simp only
  cases ps with
  | nil =>
    obtain rfl : M = [] := by
      cases M with
      | nil => rfl
      | cons p M => simp [tokL_nil] at hM
    obtain rfl : ns = [] := by
      by_cases hk : k = 4
      · exact List.eq_nil_of_length_eq_zero (by have := hl hk; simpa using this.symm)
      · exact hz hk
    have t1 : s1.rest = b1 ++ e :: t := by rw [t1]; rfl
    obtain ⟨s2, e2, r2, t2⟩ := sgR_of t1 hb1 heb
    refine ⟨s2, ?_, ?_, t2⟩
    · rw [pk_of t1 hb1 heb]
      simp only
      rw [if_pos trivial]
      unfold enR
      simp only [e2]
    · have := r1.trans r2
      rw [eo, ee]
      simpa using this
  | cons p ps =>
    have hM : M.map Prod.snd = tokR k ns 0 (p :: ps) := hM
    rw [tokR_cons] at hM
    unfold tokE at hM
    rw [if_pos rfl, List.nil_append] at hM
    obtain ⟨M2, M3, rfl, hM2, hM3⟩ := map_append_inv hM
    have hbM := hb.tail.left
    have t1' : s1.rest = flatB M2 ++ (flatB M3 ++ (b1 ++ e :: t)) := by rw [t1]; simp [flatB]
    have hstop : nst isDg (flatB M3 ++ (b1 ++ e :: t)) := by
      cases ps with
      | nil =>
        obtain rfl : M3 = [] := by
          cases M3 with
          | nil => rfl
          | cons p M => simp [tokR] at hM3
        exact nst_bc (fun _ => bk_dg) hb1 hed _
      | cons p' rs =>
        rw [tokR_cons] at hM3
        unfold tokE at hM3
        rw [if_neg (by omega), List.append_assoc] at hM3
        obtain ⟨b3, M4, rfl, _⟩ := map_cons_inv hM3
        have : flatB ((b3, [44]) :: M4) ++ (b1 ++ e :: t) = b3 ++ 44 :: (flatB M4 ++ (b1 ++ e :: t)) := by simp [flatB]
        rw [this]
        exact nst_bc (fun _ => bk_dg) hbM.right.head (by decide) _
    have hnm : k = 4 → nameOk (ns.getD 0 []) = true := fun hk => by
      have := hl hk
      simp only [List.length_cons] at this
      have hlt : 0 < ns.length := by omega
      have e : ns.getD 0 [] = ns[0] := by simp [List.getD, hlt]
      rw [e]
      exact hns hk _ (List.getElem_mem hlt)
    obtain ⟨s2, e2, r2, t2⟩ := elR_of (ns := []) (qs := []) (hp p (by simp)) hnm hM2 hbM.left t1' hstop hl1
    have e3 : (if k = 4 then [] ++ [ns.getD 0 []] else []) = ns.take ([p] : List Val).length := by
      by_cases hk : k = 4
      · have := hl hk
        simp only [List.length_cons] at this
        have hlt : 0 < ns.length := by omega
        rw [if_pos hk, List.length_singleton, List.take_succ_eq_append_getElem hlt]
        simp [List.getD, hlt]
      · rw [if_neg hk, hz hk]; simp
    have hl2 := congrArg List.length t1'
    simp only [List.length_append, List.length_cons] at hl2
    obtain ⟨s3, e4, r3, t3⟩ := lpR_of heb hed he44 hb1 hns ps [p] M3 s2 (s2.rest.length + 1) (fun x hx => hp x (by simp [hx])) (by simp) (fun hk => by have := hl hk; simp at *; omega) hz hM3 hbM.right t2
      (by rw [t2]; simp only [List.length_append, List.length_cons]; omega) (by omega)
    obtain ⟨s4, e5, r4, t4⟩ := sgR_of t3 hb1 heb
    refine ⟨s4, ?_, ?_, t4⟩
    · have hpk : ∃ c, pk s1 = some c ∧ c ≠ e := by
        by_cases hk : k = 4
        · rw [if_pos hk] at hM2
          obtain ⟨b4, M4, rfl, _⟩ := map_cons_inv hM2
          obtain ⟨c, r, hc, h1, h2⟩ := nameOk_head (hnm hk)
          refine ⟨c, pk_of (b := b4) (r := r ++ (flatB M4 ++ (flatB M3 ++ (b1 ++ e :: t)))) (by rw [t1', flatB_cons, hc]; simp) hbM.left.head (low_bk (by omega)), ?_⟩
          rw [← hee, if_pos hk]
          rintro rfl
          exact absurd h1 (by decide)
        · rw [if_neg hk, List.nil_append] at hM2
          have hfst : ∃ c r A, tokV p = (c :: r) :: A ∧ bkB c = false ∧ c ≠ 93 := by
            rw [tokV_eq]
            split
            · obtain ⟨c, r, hc, h1, h2⟩ := itoa_ne p.num
              refine ⟨c, r, [], by rw [hc], ?_⟩
              rcases h1 with rfl | h1
              · decide
              · simp only [isDg, Bool.and_eq_true, decide_eq_true_eq] at h1
                exact ⟨low_bk (by omega), by rintro rfl; exact absurd h1 (by decide)⟩
            · split
              · exact ⟨34, _, [], rfl, by decide, by decide⟩
              · refine ⟨_, [], _, rfl, ?_, ?_⟩ <;> (split <;> decide)
          obtain ⟨c, r, A, hA, hc, h93⟩ := hfst
          rw [hA] at hM2
          obtain ⟨b4, M4, rfl, _⟩ := map_cons_inv hM2
          refine ⟨c, pk_of (b := b4) (r := r ++ (flatB M4 ++ (flatB M3 ++ (b1 ++ e :: t)))) (by rw [t1', flatB_cons]; simp) hbM.left.head hc, ?_⟩
          rw [← hee, if_neg hk]
          exact h93
      obtain ⟨c, hc, hce⟩ := hpk
      rw [hc]
      simp only
      rw [if_neg hce, e2]
      simp only
      rw [e3]
      simp only [List.nil_append]
      rw [show (ns.take ([p] : List Val).length, [p], s2) = (ns.take ([p] : List Val).length, ([p] : List Val), s2) from rfl, e4]
      simp only
      unfold enR
      simp only [e5, List.singleton_append]
    · have := ((r1.trans r2).trans r3).trans r4
      rw [eo, ee]
      simpa using this
theorem rdV_of {v : Val} (hv : WfV v) : ∀ n, CanRd (rdV n) n v := by
  induction hv with
  | @num k h =>
    intro n L s t hL hb hs ht hn
    cases n with
    | zero => omega
    | succ n =>
      rw [tokV_num] at hL
      obtain ⟨b0, M, rfl, hM⟩ := map_cons_inv hL
      obtain rfl : M = [] := by
        cases M with
        | nil => rfl
        | cons p M => simp at hM
      have q1 : s.rest = b0 ++ (Lib.itoa k ++ t) := by rw [hs]; simp [flatB]
      obtain ⟨c, r, hc, h1, h2, h3, h4⟩ := itoa_bk k
      obtain ⟨s1, e1, r1, t1⟩ := nuR_of q1 hb.head h (ht rfl)
      refine ⟨s1, ?_, r1, t1⟩
      rw [rdV, pk_of (b := b0) (c := c) (r := r ++ t) (by rw [q1, hc]; rfl) hb.head h1]
      simp only
      rw [if_neg h2, if_neg h3, if_neg h4, e1]
      rfl
  | byt x =>
    intro n L s t hL hb hs ht hn
    cases n with
    | zero => omega
    | succ n =>
      rw [tokV_byt] at hL
      obtain ⟨b0, M, rfl, hM⟩ := map_cons_inv hL
      obtain rfl : M = [] := by
        cases M with
        | nil => rfl
        | cons p M => simp at hM
      have q1 : s.rest = b0 ++ (quoT x ++ t) := by rw [hs]; simp [flatB]
      obtain ⟨s1, e1, r1, t1⟩ := txR_of q1 hb.head
      refine ⟨s1, ?_, r1, t1⟩
      rw [rdV, pk_of (b := b0) (c := 34) (r := quoL x ++ [34] ++ t) (by rw [q1]; rfl) hb.head (by decide)]
      simp only
      rw [if_pos trivial, e1]
      rfl
  | lst h ih =>
    intro n L s t hL hb hs ht hn
    cases n with
    | zero => omega
    | succ n =>
      rw [tokV_lst] at hL
      obtain ⟨s1, e1, r1, t1⟩ := lsR_of (k := 3) (.inl rfl) (fun p hp => ih p hp n) (fun h => absurd h (by decide)) (fun h => absurd h (by decide)) (fun _ => rfl) hL hb hs hn
      refine ⟨s1, ?_, r1, t1⟩
      obtain ⟨b0, M, rfl, hM⟩ := map_cons_inv hL
      rw [rdV, pk_of (b := b0) (c := 91) (r := flatB M ++ t) (by rw [hs, flatB_cons]; simp) hb.head (by decide)]
      simp only
      rw [if_neg (by decide), if_pos trivial, e1]
      rfl
  | rcd hs1 hl1 h ih =>
    intro n L s t hL hb hs ht hn
    cases n with
    | zero => omega
    | succ n =>
      rw [tokV_rcd] at hL
      obtain ⟨s1, e1, r1, t1⟩ := lsR_of (k := 4) (.inr rfl) (fun p hp => ih p hp n) (fun _ => hs1) (fun _ => hl1.symm) (fun h => absurd rfl h) hL hb hs hn
      refine ⟨s1, ?_, r1, t1⟩
      obtain ⟨b0, M, rfl, hM⟩ := map_cons_inv hL
      rw [rdV, pk_of (b := b0) (c := 123) (r := flatB M ++ t) (by rw [hs, flatB_cons]; simp) hb.head (by decide)]
      simp only
      rw [if_neg (by decide), if_neg (by decide), if_pos trivial, e1]
      rfl
/-- a file, taken apart -/
structure Fit (l : List UInt8) (v : Val) (L : BL) (lb : List UInt8) : Prop where
  eq : l = flatB L ++ lb
  bk : BksL L
  bl : Bks lb
  tk : L.map Prod.snd = tokV v
  wf : WfV v
abbrev othB (L : BL) (lb : List UInt8) : List (Nat × List UInt8) := dif 0 false L ++ (if lb = [10] then [] else [(L.length, lb)])
theorem dropWhile_nil {p : UInt8 → Bool} {l : List UInt8} (h : l.dropWhile p = []) : (∀ c ∈ l, p c = true) ∧ l.takeWhile p = l := by
  have e : l.takeWhile p = l := by
    conv => rhs; rw [← List.takeWhile_append_dropWhile (p := p) (l := l), h, List.append_nil]
  exact ⟨by rw [← e]; exact takeWhile_all, e⟩
theorem trF_some {l : List UInt8} {v : Val} {o : List (Nat × List UInt8)} (h : trF l = some (v, o)) : ∃ L lb, Fit l v L lb ∧ o = othB L lb := by
  unfold trF at h
  split at h
  · cases h
  · rename_i v' s hv
    split at h
    · rename_i hr
      cases h
      obtain ⟨L, h1, h2, h3⟩ := rdV_ok _ _ _ _ hv
      obtain ⟨h4, h5⟩ := dropWhile_nil (show s.rest.dropWhile bkB = [] from hr)
      refine ⟨L, s.rest, ⟨h1.rest, h1.bk, h4, h2, h3⟩, ?_⟩
      have e1 := h1.oth
      have e2 := h1.cnt
      simp only [List.nil_append, Nat.zero_add] at e1 e2
      simp only [skR, h5, e1, e2, othB]
      split
      · simp; rfl
      · rfl
    · cases h
theorem trF_of {l : List UInt8} {v : Val} {L : BL} {lb : List UInt8} (h : Fit l v L lb) : trF l = some (v, othB L lb) := by
  have hst : nst isDg lb := fun c r e => bk_dg (h.bl c (by rw [e]; simp))
  obtain ⟨s, e1, r1, t1⟩ := rdV_of h.wf (l.length + 1) L ⟨l, 0, [], []⟩ lb h.tk h.bk h.eq (fun _ => hst) (Nat.lt_succ_self _)
  have q1 : s.rest.dropWhile bkB = [] := by rw [t1]; simpa using (takeWhile_stop (p := bkB) h.bl (t := []) (fun c r e => by cases e)).2
  have q2 : s.rest.takeWhile bkB = lb := by rw [t1]; simpa using (takeWhile_stop (p := bkB) h.bl (t := []) (fun c r e => by cases e)).1
  unfold trF
  rw [e1]
  simp only
  rw [if_pos (show (skR [10] s).rest = [] from q1)]
  have e3 := r1.oth
  have e2 := r1.cnt
  simp only [List.nil_append, Nat.zero_add] at e3 e2
  simp only [skR, q2, e3, e2, othB]
  split
  · simp; rfl
  · rfl
end Go.Proofs.YtffaffojkfalhaaGreatDoor
