/-
  Files of hexadecimal records, plain: digits, lines, records, segments.
-/
import Derived.Test.YtjfcpnlacodjjaaGreatWirP
import Derived.Test.YtjfcpnlacodjjaaGreatLibE
import Derived.Lib.IndexLaws
import Derived.Test.YtjfcpnlacodjjaaGreatCnvL
import Derived.Test.YtjfcpnlacodjjaaGreatWirF
namespace Go.Proofs.YtjfcpnlacodjjaaGreat
open Go Go.RowKit

/-! ### digits -/
/-- the value of a hexadecimal digit -/
def hdg (lo : Bool) (c : UInt8) : Option Nat :=
  if 48 ≤ c.toNat ∧ c.toNat ≤ 57 then some (c.toNat - 48) else if lo = true ∧ 97 ≤ c.toNat ∧ c.toNat ≤ 102 then some (c.toNat - 87) else if lo = false ∧ 65 ≤ c.toNat ∧ c.toNat ≤ 70 then some (c.toNat - 55) else none
def hdN (lo : Bool) (n : Nat) : Nat := if n < 10 then 48 + n else if lo = true then 87 + n else 55 + n
def hdC (lo : Bool) (n : Nat) : UInt8 := UInt8.ofNat (hdN lo n)
theorem hdN_lt {lo : Bool} {n : Nat} (h : n < 16) : hdN lo n < 256 ∧ 48 ≤ hdN lo n := by unfold hdN; by_cases h10 : n < 10 <;> by_cases hl : lo = true <;> simp only [h10, hl, if_true, if_false, Bool.false_eq_true] <;> omega
theorem hdC_nat {lo : Bool} {n : Nat} (h : n < 16) : (hdC lo n).toNat = hdN lo n := toNat_ofNat_lt (hdN_lt h).1
theorem hdg_C {lo : Bool} {n : Nat} (h : n < 16) : hdg lo (hdC lo n) = some n := by
  unfold hdg
  rw [hdC_nat h]
  unfold hdN
  cases lo <;> simp only [Bool.false_eq_true, if_false, if_true, false_and, true_and, reduceCtorEq] <;> by_cases h10 : n < 10
  all_goals simp only [h10, if_true, if_false]
  · rw [if_pos (by omega)]; congr 1; omega
  · rw [if_neg (by omega), if_pos (by omega)]; congr 1; omega
  · rw [if_pos (by omega)]; congr 1; omega
  · rw [if_neg (by omega), if_pos (by omega)]; congr 1; omega
theorem hdg_some {lo : Bool} {c : UInt8} {n : Nat} (h : hdg lo c = some n) : n < 16 ∧ c = hdC lo n := by
  have e : n < 16 ∧ c.toNat = hdN lo n := by
    unfold hdg at h
    unfold hdN
    split at h
    · cases h; rw [if_pos (by omega)]; omega
    split at h
    · rename_i h2; cases h; rw [if_neg (by omega), if_pos h2.1]; omega
    split at h
    · rename_i h2; cases h; rw [if_neg (by omega), if_neg (by rw [h2.1]; decide)]; omega
    · cases h
  refine ⟨e.1, UInt8.toNat_inj.1 ?_⟩
  rw [hdC_nat e.1, e.2]
theorem hdN_inj {lo lo' : Bool} {m n : Nat} (hm : m < 16) (hn : n < 16) (h : hdC lo m = hdC lo' n) : m = n := by
  have h := congrArg UInt8.toNat h
  rw [hdC_nat hm, hdC_nat hn] at h
  unfold hdN at h
  cases lo <;> cases lo' <;> simp only [Bool.false_eq_true, if_false, if_true] at h <;> split at h <;> split at h <;> omega
/-! ### lines -/
abbrev lowF (fl : Nat) : Bool := decide (fl % 2 = 1)
def endB (fl : Nat) : List UInt8 := if 2 ≤ fl then [13, 10] else [10]
def hexB (lo : Bool) (raw : List UInt8) : List UInt8 := raw.flatMap fun c => [hdC lo (c.toNat / 16), hdC lo (c.toNat % 16)]
def lineB (fl : Nat) (raw : List UInt8) : List UInt8 := 58 :: (hexB (lowF fl) raw ++ endB fl)
theorem hexB_len (lo : Bool) (raw : List UInt8) : (hexB lo raw).length = 2 * raw.length := by
  induction raw with
  | nil => rfl
  | cons c r ih => show (_ :: _ :: hexB lo r).length = _; simp only [List.length_cons]; omega
theorem lineB_len (fl : Nat) (raw : List UInt8) : 2 * raw.length + 2 ≤ (lineB fl raw).length ∧ (lineB fl raw).length ≤ 2 * raw.length + 3 := by
  unfold lineB endB
  rw [List.length_cons, List.length_append, hexB_len]
  split <;> simp only [List.length_cons, List.length_nil] <;> omega
theorem byte_hl (c : UInt8) : c.toNat / 16 < 16 ∧ c.toNat % 16 < 16 ∧ UInt8.ofNat (16 * (c.toNat / 16) + c.toNat % 16) = c := by
  have := c.toNat_lt
  refine ⟨by omega, by omega, ?_⟩
  rw [show 16 * (c.toNat / 16) + c.toNat % 16 = c.toNat by omega]
  exact UInt8.ofNat_toNat
theorem hexB_inj {fl fl' : Nat} {x y : List UInt8} : ∀ {raw raw' : List UInt8}, hexB (lowF fl) raw ++ (endB fl ++ x) = hexB (lowF fl') raw' ++ (endB fl' ++ y) → raw = raw' ∧ x = y
  | [], [], h => by
    refine ⟨rfl, ?_⟩
    have h : endB fl ++ x = endB fl' ++ y := h
    unfold endB at h
    split at h <;> split at h <;> simp_all
  | [], c :: r, h => by
    exfalso
    obtain ⟨X, h⟩ : ∃ X, endB fl ++ x = hdC (lowF fl') (c.toNat / 16) :: X := ⟨_, h⟩
    have := (byte_hl c).1
    have e := hdC_nat (lo := lowF fl') this
    have l := (hdN_lt (lo := lowF fl') this).2
    unfold endB at h
    split at h
    · simp only [List.cons_append, List.cons.injEq] at h
      rw [← h.1] at e
      have : (13 : UInt8).toNat = 13 := rfl
      omega
    · simp only [List.cons_append, List.cons.injEq] at h
      rw [← h.1] at e
      have : (10 : UInt8).toNat = 10 := rfl
      omega
  | c :: r, [], h => by
    exfalso
    obtain ⟨X, h⟩ : ∃ X, hdC (lowF fl) (c.toNat / 16) :: X = endB fl' ++ y := ⟨_, h⟩
    have := (byte_hl c).1
    have e := hdC_nat (lo := lowF fl) this
    have l := (hdN_lt (lo := lowF fl) this).2
    unfold endB at h
    split at h
    · simp only [List.cons_append, List.cons.injEq] at h
      rw [h.1] at e
      have : (13 : UInt8).toNat = 13 := rfl
      omega
    · simp only [List.cons_append, List.cons.injEq] at h
      rw [h.1] at e
      have : (10 : UInt8).toNat = 10 := rfl
      omega
  | c :: r, d :: s, h => by
    have h : hdC (lowF fl) (c.toNat / 16) :: hdC (lowF fl) (c.toNat % 16) :: (hexB (lowF fl) r ++ (endB fl ++ x)) = hdC (lowF fl') (d.toNat / 16) :: hdC (lowF fl') (d.toNat % 16) :: (hexB (lowF fl') s ++ (endB fl' ++ y)) := h
    rw [List.cons.injEq, List.cons.injEq] at h
    obtain ⟨h1, h2, h3⟩ := h
    obtain ⟨rfl, e2⟩ := hexB_inj h3
    obtain ⟨c1, c2, c3⟩ := byte_hl c
    obtain ⟨d1, d2, d3⟩ := byte_hl d
    have k1 := hdN_inj c1 d1 h1
    have k2 := hdN_inj c2 d2 h2
    refine ⟨?_, e2⟩
    rw [← c3, ← d3, k1, k2]
theorem lineB_inj {fl fl' : Nat} {raw raw' x y : List UInt8} (h : lineB fl raw ++ x = lineB fl' raw' ++ y) : raw = raw' ∧ x = y := by
  unfold lineB at h
  rw [List.cons_append, List.cons_append, List.cons.injEq, List.append_assoc, List.append_assoc] at h
  exact hexB_inj h.2
/-! ### records -/
def sumB (l : List UInt8) : Nat := (l.map UInt8.toNat).sum
theorem sumB_append (a b : List UInt8) : sumB (a ++ b) = sumB a + sumB b := by simp [sumB]
abbrev b8 (l : List UInt8) (i : Nat) : Nat := (l[i]?.getD 0).toNat
/-- a record has the required form -/
def recOk (raw : List UInt8) : Prop := 5 ≤ raw.length ∧ raw.length = 5 + b8 raw 0 ∧ sumB raw % 256 = 0
instance (raw : List UInt8) : Decidable (recOk raw) := by unfold recOk; infer_instance
/-- the pairs of digits at the beginning, and what follows -/
def pairs (lo : Bool) : List UInt8 → List UInt8 × List UInt8
  | a :: b :: t => match hdg lo a, hdg lo b with
    | some x, some y => (UInt8.ofNat (16 * x + y) :: (pairs lo t).1, (pairs lo t).2)
    | _, _ => ([], a :: b :: t)
  | l => ([], l)
theorem pairs_eq (lo : Bool) : ∀ (l : List UInt8), hexB lo (pairs lo l).1 ++ (pairs lo l).2 = l
  | [] => rfl
  | [a] => rfl
  | a :: b :: t => by
    unfold pairs
    cases h1 : hdg lo a with
    | none => rfl
    | some x =>
      cases h2 : hdg lo b with
      | none => rfl
      | some y =>
        obtain ⟨x1, rfl⟩ := hdg_some h1
        obtain ⟨y1, rfl⟩ := hdg_some h2
        simp only
        have e : (UInt8.ofNat (16 * x + y)).toNat = 16 * x + y := toNat_ofNat_lt (by omega)
        show hdC lo ((UInt8.ofNat (16 * x + y)).toNat / 16) :: hdC lo ((UInt8.ofNat (16 * x + y)).toNat % 16) :: (hexB lo (pairs lo t).1 ++ (pairs lo t).2) = _
        rw [e, pairs_eq lo t, show (16 * x + y) / 16 = x by omega, show (16 * x + y) % 16 = y by omega]
theorem pairs_of (lo : Bool) {e : UInt8} (he : e.toNat < 48) (r : List UInt8) : ∀ (raw : List UInt8), pairs lo (hexB lo raw ++ e :: r) = (raw, e :: r)
  | [] => by
    have h : hdg lo e = none := by unfold hdg; rw [if_neg (by omega), if_neg (by omega), if_neg (by omega)]
    cases r with
    | nil => rfl
    | cons b t =>
      show pairs lo (e :: b :: t) = _
      unfold pairs
      rw [h]
  | c :: raw => by
    obtain ⟨c1, c2, c3⟩ := byte_hl c
    show pairs lo (hdC lo (c.toNat / 16) :: hdC lo (c.toNat % 16) :: (hexB lo raw ++ e :: r)) = _
    unfold pairs
    rw [hdg_C c1, hdg_C c2]
    simp only
    rw [pairs_of lo he r raw, c3]
/-- the record at the beginning, and what follows its line -/
def rdLine (fl : Nat) : List UInt8 → Option (List UInt8 × List UInt8)
  | [] => none
  | c :: t => if c = 58 ∧ (pairs (lowF fl) t).2.take (endB fl).length = endB fl ∧ recOk (pairs (lowF fl) t).1 then some ((pairs (lowF fl) t).1, (pairs (lowF fl) t).2.drop (endB fl).length) else none
theorem rdLine_cons (fl : Nat) (c : UInt8) (t : List UInt8) : rdLine fl (c :: t) = if c = 58 ∧ (pairs (lowF fl) t).2.take (endB fl).length = endB fl ∧ recOk (pairs (lowF fl) t).1 then some ((pairs (lowF fl) t).1, (pairs (lowF fl) t).2.drop (endB fl).length) else none := rfl
theorem rdLine_iff {fl : Nat} {l raw r : List UInt8} : rdLine fl l = some (raw, r) ↔ l = lineB fl raw ++ r ∧ recOk raw := by
  constructor
  · intro h
    cases l with
    | nil => cases h
    | cons c t =>
      rw [rdLine_cons] at h
      by_cases hc : c = 58 ∧ (pairs (lowF fl) t).2.take (endB fl).length = endB fl ∧ recOk (pairs (lowF fl) t).1
      · rw [if_pos hc] at h
        cases h
        obtain ⟨rfl, h2, h3⟩ := hc
        refine ⟨?_, h3⟩
        unfold lineB
        rw [List.cons_append, List.append_assoc]
        conv => lhs; rw [← pairs_eq (lowF fl) t, ← List.take_append_drop (endB fl).length (pairs (lowF fl) t).2, h2]
      · rw [if_neg hc] at h
        cases h
  · rintro ⟨rfl, h2⟩
    unfold lineB
    rw [List.cons_append, List.append_assoc]
    have e : pairs (lowF fl) (hexB (lowF fl) raw ++ (endB fl ++ r)) = (raw, endB fl ++ r) := by
      unfold endB
      split
      · exact pairs_of _ (by decide) _ raw
      · exact pairs_of _ (by decide) _ raw
    rw [rdLine_cons, e]
    simp only
    rw [if_pos ⟨by trivial, by rw [List.take_left], h2⟩, List.drop_left]
/-- all records of a file -/
def recsF (fl : Nat) : Nat → List UInt8 → Option (List (List UInt8))
  | _, [] => some []
  | 0, _ => none
  | n + 1, l => match rdLine fl l with
    | none => none
    | some (raw, r) => match recsF fl n r with
      | none => none
      | some rs => some (raw :: rs)
def recs (fl : Nat) (l : List UInt8) : Option (List (List UInt8)) := recsF fl l.length l
theorem recsF_iff {fl : Nat} : ∀ {n : Nat} {l : List UInt8} {rs : List (List UInt8)}, l.length ≤ n → (recsF fl n l = some rs ↔ l = rs.flatMap (lineB fl) ∧ ∀ r ∈ rs, recOk r) := by
  intro n
  induction n with
  | zero =>
    intro l rs hl
    obtain rfl := List.eq_nil_of_length_eq_zero (by omega : l.length = 0)
    unfold recsF
    constructor
    · intro h; cases h; exact ⟨rfl, by simp⟩
    · rintro ⟨h1, _⟩
      cases rs with
      | nil => rfl
      | cons a rs =>
        have := congrArg List.length h1
        rw [List.flatMap_cons, List.length_append] at this
        have := (lineB_len fl a).1
        simp only [List.length_nil] at *
        omega
  | succ n ih =>
    intro l rs hl
    cases l with
    | nil =>
      unfold recsF
      constructor
      · intro h; cases h; exact ⟨rfl, by simp⟩
      · rintro ⟨h1, _⟩
        cases rs with
        | nil => rfl
        | cons a rs =>
          have := congrArg List.length h1
          rw [List.flatMap_cons, List.length_append] at this
          have := (lineB_len fl a).1
          simp only [List.length_nil] at *
          omega
    | cons c t =>
      show (match rdLine fl (c :: t) with
        | none => none
        | some (raw, r) => match recsF fl n r with
          | none => none
          | some rs => some (raw :: rs)) = some rs ↔ _
      cases hr : rdLine fl (c :: t) with
      | none =>
        simp only
        constructor
        · intro h; cases h
        · rintro ⟨h1, h2⟩
          cases rs with
          | nil => cases h1
          | cons a rs =>
            rw [List.flatMap_cons] at h1
            rw [rdLine_iff.2 ⟨h1, h2 a (by simp)⟩] at hr
            cases hr
      | some p =>
        obtain ⟨raw, r⟩ := p
        obtain ⟨e1, e2⟩ := rdLine_iff.1 hr
        have hlen : r.length ≤ n := by
          have := congrArg List.length e1
          rw [List.length_append] at this
          have := (lineB_len fl raw).1
          simp only [List.length_cons] at *
          omega
        simp only
        constructor
        · intro h
          cases hq : recsF fl n r with
          | none => rw [hq] at h; cases h
          | some qs =>
            rw [hq] at h
            cases h
            obtain ⟨f1, f2⟩ := (ih hlen).1 hq
            refine ⟨by rw [List.flatMap_cons, ← f1]; exact e1, fun x hx => ?_⟩
            rcases List.mem_cons.1 hx with rfl | hx
            · exact e2
            · exact f2 x hx
        · rintro ⟨h1, h2⟩
          cases rs with
          | nil => cases h1
          | cons a rs =>
            rw [List.flatMap_cons, e1] at h1
            obtain ⟨rfl, rfl⟩ := lineB_inj h1
            rw [(ih hlen).2 ⟨rfl, fun x hx => h2 x (by simp [hx])⟩]
theorem recs_iff {fl : Nat} {l : List UInt8} {rs : List (List UInt8)} : recs fl l = some rs ↔ l = rs.flatMap (lineB fl) ∧ ∀ r ∈ rs, recOk r := recsF_iff (Nat.le_refl _)
theorem recs_nil (fl : Nat) : recs fl [] = some [] := rfl
theorem recs_none {fl : Nat} {l : List UInt8} (hl : l ≠ []) (h : rdLine fl l = none) : recs fl l = none := by
  cases hr : recs fl l with
  | none => rfl
  | some rs =>
    obtain ⟨h1, h2⟩ := recs_iff.1 hr
    cases rs with
    | nil => exact absurd h1 hl
    | cons a rs =>
      rw [List.flatMap_cons] at h1
      rw [rdLine_iff.2 ⟨h1, h2 a (by simp)⟩] at h
      cases h
theorem recs_step {fl : Nat} {l raw r : List UInt8} (h : rdLine fl l = some (raw, r)) : recs fl l = match recs fl r with
    | none => none
    | some rs => some (raw :: rs) := by
  obtain ⟨e1, e2⟩ := rdLine_iff.1 h
  cases hr : recs fl r with
  | some rs =>
    obtain ⟨f1, f2⟩ := recs_iff.1 hr
    refine recs_iff.2 ⟨by rw [List.flatMap_cons, ← f1]; exact e1, fun x hx => ?_⟩
    rcases List.mem_cons.1 hx with rfl | hx
    · exact e2
    · exact f2 x hx
  | none =>
    cases hl : recs fl l with
    | none => rfl
    | some qs =>
      obtain ⟨f1, f2⟩ := recs_iff.1 hl
      cases qs with
      | nil => rw [f1] at h; cases h
      | cons a qs =>
        rw [List.flatMap_cons, e1] at f1
        obtain ⟨rfl, rfl⟩ := lineB_inj f1
        rw [recs_iff.2 ⟨rfl, fun x hx => f2 x (by simp [hx])⟩] at hr
        cases hr
theorem flat_lines_inj {fl fl' : Nat} : ∀ {rs rs' : List (List UInt8)}, rs.flatMap (lineB fl) = rs'.flatMap (lineB fl') → rs = rs'
  | [], [], _ => rfl
  | [], a :: r, h => by rw [List.flatMap_cons] at h; cases h
  | a :: r, [], h => by rw [List.flatMap_cons] at h; cases h
  | a :: r, b :: s, h => by
    rw [List.flatMap_cons, List.flatMap_cons] at h
    obtain ⟨rfl, h2⟩ := lineB_inj h
    rw [flat_lines_inj h2]
/-- the records do not depend on the flags -/
theorem recs_same {fl fl' : Nat} {l : List UInt8} {rs rs' : List (List UInt8)} (h : recs fl l = some rs) (h' : recs fl' l = some rs') : rs = rs' := by
  have e := (recs_iff.1 h).1
  rw [(recs_iff.1 h').1] at e
  exact (flat_lines_inj e).symm
/-! ### segments -/
abbrev Seg := Nat × List UInt8
def rAt (raw : List UInt8) : Nat := 256 * b8 raw 1 + b8 raw 2
def rCont (raw : List UInt8) : List UInt8 := (raw.drop 4).take (b8 raw 0)
theorem rCont_len {raw : List UInt8} (h : recOk raw) : (rCont raw).length = b8 raw 0 := by
  have := h.2.1
  simp [rCont]
  omega
def addSeg (at_ : Nat) (c : List UInt8) (S : List Seg) : List Seg := match S.getLast? with
  | none => [(at_, c)]
  | some x => if x.1 + x.2.length = at_ then S.dropLast ++ [(x.1, x.2 ++ c)] else S ++ [(at_, c)]
theorem addSeg_nil (a : Nat) (c : List UInt8) : addSeg a c [] = [(a, c)] := rfl
theorem addSeg_snoc (a : Nat) (c : List UInt8) (S : List Seg) (x : Seg) : addSeg a c (S ++ [x]) = if x.1 + x.2.length = a then S ++ [(x.1, x.2 ++ c)] else S ++ [x] ++ [(a, c)] := by
  unfold addSeg
  rw [List.getLast?_concat, List.dropLast_concat]
/-- a record with data -/
def dataOk (raw : List UInt8) : Prop := b8 raw 3 = 0 ∧ b8 raw 0 ≠ 0 ∧ rAt raw + b8 raw 0 ≤ 65536
instance (raw : List UInt8) : Decidable (dataOk raw) := by unfold dataOk; infer_instance
/-- the last record -/
def endOk (raw : List UInt8) : Prop := b8 raw 0 = 0 ∧ rAt raw = 0 ∧ b8 raw 3 = 1
instance (raw : List UInt8) : Decidable (endOk raw) := by unfold endOk; infer_instance
def foldR (S : List Seg) (Z : List Nat) : List (List UInt8) → Option (List Seg × List Nat)
  | [] => none
  | [raw] => if endOk raw then some (S, Z) else none
  | raw :: rs => if dataOk raw then foldR (addSeg (rAt raw) (rCont raw) S) (Z ++ [b8 raw 0]) rs else none
theorem foldR_one (S : List Seg) (Z : List Nat) (raw : List UInt8) : foldR S Z [raw] = if endOk raw then some (S, Z) else none := by rw [foldR]
theorem foldR_cons (S : List Seg) (Z : List Nat) (raw : List UInt8) {rs : List (List UInt8)} (h : rs ≠ []) : foldR S Z (raw :: rs) = if dataOk raw then foldR (addSeg (rAt raw) (rCont raw) S) (Z ++ [b8 raw 0]) rs else none := by
  cases rs with
  | nil => exact absurd rfl h
  | cons a rs => rw [foldR]; simp
/-- what a file with flags contains -/
def hexRead (fl : Nat) (l : List UInt8) : Option (List Seg × List Nat) := match recs fl l with
  | none => none
  | some rs => foldR [] [] rs
/-- the same from a place on -/
def readFrom (fl : Nat) (S : List Seg) (Z : List Nat) (l : List UInt8) : Option (List Seg × List Nat) := match recs fl l with
  | none => none
  | some rs => foldR S Z rs
theorem readFrom_nil (fl : Nat) (S : List Seg) (Z : List Nat) : readFrom fl S Z [] = none := rfl
theorem readFrom_bad {fl : Nat} {S : List Seg} {Z : List Nat} {l : List UInt8} (h : rdLine fl l = none) : readFrom fl S Z l = none := by
  cases l with
  | nil => rfl
  | cons c t => unfold readFrom; rw [recs_none (by simp) h]
theorem readFrom_end {fl : Nat} {S : List Seg} {Z : List Nat} {l raw r : List UInt8} (h : rdLine fl l = some (raw, r)) (hk : b8 raw 3 = 1) : readFrom fl S Z l = if b8 raw 0 = 0 ∧ rAt raw = 0 ∧ r = [] then some (S, Z) else none := by
  unfold readFrom
  rw [recs_step h]
  by_cases hr : r = []
  · subst hr
    rw [recs_nil]
    simp only
    rw [foldR_one]
    by_cases h2 : b8 raw 0 = 0 ∧ rAt raw = 0
    · rw [if_pos ⟨h2.1, h2.2, hk⟩, if_pos ⟨h2.1, h2.2, by trivial⟩]
    · rw [if_neg fun q => h2 ⟨q.1, q.2.1⟩, if_neg fun q => h2 ⟨q.1, q.2.1⟩]
  · rw [if_neg fun q => hr q.2.2]
    cases hq : recs fl r with
    | none => rfl
    | some rs =>
      simp only
      have hrs : rs ≠ [] := by
        rintro rfl
        exact hr (recs_iff.1 hq).1
      rw [foldR_cons _ _ _ hrs, if_neg fun q => by have := q.1; omega]
theorem readFrom_data {fl : Nat} {S : List Seg} {Z : List Nat} {l raw r : List UInt8} (h : rdLine fl l = some (raw, r)) (hk : b8 raw 3 ≠ 1) : readFrom fl S Z l = if dataOk raw then readFrom fl (addSeg (rAt raw) (rCont raw) S) (Z ++ [b8 raw 0]) r else none := by
  unfold readFrom
  rw [recs_step h]
  by_cases hr : r = []
  · subst hr
    rw [recs_nil]
    simp only
    rw [foldR_one, if_neg fun q => hk q.2.2]
    split <;> rfl
  · cases hq : recs fl r with
    | none => simp only; split <;> rfl
    | some rs =>
      simp only
      have hrs : rs ≠ [] := by
        rintro rfl
        exact hr (recs_iff.1 hq).1
      rw [foldR_cons _ _ _ hrs]
/-! ### the plain way -/
def usualN (n : Nat) : List Nat := if n = 0 then [] else if n ≤ 16 then [n] else 16 :: usualN (n - 16)
def usual (S : List Seg) : List Nat := S.flatMap fun s => usualN s.2.length
theorem usualN_zero : usualN 0 = [] := by rw [usualN, if_pos rfl]
theorem usualN_small {n : Nat} (h0 : n ≠ 0) (h : n ≤ 16) : usualN n = [n] := by rw [usualN, if_neg h0, if_pos h]
theorem usualN_big {n : Nat} (h : 16 < n) : usualN n = 16 :: usualN (n - 16) := by rw [usualN, if_neg (by omega), if_neg (by omega)]
/-! ### writing -/
def sumC (b : List UInt8) : UInt8 := UInt8.ofNat (256 - sumB b % 256)
def recHd (a kind : Nat) (c : List UInt8) : List UInt8 := [UInt8.ofNat c.length, UInt8.ofNat (a / 256), UInt8.ofNat a, UInt8.ofNat kind] ++ c
def mkRec (a kind : Nat) (c : List UInt8) : List UInt8 := recHd a kind c ++ [sumC (recHd a kind c)]
def cutSeg (a : Nat) : List UInt8 → List Nat → Option (List (List UInt8) × List Nat)
  | [], Z => some ([], Z)
  | _ :: _, [] => none
  | c :: d, n :: Z => if n ≤ (c :: d).length then (match cutSeg (a + n) ((c :: d).drop n) Z with
      | none => none
      | some (rs, Z') => some (mkRec a 0 ((c :: d).take n) :: rs, Z')) else none
def wrAll : List Seg → List Nat → Option (List (List UInt8))
  | [], Z => if Z = [] then some [] else none
  | (a, d) :: S, Z => match cutSeg a d Z with
    | none => none
    | some (rs, Z') => match wrAll S Z' with
      | none => none
      | some qs => some (rs ++ qs)
def hexOut (fl : Nat) (S : List Seg) (Z : List Nat) : Option (List UInt8) := match wrAll S (if Z = [] then usual S else Z) with
  | none => none
  | some rs => some ((rs ++ [mkRec 0 1 []]).flatMap (lineB fl))
end Go.Proofs.YtjfcpnlacodjjaaGreat
namespace Go.Proofs.YtjfcpnlacodjjaaGreat
open Go Go.RowKit

/-- the record of a line without its end -/
def rdS (lo : Bool) : List UInt8 → Option (List UInt8)
  | [] => none
  | c :: t => if c = 58 ∧ (pairs lo t).2 = [] ∧ recOk (pairs lo t).1 then some (pairs lo t).1 else none
theorem pairs_all (lo : Bool) : ∀ (raw : List UInt8), pairs lo (hexB lo raw) = (raw, [])
  | [] => rfl
  | c :: raw => by
    obtain ⟨c1, c2, c3⟩ := byte_hl c
    show pairs lo (hdC lo (c.toNat / 16) :: hdC lo (c.toNat % 16) :: hexB lo raw) = _
    unfold pairs
    rw [hdg_C c1, hdg_C c2]
    simp only
    rw [pairs_all lo raw, c3]
theorem rdS_cons (lo : Bool) (c : UInt8) (t : List UInt8) : rdS lo (c :: t) = if c = 58 ∧ (pairs lo t).2 = [] ∧ recOk (pairs lo t).1 then some (pairs lo t).1 else none := rfl
theorem rdS_iff {lo : Bool} {s raw : List UInt8} : rdS lo s = some raw ↔ s = 58 :: hexB lo raw ∧ recOk raw := by
  constructor
  · intro h
    cases s with
    | nil => cases h
    | cons c t =>
      rw [rdS_cons] at h
      by_cases hc : c = 58 ∧ (pairs lo t).2 = [] ∧ recOk (pairs lo t).1
      · rw [if_pos hc] at h
        cases h
        refine ⟨?_, hc.2.2⟩
        have := pairs_eq lo t
        rw [hc.2.1, List.append_nil] at this
        rw [this, hc.1]
      · rw [if_neg hc] at h
        cases h
  · rintro ⟨rfl, h2⟩
    rw [rdS_cons, pairs_all, if_pos ⟨rfl, rfl, h2⟩]
theorem rdS_none {lo : Bool} {s : List UInt8} (h : ∀ raw, s = 58 :: hexB lo raw → ¬ recOk raw) : rdS lo s = none := by
  cases hr : rdS lo s with
  | none => rfl
  | some raw =>
    obtain ⟨h1, h2⟩ := rdS_iff.1 hr
    exact absurd h2 (h raw h1)
theorem hexB_ge {lo : Bool} {raw : List UInt8} {c : UInt8} (h : c ∈ hexB lo raw) : 48 ≤ c.toNat := by
  unfold hexB at h
  obtain ⟨b, _, hb⟩ := List.mem_flatMap.1 h
  obtain ⟨b1, b2, _⟩ := byte_hl b
  simp only [List.mem_cons, List.not_mem_nil, or_false] at hb
  rcases hb with rfl | rfl
  · rw [hdC_nat b1]; exact (hdN_lt b1).2
  · rw [hdC_nat b2]; exact (hdN_lt b2).2
theorem endB_cons (fl : Nat) : ∃ e r, endB fl = e :: r ∧ e.toNat < 48 := by
  unfold endB
  split
  · exact ⟨13, [10], rfl, by decide⟩
  · exact ⟨10, [], rfl, by decide⟩
theorem line_noOcc (fl : Nat) {a : List UInt8} (h : ∀ c ∈ a, 48 ≤ c.toNat) (r : List UInt8) : Lib.NoOcc (a ++ r) (endB fl) a.length := fun j hj => by
  obtain ⟨e, es, he, hlt⟩ := endB_cons fl
  unfold Lib.occAt
  rw [he, List.drop_append_of_le_length (by omega), List.drop_eq_getElem_cons hj]
  have hc := h a[j] (List.getElem_mem hj)
  have : (e == a[j]) = false := by
    rw [beq_eq_false_iff_ne]
    intro q
    rw [← q] at hc
    omega
  rw [List.cons_append]
  simp [List.isPrefixOf, this]
theorem line_index (fl : Nat) {a : List UInt8} (h : ∀ c ∈ a, 48 ≤ c.toNat) (r : List UInt8) : Lib.index (a ++ (endB fl ++ r)) (endB fl) = (a.length : Nat) := by
  refine Lib.index_hit (line_noOcc fl h _) (by simp) ?_
  unfold Lib.occAt
  rw [List.drop_left]
  exact List.isPrefixOf_iff_prefix.2 ⟨r, rfl⟩
theorem line_ge {lo : Bool} {raw : List UInt8} : ∀ c ∈ (58 :: hexB lo raw : List UInt8), 48 ≤ c.toNat := fun c hc => by
  rcases List.mem_cons.1 hc with rfl | hc
  · decide
  · exact hexB_ge hc
theorem lineB_split (fl : Nat) (raw r : List UInt8) : lineB fl raw ++ r = (58 :: hexB (lowF fl) raw) ++ (endB fl ++ r) := by
  unfold lineB
  simp
theorem index_occ : ∀ {s sub : List UInt8} {i : Nat}, Lib.index s sub = (i : Nat) → Lib.occAt s sub i = true ∧ i ≤ s.length
  | [], sub, i, h => by
    unfold Lib.index at h
    split at h
    · rename_i he
      obtain rfl : i = 0 := by omega
      cases sub with
      | nil => exact ⟨rfl, Nat.le_refl _⟩
      | cons a r => simp at he
    · omega
  | b :: l, sub, i, h => by
    unfold Lib.index at h
    split at h
    · rename_i he
      obtain rfl : i = 0 := by omega
      exact ⟨he, Nat.zero_le _⟩
    · split at h
      · omega
      · have hge := Lib.index_ge l sub
        have hne : Lib.index l sub ≠ -1 := fun e => by rename_i h2; exact h2 (beq_iff_eq.2 e)
        obtain ⟨j, rfl⟩ : ∃ j, i = j + 1 := ⟨i - 1, by omega⟩
        obtain ⟨h1, h2⟩ := index_occ (s := l) (sub := sub) (i := j) (by omega)
        exact ⟨h1, by simp only [List.length_cons]; omega⟩
theorem rdLine_nocut {fl : Nat} {l : List UInt8} (h : Lib.index l (endB fl) = -1) : rdLine fl l = none := by
  cases hr : rdLine fl l with
  | none => rfl
  | some p =>
    obtain ⟨raw, r⟩ := p
    obtain ⟨h1, _⟩ := rdLine_iff.1 hr
    rw [h1, lineB_split, line_index fl line_ge] at h
    omega
theorem rdLine_cut {fl : Nat} {l : List UInt8} {i : Nat} (h : Lib.index l (endB fl) = (i : Nat)) (ho : Lib.occAt l (endB fl) i = true) : rdLine fl l = match rdS (lowF fl) (l.take i) with
    | none => none
    | some raw => some (raw, l.drop (i + (endB fl).length)) := by
  have hl : l = l.take i ++ (endB fl ++ l.drop (i + (endB fl).length)) := by
    unfold Lib.occAt at ho
    obtain ⟨t, ht⟩ := List.isPrefixOf_iff_prefix.1 ho
    have : l.drop (i + (endB fl).length) = t := by rw [← List.drop_drop, ← ht, List.drop_left]
    rw [this, ht, List.take_append_drop]
  cases hs : rdS (lowF fl) (l.take i) with
  | some raw =>
    obtain ⟨h1, h2⟩ := rdS_iff.1 hs
    refine rdLine_iff.2 ⟨?_, h2⟩
    rw [lineB_split, ← h1]
    exact hl
  | none =>
    simp only
    cases hr : rdLine fl l with
    | none => rfl
    | some p =>
      obtain ⟨raw, r⟩ := p
      obtain ⟨h1, h2⟩ := rdLine_iff.1 hr
      have h3 := h
      rw [h1, lineB_split, line_index fl line_ge] at h3
      have hi : i = (58 :: hexB (lowF fl) raw : List UInt8).length := by omega
      rw [h1, lineB_split, hi, List.take_left] at hs
      rw [rdS_iff.2 ⟨rfl, h2⟩] at hs
      cases hs
/-! ### digits, sums -/
def digL (lo : Bool) : List UInt8 := (List.range 16).map (hdC lo)
def hdI (lo : Bool) (c : UInt8) : Int := match hdg lo c with
  | none => -1
  | some n => n
theorem digL_len (lo : Bool) : (digL lo).length = 16 := by simp [digL]
theorem digL_get {lo : Bool} {n : Nat} (h : n < 16) : (digL lo)[n]? = some (hdC lo n) := by simp [digL, h]
theorem digL_index (lo : Bool) (c : UInt8) : Lib.indexByte (digL lo) c = hdI lo c := by
  have key : ∀ n, n < 256 → Lib.indexByte (digL true) (UInt8.ofNat n) = hdI true (UInt8.ofNat n) ∧ Lib.indexByte (digL false) (UInt8.ofNat n) = hdI false (UInt8.ofNat n) := by decide +kernel
  have := key c.toNat c.toNat_lt
  rw [UInt8.ofNat_toNat] at this
  cases lo
  · exact this.2
  · exact this.1
theorem sumB_step {l : List UInt8} {k : Nat} (h : k < l.length) : sumB (l.take (k + 1)) = sumB (l.take k) + l[k].toNat := by
  rw [List.take_succ_eq_append_getElem h, sumB_append]
  simp [sumB]
theorem hdI_neg {lo : Bool} {c : UInt8} : hdI lo c < 0 ↔ hdg lo c = none := by
  unfold hdI
  cases hdg lo c with
  | none => simp
  | some n => simp
theorem hdI_some {lo : Bool} {c : UInt8} {n : Nat} (h : hdg lo c = some n) : hdI lo c = n := by unfold hdI; rw [h]
/-- pairs of digits, from a place on -/
theorem hexB_take {lo : Bool} {raw : List UInt8} {k : Nat} {x y : Nat} (hx : x < 16) (hy : y < 16) : hexB lo raw ++ [hdC lo x, hdC lo y] = hexB lo (raw ++ [UInt8.ofNat (16 * x + y)]) := by
  unfold hexB
  rw [List.flatMap_append]
  have e : (UInt8.ofNat (16 * x + y)).toNat = 16 * x + y := toNat_ofNat_lt (by omega)
  simp only [List.flatMap_cons, List.flatMap_nil, List.append_nil]
  rw [e, show (16 * x + y) / 16 = x by omega, show (16 * x + y) % 16 = y by omega]
theorem hexB_at {lo : Bool} : ∀ {raw : List UInt8} {k : Nat}, k < raw.length → (∃ x, x < 16 ∧ (hexB lo raw)[2 * k]? = some (hdC lo x)) ∧ ∃ y, y < 16 ∧ (hexB lo raw)[2 * k + 1]? = some (hdC lo y)
  | [], k, h => by simp at h
  | c :: raw, 0, _ => by
    obtain ⟨c1, c2, _⟩ := byte_hl c
    exact ⟨⟨_, c1, rfl⟩, _, c2, rfl⟩
  | c :: raw, k + 1, h => by
    have := hexB_at (lo := lo) (raw := raw) (k := k) (by simpa using h)
    have e1 : (hexB lo (c :: raw))[2 * (k + 1)]? = (hexB lo raw)[2 * k]? := by
      show (_ :: _ :: hexB lo raw)[2 * k + 1 + 1]? = _
      rfl
    have e2 : (hexB lo (c :: raw))[2 * (k + 1) + 1]? = (hexB lo raw)[2 * k + 1]? := by
      show (_ :: _ :: hexB lo raw)[2 * k + 1 + 1 + 1]? = _
      rfl
    rw [e1, e2]
    exact this
/-- a byte that is no digit -/
theorem rdS_dig {lo : Bool} {t : List UInt8} {k : Nat} (h : k < t.length) (hd : hdg lo t[k] = none) : rdS lo (58 :: t) = none := rdS_none fun raw he => by
  exfalso
  rw [List.cons.injEq] at he
  obtain ⟨_, he⟩ := he
  subst he
  rw [hexB_len] at h
  obtain ⟨⟨x, hx, h1⟩, y, hy, h2⟩ := hexB_at (lo := lo) (raw := raw) (k := k / 2) (by omega)
  have hg : (hexB lo raw)[k]? = some ((hexB lo raw)[k]'(by rw [hexB_len]; exact h)) := List.getElem?_eq_getElem _
  by_cases e : k % 2 = 0
  · rw [show 2 * (k / 2) = k by omega, hg] at h1
    rw [Option.some.inj h1, hdg_C hx] at hd
    cases hd
  · rw [show 2 * (k / 2) + 1 = k by omega, hg] at h2
    rw [Option.some.inj h2, hdg_C hy] at hd
    cases hd
theorem rdS_odd {lo : Bool} {t : List UInt8} (h : t.length % 2 ≠ 0) : rdS lo (58 :: t) = none := rdS_none fun raw he => by
  rw [List.cons.injEq] at he
  rw [he.2, hexB_len] at h
  omega
theorem hexB_inj1 {lo : Bool} {raw raw' : List UInt8} (h : hexB lo raw = hexB lo raw') : raw = raw' := by
  have h1 := pairs_all lo raw
  rw [h, pairs_all lo raw'] at h1
  exact (Prod.ext_iff.1 h1).1.symm
theorem rdS_all {lo : Bool} {raw : List UInt8} : rdS lo (58 :: hexB lo raw) = if recOk raw then some raw else none := by
  rw [rdS_cons, pairs_all]
  simp only [true_and]
end Go.Proofs.YtjfcpnlacodjjaaGreat
namespace Go.Proofs.YtjfcpnlacodjjaaGreat
open Go Go.RowKit

abbrev sAt : List UInt8 := [97, 116]
abbrev sData : List UInt8 := [100, 97, 116, 97]
abbrev segV (s : Seg) : Val := .mk 4 0 [] [sAt, sData] [.mk 1 (s.1 : Int) [] [] [], .mk 2 0 s.2 [] []]
abbrev hexVal (S : List Seg) : Val := .mk 3 0 [] [] (S.map segV)
abbrev ints (Z : List Nat) : List Int := Z.map fun (n : Nat) => (n : Int)
def resB (fl : Nat) (Z : List Nat) : List UInt8 := if fl = 0 ∧ Z = [] then [] else putN fl ++ putL putN (ints Z)
/-- the sizes that a residue tells -/
def szOf (S : List Seg) (Z : List Nat) : List Nat := if Z = usual S then [] else Z
def hexOne (fl : Nat) (l : List UInt8) : Option (Val × List UInt8) := match hexRead fl l with
  | none => none
  | some (S, Z) => if (vfault (hexVal S)).1 = 0 then some (hexVal S, resB fl (szOf S Z)) else none
def hexFrom (l : List UInt8) : Nat → Option (Val × List UInt8)
  | 0 => none
  | n + 1 => match hexOne (3 - n) l with
    | some x => some x
    | none => hexFrom l n
def hexTo (l : List UInt8) : Option (Val × List UInt8) := hexFrom l 4
/-- the segment of a part -/
def segOf (r : Val) : Option Seg := if r.kind = 4 ∧ r.names = [sAt, sData] then (match r.parts with
  | [a, d] => if a.kind = 1 ∧ d.kind = 2 ∧ 0 ≤ a.num ∧ a.num < 65536 ∧ d.bytes ≠ [] ∧ (d.bytes.length : Int) ≤ 65536 - a.num then some (a.num.toNat, d.bytes) else none
  | _ => none) else none
def hexShape (v : Val) : Option (List Seg) := if v.kind = 3 then allM segOf v.parts else none
def szOk (z : List Int) : Prop := ∀ n ∈ z, 1 ≤ n ∧ n ≤ 255
instance (z : List Int) : Decidable (szOk z) := by unfold szOk; infer_instance
def hexRaw (b : List UInt8) : Option (Int × List Int) := match numAt b 0 with
  | .bad _ _ => none
  | .ok c p => match listAt b (numAt b) 1000 p with
    | .bad _ _ => none
    | .ok z q => if q = b.length then some (c, z) else none
def hexRd (b : List UInt8) : Option (Nat × List Nat) := if b = [] then some (0, []) else match hexRaw b with
  | none => none
  | some (c, z) => if (0 ≤ c ∧ c < 4) ∧ ¬ (c = 0 ∧ z = []) ∧ szOk z then some (c.toNat, z.map Int.toNat) else none
noncomputable def hexMake (v : Val) (b : List UInt8) : Option (List UInt8) := match hexShape v with
  | none => none
  | some S => match hexRd b with
    | none => none
    | some (fl, Z) => match hexOut fl S Z with
      | none => none
      | some o => if o.length ≤ 1000 ∧ hexTo o = some (v, b) then some o else none
abbrev lsLower : List UInt8 := [108, 111, 119, 101, 114, 32, 99, 97, 115, 101]
abbrev lsCrlf : List UInt8 := [99, 97, 114, 114, 105, 97, 103, 101, 32, 114, 101, 116, 117, 114, 110, 32, 97, 110, 100, 32, 108, 105, 110, 101, 32, 102, 101, 101, 100]
abbrev lsRecords : List UInt8 := [114, 101, 99, 111, 114, 100, 115]
def lossHex (fl n : Nat) : List LossD := (if fl % 2 = 1 then [(lsLower, 1)] else []) ++ (if 2 ≤ fl then [(lsCrlf, 1)] else []) ++ (if 0 < n then [(lsRecords, (n : Int))] else [])
def hexLoss (b : List UInt8) : Option (List LossD) := match hexRd b with
  | none => none
  | some (fl, Z) => some (lossHex fl Z.length)
/-! ### residues -/
theorem ints_nat (Z : List Nat) : (ints Z).map Int.toNat = Z := by
  unfold ints
  rw [List.map_map]
  conv => rhs; rw [← List.map_id Z]
  exact List.map_congr_left fun x _ => by simp
theorem hexRaw_put {fl : Nat} {Z : List Nat} (hf : fl < 4) (hl : Z.length ≤ 1000) (hz : ∀ n ∈ Z, n ≤ 255) : hexRaw (putN fl ++ putL putN (ints Z)) = some ((fl : Int), ints Z) := by
  obtain ⟨b, hb⟩ : ∃ b, b = putN (fl : Int) ++ putL putN (ints Z) := ⟨_, rfl⟩
  rw [← hb]
  have e1 : b = [] ++ (putN (fl : Int) ++ putL putN (ints Z)) := by rw [hb]; rfl
  have n1 := numAt_put (n := (fl : Int)) (by omega) (by omega) [] (putL putN (ints Z))
  rw [← e1] at n1
  have e2 : b = putN (fl : Int) ++ (putN ((ints Z).length : Int) ++ ((ints Z).flatMap putN ++ [])) := by rw [hb, putL, List.append_nil]
  have hil : (ints Z).length = Z.length := by simp
  have n2 := numAt_put (n := ((ints Z).length : Int)) (by omega) (by omega) (putN (fl : Int)) ((ints Z).flatMap putN ++ [])
  rw [← e2] at n2
  have hbl := congrArg List.length e2
  simp only [List.length_append, List.length_nil] at hbl
  have n3 := manyAt_put (f := putN) (b := b) (one := numAt b) (ints Z) ((putN (fl : Int)).length + (putN ((ints Z).length : Int)).length) (by omega) (fun x hx q r hq hd => by
    obtain ⟨n, hn, rfl⟩ := List.mem_map.1 hx
    have := hz n hn
    have e : b = b.take q ++ (putN (n : Int) ++ r) := by rw [← hd, List.take_append_drop]
    have hql : (b.take q).length = q := by simp; omega
    have := numAt_put (n := (n : Int)) (by omega) (by omega) (b.take q) r
    rwa [hql, ← e] at this) [] (by
      rw [← List.drop_drop]
      conv => lhs; rw [e2]
      rw [List.drop_left, List.drop_left])
  unfold hexRaw
  simp only [List.length_nil, Nat.zero_add] at n1
  rw [n1]
  simp only
  unfold listAt
  rw [n2]
  simp only
  rw [if_neg (by omega), Int.toNat_natCast, n3]
  simp only
  rw [if_pos (by omega)]
theorem hexRd_res {fl : Nat} {Z : List Nat} (hf : fl < 4) (hl : Z.length ≤ 1000) (hz : ∀ n ∈ Z, 1 ≤ n ∧ n ≤ 255) : hexRd (resB fl Z) = some (fl, Z) := by
  unfold resB
  split
  · rename_i h
    obtain ⟨rfl, rfl⟩ := h
    rfl
  · rename_i hne
    unfold hexRd
    rw [if_neg, hexRaw_put hf hl fun n hn => (hz n hn).2]
    · simp only
      rw [if_pos, Int.toNat_natCast, ints_nat]
      refine ⟨by omega, fun q => hne ⟨by omega, ?_⟩, fun n hn => ?_⟩
      · have := q.2
        simpa [ints] using this
      · obtain ⟨m, hm, rfl⟩ := List.mem_map.1 hn
        have := hz m hm
        omega
    · intro h
      have := congrArg List.length h
      have := putU_len (zz (fl : Int))
      simp only [List.length_append, putN, List.length_nil] at *
      omega
theorem hexRaw_some {b : List UInt8} {c : Int} {z : List Int} (h : hexRaw b = some (c, z)) : b = putN c ++ putL putN z ∧ I64 c ∧ z.length ≤ 1000 := by
  unfold hexRaw at h
  split at h
  · cases h
  · rename_i c' p h1
    split at h
    · cases h
    · rename_i z' q h2
      split at h
      · rename_i hq
        cases h
        have a1 := numAt_split (Nat.zero_le _) h1
        obtain ⟨a2, a3, _, a4⟩ := numAt_ok (Nat.zero_le _) h1
        unfold listAt at h2
        split at h2
        · cases h2
        · rename_i n p2 h3
          split at h2
          · cases h2
          · rename_i hn
            have b1 := numAt_split a3 h3
            obtain ⟨b2, b3, _, b4⟩ := numAt_ok a3 h3
            obtain ⟨c1, c2, c3, c4⟩ := manyAt_ok (f := putN) (b := b) (one := numAt b) (fun p q x hp h => by
              obtain ⟨d1, d2, _, _⟩ := numAt_ok hp h
              exact ⟨by omega, d2, numAt_split hp h⟩) n.toNat p2 q z b3 h2
            rw [List.drop_zero] at a1
            rw [hq, List.drop_length, List.append_nil] at c4
            refine ⟨?_, a4, by omega⟩
            rw [a1, b1, c4, putL, c1, Int.toNat_of_nonneg (by omega)]
      · cases h
theorem hexRd_some {b : List UInt8} {fl : Nat} {Z : List Nat} (h : hexRd b = some (fl, Z)) : fl < 4 ∧ Z.length ≤ 1000 ∧ (∀ n ∈ Z, 1 ≤ n ∧ n ≤ 255) ∧ b = resB fl Z := by
  unfold hexRd at h
  split at h
  · rename_i hb
    cases h
    exact ⟨by omega, by simp, by simp, by rw [hb]; rfl⟩
  · split at h
    · cases h
    · rename_i c z hr
      obtain ⟨h1, h2, h3⟩ := hexRaw_some hr
      split at h
      · rename_i hc
        cases h
        obtain ⟨c1, c2, c3⟩ := hc
        have hz : ints (z.map Int.toNat) = z := by
          unfold ints
          rw [List.map_map]
          conv => rhs; rw [← List.map_id z]
          refine List.map_congr_left fun x hx => ?_
          have := c3 x hx
          show ((x.toNat : Nat) : Int) = x
          omega
        refine ⟨by omega, by simpa using h3, fun n hn => ?_, ?_⟩
        · obtain ⟨x, hx, rfl⟩ := List.mem_map.1 hn
          have := c3 x hx
          omega
        · unfold resB
          rw [if_neg, hz, Int.toNat_of_nonneg c1.1]
          · exact h1
          · rintro ⟨q1, q2⟩
            refine c2 ⟨by omega, ?_⟩
            simpa using q2
      · cases h
theorem resB_nil {fl : Nat} {Z : List Nat} : resB fl Z = [] ↔ fl = 0 ∧ Z = [] := by
  unfold resB
  constructor
  · intro h
    split at h
    · assumption
    · have := congrArg List.length h
      have := putU_len (zz (fl : Int))
      simp only [List.length_append, putN, List.length_nil] at *
      omega
  · intro h
    rw [if_pos h]
theorem lossHex_nil {fl n : Nat} (hf : fl < 4) : lossHex fl n = [] ↔ fl = 0 ∧ n = 0 := by
  unfold lossHex
  by_cases h1 : fl % 2 = 1
  · simp [h1]; omega
  · by_cases h2 : 2 ≤ fl
    · simp [h2]; omega
    · by_cases h3 : 0 < n
      · simp [h3]; omega
      · simp [h1, h2, h3]; omega
theorem lossHex_len (fl n : Nat) : (lossHex fl n).length ≤ 3 := by
  unfold lossHex
  simp only [List.length_append]
  split <;> split <;> split <;> simp
end Go.Proofs.YtjfcpnlacodjjaaGreat
namespace Go.Proofs.YtjfcpnlacodjjaaGreat
open Go Go.RowKit

theorem cutSeg_nil (a : Nat) (Z : List Nat) : cutSeg a [] Z = some ([], Z) := by rw [cutSeg]
theorem cutSeg_no {a : Nat} {d : List UInt8} (h : d ≠ []) : cutSeg a d [] = none := by
  cases d with
  | nil => exact absurd rfl h
  | cons c d => rw [cutSeg]
theorem cutSeg_cons {a n : Nat} {d : List UInt8} {Z : List Nat} (h : d ≠ []) : cutSeg a d (n :: Z) = if n ≤ d.length then (match cutSeg (a + n) (d.drop n) Z with
    | none => none
    | some (rs, Z') => some (mkRec a 0 (d.take n) :: rs, Z')) else none := by
  cases d with
  | nil => exact absurd rfl h
  | cons c d => rw [cutSeg] <;> rfl
theorem cutSeg_more (Y : List Nat) : ∀ {Z : List Nat} {a : Nat} {d : List UInt8} {rs : List (List UInt8)} {Z' : List Nat}, cutSeg a d Z = some (rs, Z') → cutSeg a d (Z ++ Y) = some (rs, Z' ++ Y)
  | [], a, d, rs, Z', h => by
    by_cases hd : d = []
    · subst hd
      rw [cutSeg_nil] at h ⊢
      cases h
      rfl
    · rw [cutSeg_no hd] at h
      cases h
  | n :: Z, a, d, rs, Z', h => by
    by_cases hd : d = []
    · subst hd
      rw [cutSeg_nil] at h ⊢
      cases h
      rfl
    · rw [List.cons_append]
      rw [cutSeg_cons hd] at h ⊢
      split at h
      · rename_i hn
        rw [if_pos hn]
        cases hc : cutSeg (a + n) (d.drop n) Z with
        | none => rw [hc] at h; cases h
        | some p =>
          obtain ⟨q, Z2⟩ := p
          rw [hc] at h
          cases h
          rw [cutSeg_more Y hc]
      · cases h
theorem cutSeg_one {a : Nat} {c : List UInt8} (hc : c ≠ []) : cutSeg a c [c.length] = some ([mkRec a 0 c], []) := by
  rw [cutSeg_cons hc, if_pos (Nat.le_refl _), List.drop_length, cutSeg_nil, List.take_length]
theorem cutSeg_grow {c : List UInt8} (hc : c ≠ []) : ∀ {Z : List Nat} {a : Nat} {d : List UInt8} {rs : List (List UInt8)}, cutSeg a d Z = some (rs, []) → cutSeg a (d ++ c) (Z ++ [c.length]) = some (rs ++ [mkRec (a + d.length) 0 c], [])
  | [], a, d, rs, h => by
    by_cases hd : d = []
    · subst hd
      rw [cutSeg_nil] at h
      cases h
      exact cutSeg_one hc
    · rw [cutSeg_no hd] at h
      cases h
  | n :: Z, a, d, rs, h => by
    by_cases hd : d = []
    · subst hd
      rw [cutSeg_nil] at h
      cases h
    · rw [cutSeg_cons hd] at h
      rw [List.cons_append, cutSeg_cons (by simp [hd])]
      split at h
      · rename_i hn
        rw [if_pos (by rw [List.length_append]; omega), List.drop_append_of_le_length hn, List.take_append_of_le_length hn]
        cases hq : cutSeg (a + n) (d.drop n) Z with
        | none => rw [hq] at h; cases h
        | some p =>
          obtain ⟨q, Z2⟩ := p
          rw [hq] at h
          cases h
          rw [cutSeg_grow hc hq]
          simp only [List.cons_append, List.length_drop]
          rw [show a + n + (d.length - n) = a + d.length by omega]
      · cases h
theorem wrAll_cons {a : Nat} {d : List UInt8} {S : List Seg} {Z Z' : List Nat} {q qs : List (List UInt8)} (h1 : cutSeg a d Z = some (q, Z')) (h2 : wrAll S Z' = some qs) : wrAll ((a, d) :: S) Z = some (q ++ qs) := by
  rw [wrAll, h1]
  simp only
  rw [h2]
theorem wrAll_inv {a : Nat} {d : List UInt8} {S : List Seg} {Z : List Nat} {rs : List (List UInt8)} (h : wrAll ((a, d) :: S) Z = some rs) : ∃ q Z' qs, cutSeg a d Z = some (q, Z') ∧ wrAll S Z' = some qs ∧ rs = q ++ qs := by
  rw [wrAll] at h
  split at h
  · cases h
  · rename_i q Z' h1
    split at h
    · cases h
    · rename_i qs h2
      cases h
      exact ⟨q, Z', qs, h1, h2, rfl⟩
theorem wrAll_nil {Z : List Nat} {rs : List (List UInt8)} (h : wrAll [] Z = some rs) : Z = [] ∧ rs = [] := by
  rw [wrAll] at h
  split at h
  · rename_i hz; cases h; exact ⟨hz, rfl⟩
  · cases h
theorem wrAll_snoc {a : Nat} {c : List UInt8} (hc : c ≠ []) : ∀ {S : List Seg} {Z : List Nat} {rs : List (List UInt8)}, wrAll S Z = some rs → wrAll (S ++ [(a, c)]) (Z ++ [c.length]) = some (rs ++ [mkRec a 0 c])
  | [], Z, rs, h => by
    obtain ⟨rfl, rfl⟩ := wrAll_nil h
    exact wrAll_cons (S := []) (q := [mkRec a 0 c]) (qs := []) (cutSeg_one hc) (by rw [wrAll, if_pos rfl])
  | (x, d) :: S, Z, rs, h => by
    obtain ⟨q, Z', qs, h1, h2, rfl⟩ := wrAll_inv h
    rw [List.cons_append, List.append_assoc]
    exact wrAll_cons (cutSeg_more _ h1) (wrAll_snoc hc h2)
theorem wrAll_grow {a : Nat} {d c : List UInt8} (hc : c ≠ []) : ∀ {S : List Seg} {Z : List Nat} {rs : List (List UInt8)}, wrAll (S ++ [(a, d)]) Z = some rs → wrAll (S ++ [(a, d ++ c)]) (Z ++ [c.length]) = some (rs ++ [mkRec (a + d.length) 0 c])
  | [], Z, rs, h => by
    obtain ⟨q, Z', qs, h1, h2, rfl⟩ := wrAll_inv h
    obtain ⟨rfl, rfl⟩ := wrAll_nil h2
    rw [List.append_nil, List.nil_append]
    have := wrAll_cons (S := []) (cutSeg_grow hc h1) (by rw [wrAll, if_pos rfl])
    rwa [List.append_nil] at this
  | (x, e) :: S, Z, rs, h => by
    obtain ⟨q, Z', qs, h1, h2, rfl⟩ := wrAll_inv h
    rw [List.cons_append, List.append_assoc]
    exact wrAll_cons (cutSeg_more _ h1) (wrAll_grow hc h2)
/-! ### segments that are read -/
def segOk (S : List Seg) : Prop := ∀ s ∈ S, s.1 < 65536 ∧ s.2 ≠ [] ∧ s.2.length + s.1 ≤ 65536
theorem segOk_add {S : List Seg} {a : Nat} {c : List UInt8} (h : segOk S) (hc : c ≠ []) (ha : a + c.length ≤ 65536) : segOk (addSeg a c S) := by
  have hcl : 0 < c.length := List.length_pos_iff.2 hc
  rcases List.eq_nil_or_concat S with rfl | ⟨P, x, rfl⟩
  · intro s hs
    rw [addSeg_nil] at hs
    simp only [List.mem_singleton] at hs
    subst hs
    exact ⟨by dsimp only; omega, hc, by dsimp only; omega⟩
  · rw [List.concat_eq_append] at h ⊢
    rw [addSeg_snoc]
    split
    · rename_i he
      intro s hs
      rcases List.mem_append.1 hs with hs | hs
      · exact h s (by simp [hs])
      · simp only [List.mem_singleton] at hs
        subst hs
        have := h x (by simp)
        refine ⟨this.1, by simp [this.2.1], ?_⟩
        simp only [List.length_append]
        omega
    · intro s hs
      rcases List.mem_append.1 hs with hs | hs
      · exact h s hs
      · simp only [List.mem_singleton] at hs
        subst hs
        exact ⟨by dsimp only; omega, hc, by dsimp only; omega⟩
theorem wrAll_add {S : List Seg} {Z : List Nat} {rs : List (List UInt8)} {a : Nat} {c : List UInt8} (hc : c ≠ []) (h : wrAll S Z = some rs) : wrAll (addSeg a c S) (Z ++ [c.length]) = some (rs ++ [mkRec a 0 c]) := by
  rcases List.eq_nil_or_concat S with rfl | ⟨P, x, rfl⟩
  · exact wrAll_snoc hc h
  · rw [List.concat_eq_append] at h ⊢
    rw [addSeg_snoc]
    split
    · rename_i he
      rw [← he]
      exact wrAll_grow hc h
    · exact wrAll_snoc hc h
theorem wrAll_none {S : List Seg} {rs : List (List UInt8)} (hS : segOk S) (h : wrAll S [] = some rs) : S = [] := by
  cases S with
  | nil => rfl
  | cons x S =>
    obtain ⟨a, d⟩ := x
    obtain ⟨q, Z', qs, h1, _, _⟩ := wrAll_inv h
    rw [cutSeg_no (hS (a, d) (by simp)).2.1] at h1
    cases h1
theorem u8_nat (c : UInt8) : UInt8.ofNat c.toNat = c := UInt8.ofNat_toNat
/-- a record is told by its kind, its place and its content -/
theorem rec_mk {raw : List UInt8} (h : recOk raw) : raw = mkRec (rAt raw) (b8 raw 3) (rCont raw) ∧ ∀ k, b8 raw 3 = k → raw = mkRec (rAt raw) k (rCont raw) := by
  have key : raw = mkRec (rAt raw) (b8 raw 3) (rCont raw) := by
    obtain ⟨h1, h2, h3⟩ := h
    match raw, h1, h2, h3 with
    | x0 :: x1 :: x2 :: x3 :: t, h1, h2, h3 =>
      have e0 : b8 (x0 :: x1 :: x2 :: x3 :: t) 0 = x0.toNat := rfl
      have e3 : b8 (x0 :: x1 :: x2 :: x3 :: t) 3 = x3.toNat := rfl
      have ea : rAt (x0 :: x1 :: x2 :: x3 :: t) = 256 * x1.toNat + x2.toNat := rfl
      have ec : rCont (x0 :: x1 :: x2 :: x3 :: t) = t.take x0.toNat := rfl
      rw [e0] at h2
      rw [e3, ea, ec]
      simp only [List.length_cons] at h2
      obtain ⟨n, hn⟩ : ∃ n, n = x0.toNat := ⟨_, rfl⟩
      rw [← hn] at h2 ⊢
      have l1 := x1.toNat_lt
      have l2 := x2.toNat_lt
      have ht : t = t.take n ++ [t[n]'(by omega)] := by
        have := List.take_append_drop n t
        conv => lhs; rw [← this]
        rw [List.drop_eq_getElem_cons (by omega), List.drop_of_length_le (by omega)]
      obtain ⟨y, hy⟩ : ∃ y, y = t[n]'(by omega) := ⟨_, rfl⟩
      rw [← hy] at ht
      obtain ⟨c, hc⟩ : ∃ c, c = t.take n := ⟨_, rfl⟩
      rw [← hc] at ht ⊢
      have hcl : c.length = n := by rw [hc]; simp; omega
      have hd : recHd (256 * x1.toNat + x2.toNat) x3.toNat c = [x0, x1, x2, x3] ++ c := by
        unfold recHd
        rw [hcl, hn, u8_nat, u8_nat, show (256 * x1.toNat + x2.toNat) / 256 = x1.toNat by omega, u8_nat]
        have : UInt8.ofNat (256 * x1.toNat + x2.toNat) = x2 := by
          apply UInt8.toNat_inj.1
          rw [UInt8.toNat_ofNat']
          omega
        rw [this]
      have hs : sumB (x0 :: x1 :: x2 :: x3 :: t) = sumB ([x0, x1, x2, x3] ++ c) + y.toNat := by
        rw [ht]
        have : sumB (([x0, x1, x2, x3] ++ c) ++ [y]) = sumB ([x0, x1, x2, x3] ++ c) + sumB [y] := sumB_append _ _
        rw [show x0 :: x1 :: x2 :: x3 :: (c ++ [y]) = ([x0, x1, x2, x3] ++ c) ++ [y] from rfl, this]
        rfl
      rw [hs] at h3
      have ly := y.toNat_lt
      unfold mkRec sumC
      rw [hd, ht]
      have : UInt8.ofNat (256 - sumB ([x0, x1, x2, x3] ++ c) % 256) = y := by
        apply UInt8.toNat_inj.1
        rw [UInt8.toNat_ofNat']
        omega
      rw [this]
      rfl
  exact ⟨key, fun k hk => by rw [← hk]; exact key⟩
/-- what the records of a file tell -/
structure FoldR (S : List Seg) (Z : List Nat) (qs rs : List (List UInt8)) : Prop where
  ex : ∃ init, rs = init ++ [mkRec 0 1 []] ∧ wrAll S Z = some (qs ++ init) ∧ Z.length = qs.length + init.length
  seg : segOk S
  sz : ∀ n ∈ Z, 1 ≤ n ∧ n ≤ 255
theorem foldR_some {S' : List Seg} {Z' : List Nat} : ∀ {rs : List (List UInt8)} {S : List Seg} {Z : List Nat} {qs : List (List UInt8)}, wrAll S Z = some qs → Z.length = qs.length → segOk S → (∀ n ∈ Z, 1 ≤ n ∧ n ≤ 255) → (∀ r ∈ rs, recOk r) → foldR S Z rs = some (S', Z') → FoldR S' Z' qs rs
  | [], S, Z, qs, _, _, _, _, _, h => by rw [foldR] at h; cases h
  | raw :: rs, S, Z, qs, hw, hl, hS, hZ, hr, h => by
    have hok := hr raw (by simp)
    by_cases hrs : rs = []
    · subst hrs
      rw [foldR_one] at h
      split at h
      · rename_i he
        cases h
        obtain ⟨e1, e2, e3⟩ := he
        have := (rec_mk hok).2 1 e3
        rw [e2, show rCont raw = [] by unfold rCont; rw [e1, List.take_zero]] at this
        refine ⟨⟨[], by rw [this]; rfl, by rw [List.append_nil]; exact hw, by simpa using hl⟩, hS, hZ⟩
      · cases h
    · rw [foldR_cons _ _ _ hrs] at h
      split at h
      · rename_i hd
        obtain ⟨d1, d2, d3⟩ := hd
        have hcl := rCont_len hok
        have hcn : rCont raw ≠ [] := by
          intro e
          rw [e] at hcl
          simp at hcl
          omega
        have e := (rec_mk hok).2 0 d1
        have hw2 := wrAll_add (a := rAt raw) hcn hw
        rw [hcl, ← e] at hw2
        have hb : b8 raw 0 ≤ 255 := Nat.le_of_lt_succ (raw[0]?.getD 0).toNat_lt
        obtain ⟨⟨init, i1, i2, i3⟩, i4, i5⟩ := foldR_some hw2 (by simp [hl]) (segOk_add hS hcn (by omega)) (fun n hn => by
          rcases List.mem_append.1 hn with hn | hn
          · exact hZ n hn
          · obtain rfl := List.mem_singleton.1 hn
            exact ⟨Nat.pos_of_ne_zero d2, hb⟩) (fun r hr2 => hr r (by simp [hr2])) h
        refine ⟨⟨raw :: init, by rw [i1]; rfl, by rw [i2, List.append_assoc]; rfl, by simp only [List.length_append, List.length_cons, List.length_nil] at i3 ⊢; omega⟩, i4, i5⟩
      · cases h
structure HexF (fl : Nat) (l : List UInt8) (S : List Seg) (Z : List Nat) : Prop where
  ex : ∃ init, l = (init ++ [mkRec 0 1 []]).flatMap (lineB fl) ∧ wrAll S Z = some init ∧ Z.length = init.length
  seg : segOk S
  sz : ∀ n ∈ Z, 1 ≤ n ∧ n ≤ 255
  len : 2 * Z.length ≤ l.length
theorem lines_len (fl : Nat) : ∀ rs : List (List UInt8), 2 * rs.length ≤ (rs.flatMap (lineB fl)).length
  | [] => by simp
  | r :: rs => by
    have := lines_len fl rs
    have := (lineB_len fl r).1
    rw [List.flatMap_cons, List.length_append, List.length_cons]
    omega
theorem hexRead_some {fl : Nat} {l : List UInt8} {S : List Seg} {Z : List Nat} (h : hexRead fl l = some (S, Z)) : HexF fl l S Z := by
  unfold hexRead at h
  split at h
  · cases h
  · rename_i rs hr
    obtain ⟨r1, r2⟩ := recs_iff.1 hr
    obtain ⟨⟨init, i1, i2, i3⟩, i4, i5⟩ := foldR_some (qs := []) (by rw [wrAll, if_pos rfl]) rfl (by unfold segOk; simp) (by simp) r2 h
    rw [List.nil_append] at i2
    simp only [List.length_nil, Nat.zero_add] at i3
    refine ⟨⟨init, by rw [← i1]; exact r1, i2, i3⟩, i4, i5, ?_⟩
    have := lines_len fl rs
    rw [← r1, i1, List.length_append] at this
    omega
theorem hexOut_back {fl : Nat} {l : List UInt8} {S : List Seg} {Z : List Nat} (h : HexF fl l S Z) : hexOut fl S (szOf S Z) = some l := by
  obtain ⟨init, i1, i2, i3⟩ := h.ex
  have e : (if szOf S Z = [] then usual S else szOf S Z) = Z := by
    unfold szOf
    by_cases hu : Z = usual S
    · rw [if_pos hu, if_pos rfl, hu]
    · rw [if_neg hu]
      by_cases hz : Z = []
      · exfalso
        rw [hz] at i2
        have := wrAll_none h.seg i2
        rw [this] at hu
        exact hu (by rw [hz]; rfl)
      · rw [if_neg hz]
  unfold hexOut
  rw [e, i2, i1]
theorem hexShape_val {S : List Seg} (h : segOk S) : hexShape (hexVal S) = some S := by
  unfold hexShape
  rw [if_pos rfl]
  show allM segOf (S.map segV) = some S
  refine allM_of (by simp) fun i x y hx hy => ?_
  rw [List.getElem?_map, hy] at hx
  cases hx
  obtain ⟨h1, h2, h3⟩ := h y (List.mem_of_getElem? hy)
  unfold segOf
  rw [if_pos ⟨rfl, rfl⟩]
  simp only
  rw [if_pos ⟨by trivial, by trivial, by show (0 : Int) ≤ (y.1 : Int); omega, by show (y.1 : Int) < 65536; omega, h2, by show (y.2.length : Int) ≤ 65536 - (y.1 : Int); omega⟩]
  rfl
theorem hexFrom_some {l : List UInt8} {x : Val × List UInt8} : ∀ {n : Nat}, hexFrom l n = some x → ∃ fl, fl < 4 ∧ hexOne fl l = some x
  | 0, h => by cases h
  | n + 1, h => by
    unfold hexFrom at h
    split at h
    · rename_i y hy
      cases h
      exact ⟨3 - n, by omega, hy⟩
    · exact hexFrom_some h
theorem hexOne_some {fl : Nat} {l : List UInt8} {v : Val} {r : List UInt8} (h : hexOne fl l = some (v, r)) : ∃ S Z, hexRead fl l = some (S, Z) ∧ (vfault (hexVal S)).1 = 0 ∧ v = hexVal S ∧ r = resB fl (szOf S Z) := by
  unfold hexOne at h
  split at h
  · cases h
  · rename_i S Z hr
    split at h
    · rename_i hv
      cases h
      exact ⟨S, Z, hr, hv, rfl, rfl⟩
    · cases h
theorem hexTo_some {l : List UInt8} {v : Val} {r : List UInt8} (h : hexTo l = some (v, r)) : ∃ fl S Z, fl < 4 ∧ HexF fl l S Z ∧ (vfault (hexVal S)).1 = 0 ∧ v = hexVal S ∧ r = resB fl (szOf S Z) := by
  obtain ⟨fl, hf, h1⟩ := hexFrom_some h
  obtain ⟨S, Z, h2, h3, h4, h5⟩ := hexOne_some h1
  exact ⟨fl, S, Z, hf, hexRead_some h2, h3, h4, h5⟩
theorem szOf_ok {fl : Nat} {l : List UInt8} {S : List Seg} {Z : List Nat} (h : HexF fl l S Z) : (szOf S Z).length ≤ Z.length ∧ ∀ n ∈ szOf S Z, 1 ≤ n ∧ n ≤ 255 := by
  unfold szOf
  split
  · exact ⟨Nat.zero_le _, by simp⟩
  · exact ⟨Nat.le_refl _, h.sz⟩
theorem hexMake_yes {v : Val} {b o : List UInt8} {S : List Seg} {fl : Nat} {Z : List Nat} (h1 : hexShape v = some S) (h2 : hexRd b = some (fl, Z)) (h3 : hexOut fl S Z = some o) (h4 : o.length ≤ 1000) (h5 : hexTo o = some (v, b)) : hexMake v b = some o := by
  unfold hexMake
  rw [h1]
  simp only
  rw [h2]
  simp only
  rw [h3]
  simp only
  rw [if_pos ⟨h4, h5⟩]
theorem hexMake_no {v : Val} {b o : List UInt8} {S : List Seg} {fl : Nat} {Z : List Nat} (h1 : hexShape v = some S) (h2 : hexRd b = some (fl, Z)) (h3 : hexOut fl S Z = some o) (h4 : o.length ≤ 1000 → hexTo o ≠ some (v, b)) : hexMake v b = none := by
  unfold hexMake
  rw [h1]
  simp only
  rw [h2]
  simp only
  rw [h3]
  simp only
  rw [if_neg fun q => h4 q.1 q.2]
theorem hexMake_bad {v : Val} {b : List UInt8} {S : List Seg} (h1 : hexShape v = some S) (h2 : hexRd b = none) : hexMake v b = none := by
  unfold hexMake
  rw [h1]
  simp only
  rw [h2]
theorem hexMake_out {v : Val} {b : List UInt8} {S : List Seg} {fl : Nat} {Z : List Nat} (h1 : hexShape v = some S) (h2 : hexRd b = some (fl, Z)) (h3 : hexOut fl S Z = none) : hexMake v b = none := by
  unfold hexMake
  rw [h1]
  simp only
  rw [h2]
  simp only
  rw [h3]
theorem hex_round {l : List UInt8} {v : Val} {r : List UInt8} (hl : l.length ≤ 1000) (h : hexTo l = some (v, r)) : hexMake v r = some l := by
  obtain ⟨fl, S, Z, hf, F, h3, h4, h5⟩ := hexTo_some h
  have hz := szOf_ok F
  have := F.len
  unfold hexMake
  rw [h4, hexShape_val F.seg]
  simp only
  rw [h5, hexRd_res hf (by omega) hz.2]
  simp only
  rw [hexOut_back F]
  simp only
  rw [if_pos ⟨hl, by rw [h, h4, h5]⟩]
theorem hexMake_some {v : Val} {b o : List UInt8} (h : hexMake v b = some o) : o.length ≤ 1000 ∧ hexTo o = some (v, b) := by
  unfold hexMake at h
  split at h
  · cases h
  · split at h
    · cases h
    · split at h
      · cases h
      · split at h
        · rename_i hc
          cases h
          exact hc
        · cases h
theorem putL_ints_len {Z : List Nat} (hl : Z.length ≤ 1000) (hz : ∀ n ∈ Z, n ≤ 255) : (putL putN (ints Z)).length ≤ 10010 := by
  have := putL_len (f := putN) (m := 10) (l := ints Z) (by simp; omega) fun x hx => by
    obtain ⟨n, hn, rfl⟩ := List.mem_map.1 hx
    have := hz n hn
    exact putN_len (by omega) (by omega)
  simp only [List.length_map] at this
  omega
theorem resB_len {fl : Nat} {Z : List Nat} (hf : fl < 4) (hl : Z.length ≤ 1000) (hz : ∀ n ∈ Z, n ≤ 255) : (resB fl Z).length ≤ 10020 := by
  have h1 := putL_ints_len hl hz
  have h2 := putN_len (n := (fl : Int)) (by omega) (by omega)
  unfold resB
  split
  · simp
  · rw [List.length_append]; omega
theorem vb_seg {s : Seg} (h : s.1 < 65536 ∧ s.2 ≠ [] ∧ s.2.length + s.1 ≤ 65536) : VB 1048576 (segV s) :=
  .mk (i64_c 4) (i64_c 0) (Nat.zero_le _) (by show 2 ≤ _; omega) (by
    intro x hx
    simp only [List.mem_cons, List.not_mem_nil, or_false] at hx
    rcases hx with rfl | rfl <;> decide) (by show 2 ≤ _; omega) (by
    intro x hx
    simp only [List.mem_cons, List.not_mem_nil, or_false] at hx
    rcases hx with rfl | rfl
    · exact vb_num ⟨by omega, by omega⟩
    · exact vb_byt (by omega))
theorem vb_hex {S : List Seg} (h : segOk S) (hl : S.length ≤ 1000000) : VB 1048576 (hexVal S) :=
  .mk (i64_c 3) (i64_c 0) (Nat.zero_le _) (Nat.zero_le _) (by simp) (by show (S.map segV).length ≤ _; simp; omega) (by
    intro x hx
    obtain ⟨s, hs, rfl⟩ := List.mem_map.1 (show x ∈ S.map segV from hx)
    exact vb_seg (h s hs))
theorem wrAll_len : ∀ {S : List Seg} {Z : List Nat} {rs : List (List UInt8)}, segOk S → wrAll S Z = some rs → S.length ≤ rs.length
  | [], _, _, _, _ => Nat.zero_le _
  | (a, d) :: S, Z, rs, hS, h => by
    obtain ⟨q, Z', qs, h1, h2, rfl⟩ := wrAll_inv h
    have := wrAll_len (fun s hs => hS s (by simp [hs])) h2
    have hd := (hS (a, d) (by simp)).2.1
    have hq : 1 ≤ q.length := by
      cases Z with
      | nil => rw [cutSeg_no hd] at h1; cases h1
      | cons n Z =>
        rw [cutSeg_cons hd] at h1
        split at h1
        · split at h1
          · cases h1
          · cases h1; simp
        · cases h1
    simp only [List.length_append, List.length_cons]
    omega
theorem hex_valid {b : List UInt8} {v : Val} {r : List UInt8} (hl : b.length ≤ 1000) (h : hexTo b = some (v, r)) : VB 1048576 v ∧ (vfault v).1 = 0 ∧ (hexShape v).isSome = true ∧ hexMake v r = some b ∧ r.length ≤ 100000000 ∧ ∃ ls, hexLoss r = some ls ∧ ls.length ≤ 4 ∧ (ls = [] ↔ r = []) := by
  have hmk := hex_round hl h
  obtain ⟨fl, S, Z, hf, F, h3, h4, h5⟩ := hexTo_some h
  obtain ⟨z1, z2⟩ := szOf_ok F
  have hlen := F.len
  obtain ⟨init, i1, i2, i3⟩ := F.ex
  have hSl := wrAll_len F.seg i2
  refine ⟨by rw [h4]; exact vb_hex F.seg (by omega), by rw [h4]; exact h3, by rw [h4, hexShape_val F.seg]; rfl, hmk, ?_, ?_⟩
  · rw [h5]
    have := resB_len hf (Z := szOf S Z) (by omega) fun n hn => (z2 n hn).2
    omega
  · unfold hexLoss
    rw [h5, hexRd_res hf (by omega) z2]
    refine ⟨_, rfl, by have := lossHex_len fl (szOf S Z).length; omega, ?_⟩
    rw [lossHex_nil hf, resB_nil, List.length_eq_zero_iff]
end Go.Proofs.YtjfcpnlacodjjaaGreat
namespace Go.Proofs.YtjfcpnlacodjjaaGreat
open Go Go.RowKit

theorem hexTo_eq (l : List UInt8) : hexTo l = match hexOne 0 l with
    | some x => some x
    | none => match hexOne 1 l with
      | some x => some x
      | none => match hexOne 2 l with
        | some x => some x
        | none => match hexOne 3 l with
          | some x => some x
          | none => none := rfl
theorem hexTo_of {l : List UInt8} {f : Nat} (hf : f < 4) (hno : ∀ g, g < f → hexOne g l = none) {x : Val × List UInt8} (h : hexOne f l = some x) : hexTo l = some x := by
  rw [hexTo_eq]
  obtain rfl | rfl | rfl | rfl : f = 0 ∨ f = 1 ∨ f = 2 ∨ f = 3 := by omega
  · rw [h]
  · rw [hno 0 (by omega), h]
  · rw [hno 0 (by omega), hno 1 (by omega), h]
  · rw [hno 0 (by omega), hno 1 (by omega), hno 2 (by omega), h]
theorem hexTo_no {l : List UInt8} (h : ∀ g, g < 4 → hexOne g l = none) : hexTo l = none := by
  rw [hexTo_eq, h 0 (by omega), h 1 (by omega), h 2 (by omega), h 3 (by omega)]
theorem hexOne_same {l : List UInt8} {f g : Nat} {rs : List (List UInt8)} (h : recs f l = some rs) (h1 : hexOne f l = none) : hexOne g l = none := by
  cases hg : recs g l with
  | none => unfold hexOne hexRead; rw [hg]
  | some rs' =>
    have e := recs_same h hg
    subst e
    unfold hexOne hexRead at h1 ⊢
    rw [h] at h1
    rw [hg]
    simp only at h1 ⊢
    cases hf : foldR [] [] rs with
    | none => rfl
    | some p =>
      rw [hf] at h1
      simp only at h1 ⊢
      split at h1
      · cases h1
      · rename_i hv
        rw [if_neg hv]
theorem hexTo_first {l : List UInt8} {f : Nat} (hf : f < 4) (hno : ∀ g, g < f → hexOne g l = none) {rs : List (List UInt8)} (h : recs f l = some rs) : hexTo l = hexOne f l := by
  cases h1 : hexOne f l with
  | some x => exact hexTo_of hf hno h1
  | none => exact hexTo_no fun g _ => hexOne_same h h1
theorem hexOne_recs {l : List UInt8} {f : Nat} {rs : List (List UInt8)} (h : recs f l = some rs) : hexOne f l = match foldR [] [] rs with
    | none => none
    | some (S, Z) => if (vfault (hexVal S)).1 = 0 then some (hexVal S, resB f (szOf S Z)) else none := by
  unfold hexOne hexRead
  rw [h]
  all_goals first | rfl | (simp only; cases foldR [] [] rs <;> rfl)
theorem hexOne_none {l : List UInt8} {f : Nat} (h : recs f l = none) : hexOne f l = none := by
  unfold hexOne hexRead
  rw [h]
theorem foldR_nil (S : List Seg) (Z : List Nat) : foldR S Z [] = none := by rw [foldR]
/-! ### one segment -/
theorem mkRec_eq (a k : Nat) (c : List UInt8) : mkRec a k c = UInt8.ofNat c.length :: UInt8.ofNat (a / 256) :: UInt8.ofNat a :: UInt8.ofNat k :: (c ++ [sumC (recHd a k c)]) := by
  unfold mkRec recHd
  simp
theorem mkRec_ok {a k : Nat} {c : List UInt8} (hc : c.length ≤ 255) : recOk (mkRec a k c) := by
  have hs : sumB (mkRec a k c) % 256 = 0 := by
    unfold mkRec
    rw [sumB_append]
    have : sumB [sumC (recHd a k c)] = (256 - sumB (recHd a k c) % 256) % 256 := by
      show (UInt8.ofNat (256 - sumB (recHd a k c) % 256)).toNat + 0 = _
      rw [UInt8.toNat_ofNat']
      rfl
    rw [this]
    omega
  refine ⟨?_, ?_, hs⟩
  · rw [mkRec_eq]; simp only [List.length_cons, List.length_append, List.length_nil]; omega
  · rw [mkRec_eq]
    have : b8 (UInt8.ofNat c.length :: UInt8.ofNat (a / 256) :: UInt8.ofNat a :: UInt8.ofNat k :: (c ++ [sumC (recHd a k c)])) 0 = c.length := toNat_ofNat_lt (show c.length < 256 by omega)
    rw [this]
    simp only [List.length_cons, List.length_append, List.length_nil]
    omega
theorem mkRec_parts {a k : Nat} {c : List UInt8} (hc : c.length ≤ 255) (ha : a < 65536) (hk : k < 256) : b8 (mkRec a k c) 0 = c.length ∧ rAt (mkRec a k c) = a ∧ b8 (mkRec a k c) 3 = k ∧ rCont (mkRec a k c) = c := by
  rw [mkRec_eq]
  have h0 : b8 (UInt8.ofNat c.length :: UInt8.ofNat (a / 256) :: UInt8.ofNat a :: UInt8.ofNat k :: (c ++ [sumC (recHd a k c)])) 0 = c.length := toNat_ofNat_lt (show c.length < 256 by omega)
  refine ⟨h0, ?_, toNat_ofNat_lt hk, ?_⟩
  · show 256 * (UInt8.ofNat (a / 256)).toNat + (UInt8.ofNat a).toNat = a
    rw [UInt8.toNat_ofNat', UInt8.toNat_ofNat']
    omega
  · unfold rCont
    rw [h0]
    show (c ++ [sumC (recHd a k c)]).take c.length = c
    rw [List.take_left]
theorem end_ok : recOk (mkRec 0 1 []) ∧ endOk (mkRec 0 1 []) := by
  refine ⟨mkRec_ok (by simp), ?_⟩
  obtain ⟨h1, h2, h3, _⟩ := mkRec_parts (a := 0) (k := 1) (c := []) (by simp) (by decide) (by decide)
  exact ⟨h1, h2, h3⟩
theorem data_ok {a : Nat} {c : List UInt8} (h0 : c ≠ []) (hc : c.length ≤ 255) (ha : a + c.length ≤ 65536) : dataOk (mkRec a 0 c) := by
  have := List.length_pos_iff.2 h0
  obtain ⟨h1, h2, h3, _⟩ := mkRec_parts (a := a) (k := 0) (c := c) hc (by omega) (by decide)
  exact ⟨h3, by omega, by omega⟩
theorem take_ne {d : List UInt8} {n : Nat} (h1 : 1 ≤ n) (h2 : n ≤ d.length) : d.take n ≠ [] ∧ (d.take n).length = n := by
  have : (d.take n).length = n := by simp; omega
  refine ⟨fun e => ?_, this⟩
  rw [e] at this
  simp at this
  omega
/-- records of one segment, behind its first part -/
theorem foldR_cut {a0 : Nat} : ∀ {Z : List Nat} {a : Nat} {d p : List UInt8} {rs : List (List UInt8)} {Z0 : List Nat}, cutSeg a d Z = some (rs, []) → (∀ n ∈ Z, 1 ≤ n ∧ n ≤ 255) → a + d.length ≤ 65536 → a0 + p.length = a → foldR [(a0, p)] Z0 (rs ++ [mkRec 0 1 []]) = some ([(a0, p ++ d)], Z0 ++ Z)
  | [], a, d, p, rs, Z0, h, _, _, _ => by
    by_cases hd : d = []
    · subst hd
      rw [cutSeg_nil] at h
      cases h
      rw [List.nil_append, foldR_one, if_pos end_ok.2, List.append_nil, List.append_nil]
    · rw [cutSeg_no hd] at h
      cases h
  | n :: Z, a, d, p, rs, Z0, h, hz, hb, ha => by
    by_cases hd : d = []
    · subst hd
      rw [cutSeg_nil] at h
      cases h
    · rw [cutSeg_cons hd] at h
      split at h
      · rename_i hn
        cases hc : cutSeg (a + n) (d.drop n) Z with
        | none => rw [hc] at h; cases h
        | some q =>
          obtain ⟨qs, Z'⟩ := q
          rw [hc] at h
          cases h
          have hn2 := hz n (by simp)
          obtain ⟨t1, t2⟩ := take_ne hn2.1 hn
          obtain ⟨p1, p2, p3, p4⟩ := mkRec_parts (a := a) (k := 0) (c := d.take n) (by omega) (by omega) (by decide)
          rw [List.cons_append, foldR_cons _ _ _ (by simp), if_pos (data_ok t1 (by omega) (by omega)), p1, p2, p4, t2]
          have e : addSeg a (d.take n) [(a0, p)] = [(a0, p ++ d.take n)] := by
            have := addSeg_snoc a (d.take n) [] (a0, p)
            rw [List.nil_append] at this
            rw [this, if_pos ha]
            rfl
          rw [e, foldR_cut hc (fun m hm => hz m (by simp [hm])) (by simp only [List.length_drop]; omega) (by rw [List.length_append, t2]; omega)]
          rw [List.append_assoc, List.take_append_drop, List.append_assoc]
          rfl
      · cases h
theorem foldR_seg {a : Nat} {d : List UInt8} {Z : List Nat} {rs : List (List UInt8)} (h0 : d ≠ []) (h : cutSeg a d Z = some (rs, [])) (hz : ∀ n ∈ Z, 1 ≤ n ∧ n ≤ 255) (hb : a + d.length ≤ 65536) : foldR [] [] (rs ++ [mkRec 0 1 []]) = some ([(a, d)], Z) := by
  cases Z with
  | nil => rw [cutSeg_no h0] at h; cases h
  | cons n Z =>
    rw [cutSeg_cons h0] at h
    split at h
    · rename_i hn
      cases hc : cutSeg (a + n) (d.drop n) Z with
      | none => rw [hc] at h; cases h
      | some q =>
        obtain ⟨qs, Z'⟩ := q
        rw [hc] at h
        cases h
        have hn2 := hz n (by simp)
        obtain ⟨t1, t2⟩ := take_ne hn2.1 hn
        obtain ⟨p1, p2, p3, p4⟩ := mkRec_parts (a := a) (k := 0) (c := d.take n) (by omega) (by omega) (by decide)
        rw [List.cons_append, foldR_cons _ _ _ (by simp), if_pos (data_ok t1 (by omega) (by omega)), p1, p2, p4, t2, addSeg_nil]
        have := foldR_cut (a0 := a) (p := d.take n) (Z0 := [n]) hc (fun m hm => hz m (by simp [hm])) (by simp only [List.length_drop]; omega) (by rw [t2])
        rw [List.take_append_drop] at this
        exact this
    · cases h
theorem cutSeg_ok : ∀ {Z : List Nat} {a : Nat} {d : List UInt8}, Z.sum = d.length → (∀ n ∈ Z, 1 ≤ n ∧ n ≤ 255) → ∃ rs, cutSeg a d Z = some (rs, []) ∧ rs.length = Z.length ∧ ∀ r ∈ rs, recOk r ∧ r.length ≤ 260
  | [], a, d, hs, _ => by
    have : d = [] := List.eq_nil_of_length_eq_zero (by simpa using hs.symm)
    subst this
    exact ⟨[], cutSeg_nil _ _, rfl, by simp⟩
  | n :: Z, a, d, hs, hz => by
    have hn := hz n (by simp)
    rw [List.sum_cons] at hs
    have hd : d ≠ [] := by rintro rfl; simp at hs; omega
    obtain ⟨rs, h1, h2, h3⟩ := cutSeg_ok (Z := Z) (a := a + n) (d := d.drop n) (by rw [List.length_drop]; omega) (fun m hm => hz m (by simp [hm]))
    refine ⟨mkRec a 0 (d.take n) :: rs, ?_, by simp [h2], fun r hr => ?_⟩
    · rw [cutSeg_cons hd, if_pos (by omega), h1]
    · rcases List.mem_cons.1 hr with rfl | hr
      · have : (d.take n).length = n := by simp; omega
        refine ⟨mkRec_ok (by omega), ?_⟩
        rw [mkRec_eq]
        simp only [List.length_cons, List.length_append, List.length_nil]
        omega
      · exact h3 r hr
theorem usualN_sum : ∀ (m n : Nat), n ≤ m → (usualN n).sum = n ∧ ∀ k ∈ usualN n, 1 ≤ k ∧ k ≤ 16
  | 0, n, h => by
    obtain rfl : n = 0 := by omega
    rw [usualN_zero]
    exact ⟨rfl, by simp⟩
  | m + 1, n, h => by
    by_cases h0 : n = 0
    · subst h0; rw [usualN_zero]; exact ⟨rfl, by simp⟩
    by_cases h16 : n ≤ 16
    · rw [usualN_small h0 h16]
      exact ⟨by simp, by simp; omega⟩
    · rw [usualN_big (by omega)]
      obtain ⟨h1, h2⟩ := usualN_sum m (n - 16) (by omega)
      refine ⟨by rw [List.sum_cons, h1]; omega, fun k hk => ?_⟩
      rcases List.mem_cons.1 hk with rfl | hk
      · omega
      · exact h2 k hk
theorem sum_lines (fl : Nat) : ∀ (rs : List (List UInt8)), (rs.flatMap (lineB fl)).length ≤ 3 * rs.length + 2 * rs.flatten.length
  | [] => by simp
  | r :: rs => by
    have := sum_lines fl rs
    have := (lineB_len fl r).2
    rw [List.flatMap_cons, List.length_append, List.length_cons, List.flatten_cons, List.length_append]
    omega
theorem cutSeg_size : ∀ {Z : List Nat} {a : Nat} {d : List UInt8} {rs : List (List UInt8)} {Z' : List Nat}, cutSeg a d Z = some (rs, Z') → rs.flatten.length ≤ d.length + 5 * rs.length
  | [], a, d, rs, Z', h => by
    by_cases hd : d = []
    · subst hd; rw [cutSeg_nil] at h; cases h; simp
    · rw [cutSeg_no hd] at h; cases h
  | n :: Z, a, d, rs, Z', h => by
    by_cases hd : d = []
    · subst hd; rw [cutSeg_nil] at h; cases h; simp
    rw [cutSeg_cons hd] at h
    split at h
    · rename_i hn
      cases hc : cutSeg (a + n) (d.drop n) Z with
      | none => rw [hc] at h; cases h
      | some q =>
        obtain ⟨qs, Z2⟩ := q
        rw [hc] at h
        cases h
        have := cutSeg_size hc
        rw [List.length_drop] at this
        rw [List.flatten_cons, List.length_append, mkRec_eq]
        simp only [List.length_cons, List.length_append, List.length_nil, List.length_take]
        omega
    · cases h
/-- a file of one segment, however it is divided -/
theorem hex_seg {a : Nat} {d : List UInt8} {Z : List Nat} (h0 : d ≠ []) (hl : d.length ≤ 200) (hb : a + d.length ≤ 65536) (hs : Z.sum = d.length) (hz : ∀ n ∈ Z, 1 ≤ n ∧ n ≤ 255) (hk : Z.length ≤ 14) (hv : (vfault (hexVal [(a, d)])).1 = 0) {Y : List Nat} (hY : (if Y = [] then usual [(a, d)] else Y) = Z) : ∃ o, hexOut 0 [(a, d)] Y = some o ∧ o.length ≤ 1000 ∧ hexTo o = some (hexVal [(a, d)], resB 0 (szOf [(a, d)] Z)) := by
  obtain ⟨rs, h1, h2, h3⟩ := cutSeg_ok (a := a) hs hz
  have hw : wrAll [(a, d)] Z = some rs := by
    have := wrAll_cons (S := []) h1 (qs := []) (by rw [wrAll, if_pos rfl])
    rwa [List.append_nil] at this
  refine ⟨(rs ++ [mkRec 0 1 []]).flatMap (lineB 0), by unfold hexOut; rw [hY, hw], ?_, ?_⟩
  · have e1 := sum_lines 0 (rs ++ [mkRec 0 1 []])
    have e2 := cutSeg_size h1
    rw [List.length_append, List.flatten_append, List.length_append] at e1
    have e3 : [mkRec 0 1 []].flatten.length = 5 := rfl
    rw [e3] at e1
    simp only [List.length_singleton] at e1
    omega
  · have hr : recs 0 ((rs ++ [mkRec 0 1 []]).flatMap (lineB 0)) = some (rs ++ [mkRec 0 1 []]) := recs_iff.2 ⟨rfl, fun r hr => by
      rcases List.mem_append.1 hr with hr | hr
      · exact (h3 r hr).1
      · rw [List.mem_singleton.1 hr]; exact end_ok.1⟩
    refine hexTo_of (f := 0) (by decide) (fun g hg => by omega) ?_
    rw [hexOne_recs hr, foldR_seg h0 h1 hz hb]
    simp only
    rw [if_pos hv]
theorem chk_seg (a : Nat) (d : List UInt8) : chk 0 (hexVal [(a, d)]) 0 = .ok 4 := by
  have e : pre 0 (hexVal [(a, d)]) = [(hexVal [(a, d)], 0), (segV (a, d), 1), (.mk 1 (a : Int) [] [] [], 2), (.mk 2 0 d [] [], 2)] := by
    rw [pre_eq]
    simp [pre_eq]
  have n1 : ∀ n : Int, nodeCode (.mk 1 n [] [] []) = 0 := fun n => by simp [nodeCode, formBad, Val.kind, Val.num, Val.bytes, Val.names, Val.parts]
  have n2 : nodeCode (.mk 2 0 d [] []) = 0 := by simp [nodeCode, formBad, Val.kind, Val.num, Val.bytes, Val.names, Val.parts]
  have n3 : nodeCode (segV (a, d)) = 0 := by
    unfold nodeCode
    rw [if_neg (by simp [Val.kind]), if_neg (by simp [formBad, Val.kind, Val.num, Val.bytes, Val.names, Val.parts]), if_neg (by simp [Val.parts]), if_neg (by
      show ¬ [sAt, sData].any (fun s => !nameOk s) = true
      decide), if_neg (by
      show ¬ ¬ [sAt, sData].Nodup
      decide)]
  have n4 : nodeCode (hexVal [(a, d)]) = 0 := by simp [nodeCode, formBad, Val.kind, Val.num, Val.bytes, Val.names, Val.parts]
  unfold chk
  rw [e]
  simp [scan, atCode, n1, n2, n3, n4]
theorem vfault_seg {a : Nat} {d : List UInt8} (ha : a ≤ 65536) (hl : d.length ≤ 200) : vfault (hexVal [(a, d)]) = (0, 0) := by
  have hs : enc (hexVal [(a, d)]) = putN 3 ++ (putN 1 ++ (putN 4 ++ (putN 2 ++ (putC sAt ++ (putN 1 ++ putN a) ++ (putC sData ++ (putN 2 ++ putC d)))))) := by
    rw [enc_eq]
    simp only [Val.kind, Val.parts, Val.names, List.map_cons, List.map_nil]
    rw [if_neg (by decide), if_neg (by decide)]
    congr 1
    congr 1
    show ([] ++ enc (segV (a, d))) ++ [] = _
    rw [List.nil_append, List.append_nil, enc_eq]
    simp only [Val.kind, Val.parts, Val.names]
    rw [if_neg (by decide), if_neg (by decide)]
    congr 1
    congr 1
    show (putC sAt ++ enc (.mk 1 (a : Int) [] [] [])) ++ ((putC sData ++ enc (.mk 2 0 d [] [])) ++ []) = _
    rw [enc_num, enc_byt, List.append_nil]
  have hl2 := congrArg List.length hs
  have a1 := putN_len (n := (a : Int)) (by omega) (by omega)
  have a3 := putC_len (b := d) (by omega)
  have a4 := putC_len (b := sAt) (by decide)
  have a5 := putC_len (b := sData) (by decide)
  have a7 := putN_len (n := 4) (by decide) (by decide)
  have a8 := putN_len (n := 3) (by decide) (by decide)
  have a9 := putN_len (n := 1) (by decide) (by decide)
  have a10 := putN_len (n := 2) (by decide) (by decide)
  simp only [List.length_append, List.length_cons, List.length_nil] at hl2 a4 a5
  unfold vfault
  rw [chk_seg]
  simp only
  rw [if_neg (by omega)]
theorem usual_two {a : Nat} {d : List UInt8} {cut : Nat} (h1 : 1 ≤ cut) (h2 : cut < d.length) : [cut, d.length - cut] = usual [(a, d)] ↔ cut = 16 ∧ d.length ≤ 32 := by
  have e : usual [(a, d)] = usualN d.length := by simp [usual]
  rw [e]
  by_cases h16 : d.length ≤ 16
  · rw [usualN_small (by omega) h16]
    constructor
    · intro h; simp at h
    · intro h; omega
  · rw [usualN_big (by omega)]
    by_cases h32 : d.length - 16 ≤ 16
    · rw [usualN_small (by omega) h32]
      constructor
      · intro h
        simp only [List.cons.injEq] at h
        omega
      · rintro ⟨rfl, _⟩
        rfl
    · rw [usualN_big (by omega)]
      have : usualN (d.length - 16 - 16) ≠ [] := by
        intro q
        have := (usualN_sum _ (d.length - 16 - 16) (Nat.le_refl _)).1
        rw [q] at this
        simp at this
        omega
      constructor
      · intro h
        simp only [List.cons.injEq] at h
        exact absurd h.2.2.symm this
      · intro h; omega
theorem usualN_len : ∀ (m n : Nat), n ≤ m → 16 * (usualN n).length ≤ n + 15
  | 0, n, h => by
    obtain rfl : n = 0 := by omega
    rw [usualN_zero]
    simp
  | m + 1, n, h => by
    by_cases h0 : n = 0
    · subst h0; rw [usualN_zero]; simp
    by_cases h16 : n ≤ 16
    · rw [usualN_small h0 h16]; simp only [List.length_singleton]; omega
    · rw [usualN_big (by omega)]
      have := usualN_len m (n - 16) (by omega)
      simp only [List.length_cons]
      omega
theorem hexRd_nil : hexRd [] = some (0, []) := by unfold hexRd; rw [if_pos rfl]
theorem hex_cut {a : Nat} {d : List UInt8} {cut : Nat} (hl : 2 ≤ d.length ∧ d.length ≤ 200) (ha : a + d.length ≤ 65536) (h1 : 1 ≤ cut) (h2 : cut < d.length) :
    (cut = 16 ∧ d.length ≤ 32 → hexMake (hexVal [(a, d)]) (resB 0 [cut, d.length - cut]) = none) ∧
    (¬ (cut = 16 ∧ d.length ≤ 32) → ∃ o, hexMake (hexVal [(a, d)]) (resB 0 [cut, d.length - cut]) = some o ∧ hexTo o = some (hexVal [(a, d)], resB 0 [cut, d.length - cut]) ∧ o.length ≤ 1000) ∧
    ∃ o, hexMake (hexVal [(a, d)]) [] = some o ∧ hexTo o = some (hexVal [(a, d)], []) ∧ o.length ≤ 1000 := by
  have h0 : d ≠ [] := by rintro rfl; simp at hl
  have hS : segOk [(a, d)] := fun s hs => by
    obtain rfl := List.mem_singleton.1 hs
    exact ⟨by dsimp only; omega, h0, by dsimp only; omega⟩
  have hv : (vfault (hexVal [(a, d)])).1 = 0 := by rw [vfault_seg (by omega) hl.2]
  have hz : ∀ n ∈ [cut, d.length - cut], 1 ≤ n ∧ n ≤ 255 := fun n hn => by
    simp only [List.mem_cons, List.not_mem_nil, or_false] at hn
    rcases hn with rfl | rfl <;> omega
  have hrd := hexRd_res (fl := 0) (Z := [cut, d.length - cut]) (by decide) (by simp) hz
  obtain ⟨o, o1, o2, o3⟩ := hex_seg (a := a) (Z := [cut, d.length - cut]) (Y := [cut, d.length - cut]) h0 hl.2 ha (by simp only [List.sum_cons, List.sum_nil]; omega) hz (by simp) hv (if_neg (by simp))
  have hmk1 := fun q => hexMake_yes (v := hexVal [(a, d)]) (hexShape_val hS) hrd o1 o2 q
  have hmk2 := fun q => hexMake_no (v := hexVal [(a, d)]) (hexShape_val hS) hrd o1 q
  have hu := usual_two (a := a) h1 h2
  refine ⟨fun hc => ?_, fun hc => ?_, ?_⟩
  · refine hmk2 fun _ q => ?_
    rw [o3] at q
    unfold szOf at q
    rw [if_pos (hu.2 hc)] at q
    injection q with q
    injection q with _ q
    have := resB_nil.1 q.symm
    simp at this
  · have e : szOf [(a, d)] [cut, d.length - cut] = [cut, d.length - cut] := by
      unfold szOf
      rw [if_neg fun q => hc (hu.1 q)]
    rw [e] at o3
    exact ⟨o, hmk1 o3, o3, o2⟩
  · obtain ⟨u1, u2⟩ := usualN_sum _ d.length (Nat.le_refl _)
    have e : usual [(a, d)] = usualN d.length := by simp [usual]
    obtain ⟨o', p1, p2, p3⟩ := hex_seg (a := a) (Z := usualN d.length) (Y := []) h0 hl.2 ha u1 (fun n hn => by have := u2 n hn; omega) (by have := usualN_len _ d.length (Nat.le_refl _); omega) hv (by rw [if_pos rfl, e])
    have e2 : szOf [(a, d)] (usualN d.length) = [] := by unfold szOf; rw [if_pos e.symm]
    rw [e2, resB_nil.2 ⟨rfl, rfl⟩] at p3
    exact ⟨o', hexMake_yes (hexShape_val hS) hexRd_nil p1 p2 p3, p3, p2⟩
end Go.Proofs.YtjfcpnlacodjjaaGreat
namespace Go.Proofs.YtjfcpnlacodjjaaGreat
open Go Go.RowKit

def preR (rs : List (List UInt8)) : Option (List (List UInt8)) → Option (List (List UInt8))
  | none => none
  | some qs => some (rs ++ qs)
theorem preR_nil (o : Option (List (List UInt8))) : preR [] o = o := by cases o <;> rfl
theorem preR_app (rs qs : List (List UInt8)) (o : Option (List (List UInt8))) : preR rs (preR qs o) = preR (rs ++ qs) o := by
  cases o with
  | none => rfl
  | some x => exact congrArg some (List.append_assoc ..).symm
theorem wrAll_done (a : Nat) (T : List Seg) (Z : List Nat) : wrAll ((a, []) :: T) Z = wrAll T Z := by
  rw [wrAll, cutSeg_nil]
  simp only
  cases wrAll T Z <;> rfl
theorem wrAll_stop {a : Nat} {d : List UInt8} (T : List Seg) (h : d ≠ []) : wrAll ((a, d) :: T) [] = none := by rw [wrAll, cutSeg_no h]
theorem wrAll_big {a n : Nat} {d : List UInt8} (T : List Seg) (Z : List Nat) (h : d ≠ []) (hn : d.length < n) : wrAll ((a, d) :: T) (n :: Z) = none := by rw [wrAll, cutSeg_cons h, if_neg (by omega)]
theorem wrAll_step {a n : Nat} {d : List UInt8} (T : List Seg) (Z : List Nat) (h : d ≠ []) (hn : n ≤ d.length) : wrAll ((a, d) :: T) (n :: Z) = preR [mkRec a 0 (d.take n)] (wrAll ((a + n, d.drop n) :: T) Z) := by
  rw [wrAll, wrAll, cutSeg_cons h, if_pos hn]
  cases cutSeg (a + n) (d.drop n) Z with
  | none => rfl
  | some p =>
    obtain ⟨q, Z'⟩ := p
    simp only
    cases wrAll T Z' <;> rfl
theorem wrAll_end (Z : List Nat) : wrAll [] Z = if Z = [] then some [] else none := by rw [wrAll]
theorem mkRec_len (a k : Nat) (c : List UInt8) : (mkRec a k c).length = c.length + 5 := by rw [mkRec_eq]; simp
theorem lines_le (fl : Nat) : ∀ {rs : List (List UInt8)}, (∀ r ∈ rs, r.length ≤ 260) → (rs.flatMap (lineB fl)).length ≤ rs.length * 530
  | [], _ => by simp
  | r :: rs, h => by
    have h1 := lines_le fl (rs := rs) fun x hx => h x (by simp [hx])
    have h2 := h r (by simp)
    have h3 := (lineB_len fl r).2
    rw [List.flatMap_cons, List.length_append, List.length_cons]
    omega
theorem hexOut_eq (fl : Nat) (S : List Seg) (Z : List Nat) : hexOut fl S Z = (wrAll S (if Z = [] then usual S else Z)).map fun rs => rs.flatMap (lineB fl) ++ lineB fl (mkRec 0 1 []) := by
  unfold hexOut
  cases wrAll S (if Z = [] then usual S else Z) with
  | none => rfl
  | some rs => simp
theorem hexB_snoc (lo : Bool) (l : List UInt8) (c : UInt8) : hexB lo (l ++ [c]) = hexB lo l ++ [hdC lo (c.toNat / 16), hdC lo (c.toNat % 16)] := by
  unfold hexB
  rw [List.flatMap_append]
  rfl
/-- a valid value's parts are as valid -/
theorem valid_part {v r : Val} (h : (vfault v).1 = 0) (hr : r ∈ v.parts) (h4 : r.kind = 4) : r.names.length = r.parts.length := by
  have := (valid_node h).2 r hr
  obtain ⟨_, hf, _⟩ := nodeCode_zero this
  unfold formBad at hf
  omega
theorem valid_count {v : Val} (h : (vfault v).1 = 0) : v.parts.length ≤ 600 := (nodeCode_zero (valid_node h).1).2.2.1
theorem segOf_no {r : Val} (h : ¬ (r.kind = 4 ∧ r.names = [sAt, sData])) : segOf r = none := by unfold segOf; rw [if_neg h]
theorem segOf_two {r a d : Val} (h : r.kind = 4 ∧ r.names = [sAt, sData]) (hp : r.parts = [a, d]) : segOf r = if a.kind = 1 ∧ d.kind = 2 ∧ 0 ≤ a.num ∧ a.num < 65536 ∧ d.bytes ≠ [] ∧ (d.bytes.length : Int) ≤ 65536 - a.num then some (a.num.toNat, d.bytes) else none := by
  unfold segOf
  rw [if_pos h, hp]
theorem segOf_ok {r : Val} {s : Seg} (h : segOf r = some s) : s.1 < 65536 ∧ s.2 ≠ [] ∧ s.2.length + s.1 ≤ 65536 := by
  unfold segOf at h
  split at h
  · split at h
    · rename_i a d _
      split at h
      · rename_i hc
        cases h
        obtain ⟨_, _, c1, c2, c3, c4⟩ := hc
        exact ⟨by dsimp only; omega, c3, by dsimp only; omega⟩
      · cases h
    · cases h
  · cases h
theorem hexShape_seg {v : Val} {S : List Seg} (h : hexShape v = some S) : segOk S ∧ S.length = v.parts.length := by
  unfold hexShape at h
  split at h
  · obtain ⟨h1, h2⟩ := allM_some h
    refine ⟨fun s hs => ?_, h1⟩
    obtain ⟨i, hi, rfl⟩ := List.getElem_of_mem hs
    exact segOf_ok (h2 i v.parts[i] S[i] (List.getElem?_eq_getElem (by omega)) (List.getElem?_eq_getElem hi))
  · cases h
theorem allM_step {α β : Type} {g : α → Option β} {l : List α} {k : Nat} {R : List β} {y : β} (hk : k < l.length) (h : allM g (l.take k) = some R) (hy : g l[k] = some y) : allM g (l.take (k + 1)) = some (R ++ [y]) := by
  rw [List.take_succ_eq_append_getElem hk]
  exact allM_snoc h hy
end Go.Proofs.YtjfcpnlacodjjaaGreat
