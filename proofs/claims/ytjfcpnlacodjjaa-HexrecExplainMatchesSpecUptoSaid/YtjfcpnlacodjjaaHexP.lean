/-
  Files of hexadecimal records, plain: digits, lines, records, segments.
-/
import Derived.Test.YtjfcpnlacodjjaaWirP
import Derived.Test.YtjfcpnlacodjjaaLibE
namespace Go.Proofs.Ytjfcpnlacodjjaa
open Go Go.RowKit

/-! ### digits -/
/-- the value of a hexadecimal digit -/
def hdg (lo : Bool) (c : UInt8) : Option Nat :=
  if 48 ≤ c.toNat ∧ c.toNat ≤ 57 then some (c.toNat - 48) else if lo = true ∧ 97 ≤ c.toNat ∧ c.toNat ≤ 102 then some (c.toNat - 87) else if lo = false ∧ 65 ≤ c.toNat ∧ c.toNat ≤ 70 then some (c.toNat - 55) else none
def hdN (lo : Bool) (n : Nat) : Nat := if n < 10 then 48 + n else if lo = true then 87 + n else 55 + n
def hdC (lo : Bool) (n : Nat) : UInt8 := UInt8.ofNat (hdN lo n)
theorem hdN_lt {lo : Bool} {n : Nat} (h : n < 16) : hdN lo n < 256 ∧ 48 ≤ hdN lo n := by unfold hdN; by_cases h10 : n < 10 <;> by_cases hl : lo = true <;> simp only [h10, hl, if_true, if_false, Bool.false_eq_true] <;> omega
theorem hdC_nat {lo : Bool} {n : Nat} (h : n < 16) : (hdC lo n).toNat = hdN lo n := toNat_ofNat_lt (hdN_lt h).1
theorem hdg_C {lo : Bool} {n : Nat} (h : n < 16) : hdg lo (hdC lo n) = some n := by
  unfold hdg
  rw [hdC_nat h]
  unfold hdN
  cases lo <;> simp only [Bool.false_eq_true, if_false, if_true, false_and, true_and, reduceCtorEq] <;> by_cases h10 : n < 10
  all_goals simp only [h10, if_true, if_false]
  · rw [if_pos (by omega)]; congr 1; omega
  · rw [if_neg (by omega), if_pos (by omega)]; congr 1; omega
  · rw [if_pos (by omega)]; congr 1; omega
  · rw [if_neg (by omega), if_pos (by omega)]; congr 1; omega
theorem hdg_some {lo : Bool} {c : UInt8} {n : Nat} (h : hdg lo c = some n) : n < 16 ∧ c = hdC lo n := by
  have e : n < 16 ∧ c.toNat = hdN lo n := by
    unfold hdg at h
    unfold hdN
    split at h
    · cases h; rw [if_pos (by omega)]; omega
    split at h
    · rename_i h2; cases h; rw [if_neg (by omega), if_pos h2.1]; omega
    split at h
    · rename_i h2; cases h; rw [if_neg (by omega), if_neg (by rw [h2.1]; decide)]; omega
    · cases h
  refine ⟨e.1, UInt8.toNat_inj.1 ?_⟩
  rw [hdC_nat e.1, e.2]
theorem hdN_inj {lo lo' : Bool} {m n : Nat} (hm : m < 16) (hn : n < 16) (h : hdC lo m = hdC lo' n) : m = n := by
  have h := congrArg UInt8.toNat h
  rw [hdC_nat hm, hdC_nat hn] at h
  unfold hdN at h
  cases lo <;> cases lo' <;> simp only [Bool.false_eq_true, if_false, if_true] at h <;> split at h <;> split at h <;> omega
/-! ### lines -/
abbrev lowF (fl : Nat) : Bool := decide (fl % 2 = 1)
def endB (fl : Nat) : List UInt8 := if 2 ≤ fl then [13, 10] else [10]
def hexB (lo : Bool) (raw : List UInt8) : List UInt8 := raw.flatMap fun c => [hdC lo (c.toNat / 16), hdC lo (c.toNat % 16)]
def lineB (fl : Nat) (raw : List UInt8) : List UInt8 := 58 :: (hexB (lowF fl) raw ++ endB fl)
theorem hexB_len (lo : Bool) (raw : List UInt8) : (hexB lo raw).length = 2 * raw.length := by
  induction raw with
  | nil => rfl
  | cons c r ih => show (_ :: _ :: hexB lo r).length = _; simp only [List.length_cons]; omega
theorem lineB_len (fl : Nat) (raw : List UInt8) : 2 * raw.length + 2 ≤ (lineB fl raw).length ∧ (lineB fl raw).length ≤ 2 * raw.length + 3 := by
  unfold lineB endB
  rw [List.length_cons, List.length_append, hexB_len]
  split <;> simp only [List.length_cons, List.length_nil] <;> omega
theorem byte_hl (c : UInt8) : c.toNat / 16 < 16 ∧ c.toNat % 16 < 16 ∧ UInt8.ofNat (16 * (c.toNat / 16) + c.toNat % 16) = c := by
  have := c.toNat_lt
  refine ⟨by omega, by omega, ?_⟩
  rw [show 16 * (c.toNat / 16) + c.toNat % 16 = c.toNat by omega]
  exact UInt8.ofNat_toNat
theorem hexB_inj {fl fl' : Nat} {x y : List UInt8} : ∀ {raw raw' : List UInt8}, hexB (lowF fl) raw ++ (endB fl ++ x) = hexB (lowF fl') raw' ++ (endB fl' ++ y) → raw = raw' ∧ x = y
  | [], [], h => by
    refine ⟨rfl, ?_⟩
    have h : endB fl ++ x = endB fl' ++ y := h
    unfold endB at h
    split at h <;> split at h <;> simp_all
  | [], c :: r, h => by
    exfalso
    obtain ⟨X, h⟩ : ∃ X, endB fl ++ x = hdC (lowF fl') (c.toNat / 16) :: X := ⟨_, h⟩
    have := (byte_hl c).1
    have e := hdC_nat (lo := lowF fl') this
    have l := (hdN_lt (lo := lowF fl') this).2
    unfold endB at h
    split at h
    · simp only [List.cons_append, List.cons.injEq] at h
      rw [← h.1] at e
      have : (13 : UInt8).toNat = 13 := rfl
      omega
    · simp only [List.cons_append, List.cons.injEq] at h
      rw [← h.1] at e
      have : (10 : UInt8).toNat = 10 := rfl
      omega
  | c :: r, [], h => by
    exfalso
    obtain ⟨X, h⟩ : ∃ X, hdC (lowF fl) (c.toNat / 16) :: X = endB fl' ++ y := ⟨_, h⟩
    have := (byte_hl c).1
    have e := hdC_nat (lo := lowF fl) this
    have l := (hdN_lt (lo := lowF fl) this).2
    unfold endB at h
    split at h
    · simp only [List.cons_append, List.cons.injEq] at h
      rw [h.1] at e
      have : (13 : UInt8).toNat = 13 := rfl
      omega
    · simp only [List.cons_append, List.cons.injEq] at h
      rw [h.1] at e
      have : (10 : UInt8).toNat = 10 := rfl
      omega
  | c :: r, d :: s, h => by
    have h : hdC (lowF fl) (c.toNat / 16) :: hdC (lowF fl) (c.toNat % 16) :: (hexB (lowF fl) r ++ (endB fl ++ x)) = hdC (lowF fl') (d.toNat / 16) :: hdC (lowF fl') (d.toNat % 16) :: (hexB (lowF fl') s ++ (endB fl' ++ y)) := h
    rw [List.cons.injEq, List.cons.injEq] at h
    obtain ⟨h1, h2, h3⟩ := h
    obtain ⟨rfl, e2⟩ := hexB_inj h3
    obtain ⟨c1, c2, c3⟩ := byte_hl c
    obtain ⟨d1, d2, d3⟩ := byte_hl d
    have k1 := hdN_inj c1 d1 h1
    have k2 := hdN_inj c2 d2 h2
    refine ⟨?_, e2⟩
    rw [← c3, ← d3, k1, k2]
theorem lineB_inj {fl fl' : Nat} {raw raw' x y : List UInt8} (h : lineB fl raw ++ x = lineB fl' raw' ++ y) : raw = raw' ∧ x = y := by
  unfold lineB at h
  rw [List.cons_append, List.cons_append, List.cons.injEq, List.append_assoc, List.append_assoc] at h
  exact hexB_inj h.2
/-! ### records -/
def sumB (l : List UInt8) : Nat := (l.map UInt8.toNat).sum
theorem sumB_append (a b : List UInt8) : sumB (a ++ b) = sumB a + sumB b := by simp [sumB]
abbrev b8 (l : List UInt8) (i : Nat) : Nat := (l[i]?.getD 0).toNat
/-- a record has the required form -/
def recOk (raw : List UInt8) : Prop := 5 ≤ raw.length ∧ raw.length = 5 + b8 raw 0 ∧ sumB raw % 256 = 0
instance (raw : List UInt8) : Decidable (recOk raw) := by unfold recOk; infer_instance
/-- the pairs of digits at the beginning, and what follows -/
def pairs (lo : Bool) : List UInt8 → List UInt8 × List UInt8
  | a :: b :: t => match hdg lo a, hdg lo b with
    | some x, some y => (UInt8.ofNat (16 * x + y) :: (pairs lo t).1, (pairs lo t).2)
    | _, _ => ([], a :: b :: t)
  | l => ([], l)
theorem pairs_eq (lo : Bool) : ∀ (l : List UInt8), hexB lo (pairs lo l).1 ++ (pairs lo l).2 = l
  | [] => rfl
  | [a] => rfl
  | a :: b :: t => by
    unfold pairs
    cases h1 : hdg lo a with
    | none => rfl
    | some x =>
      cases h2 : hdg lo b with
      | none => rfl
      | some y =>
        obtain ⟨x1, rfl⟩ := hdg_some h1
        obtain ⟨y1, rfl⟩ := hdg_some h2
        simp only
        have e : (UInt8.ofNat (16 * x + y)).toNat = 16 * x + y := toNat_ofNat_lt (by omega)
        show hdC lo ((UInt8.ofNat (16 * x + y)).toNat / 16) :: hdC lo ((UInt8.ofNat (16 * x + y)).toNat % 16) :: (hexB lo (pairs lo t).1 ++ (pairs lo t).2) = _
        rw [e, pairs_eq lo t, show (16 * x + y) / 16 = x by omega, show (16 * x + y) % 16 = y by omega]
theorem pairs_of (lo : Bool) {e : UInt8} (he : e.toNat < 48) (r : List UInt8) : ∀ (raw : List UInt8), pairs lo (hexB lo raw ++ e :: r) = (raw, e :: r)
  | [] => by
    have h : hdg lo e = none := by unfold hdg; rw [if_neg (by omega), if_neg (by omega), if_neg (by omega)]
    cases r with
    | nil => rfl
    | cons b t =>
      show pairs lo (e :: b :: t) = _
      unfold pairs
      rw [h]
  | c :: raw => by
    obtain ⟨c1, c2, c3⟩ := byte_hl c
    show pairs lo (hdC lo (c.toNat / 16) :: hdC lo (c.toNat % 16) :: (hexB lo raw ++ e :: r)) = _
    unfold pairs
    rw [hdg_C c1, hdg_C c2]
    simp only
    rw [pairs_of lo he r raw, c3]
/-- the record at the beginning, and what follows its line -/
def rdLine (fl : Nat) : List UInt8 → Option (List UInt8 × List UInt8)
  | [] => none
  | c :: t => if c = 58 ∧ (pairs (lowF fl) t).2.take (endB fl).length = endB fl ∧ recOk (pairs (lowF fl) t).1 then some ((pairs (lowF fl) t).1, (pairs (lowF fl) t).2.drop (endB fl).length) else none
theorem rdLine_cons (fl : Nat) (c : UInt8) (t : List UInt8) : rdLine fl (c :: t) = if c = 58 ∧ (pairs (lowF fl) t).2.take (endB fl).length = endB fl ∧ recOk (pairs (lowF fl) t).1 then some ((pairs (lowF fl) t).1, (pairs (lowF fl) t).2.drop (endB fl).length) else none := rfl
theorem rdLine_iff {fl : Nat} {l raw r : List UInt8} : rdLine fl l = some (raw, r) ↔ l = lineB fl raw ++ r ∧ recOk raw := by
  constructor
  · intro h
    cases l with
    | nil => cases h
    | cons c t =>
      rw [rdLine_cons] at h
      by_cases hc : c = 58 ∧ (pairs (lowF fl) t).2.take (endB fl).length = endB fl ∧ recOk (pairs (lowF fl) t).1
      · rw [if_pos hc] at h
        cases h
        obtain ⟨rfl, h2, h3⟩ := hc
        refine ⟨?_, h3⟩
        unfold lineB
        rw [List.cons_append, List.append_assoc]
        conv => lhs; rw [← pairs_eq (lowF fl) t, ← List.take_append_drop (endB fl).length (pairs (lowF fl) t).2, h2]
      · rw [if_neg hc] at h
        cases h
  · rintro ⟨rfl, h2⟩
    unfold lineB
    rw [List.cons_append, List.append_assoc]
    have e : pairs (lowF fl) (hexB (lowF fl) raw ++ (endB fl ++ r)) = (raw, endB fl ++ r) := by
      unfold endB
      split
      · exact pairs_of _ (by decide) _ raw
      · exact pairs_of _ (by decide) _ raw
    rw [rdLine_cons, e]
    simp only
    rw [if_pos ⟨by trivial, by rw [List.take_left], h2⟩, List.drop_left]
/-- all records of a file -/
def recsF (fl : Nat) : Nat → List UInt8 → Option (List (List UInt8))
  | _, [] => some []
  | 0, _ => none
  | n + 1, l => match rdLine fl l with
    | none => none
    | some (raw, r) => match recsF fl n r with
      | none => none
      | some rs => some (raw :: rs)
def recs (fl : Nat) (l : List UInt8) : Option (List (List UInt8)) := recsF fl l.length l
theorem recsF_iff {fl : Nat} : ∀ {n : Nat} {l : List UInt8} {rs : List (List UInt8)}, l.length ≤ n → (recsF fl n l = some rs ↔ l = rs.flatMap (lineB fl) ∧ ∀ r ∈ rs, recOk r) := by
  intro n
  induction n with
  | zero =>
    intro l rs hl
    obtain rfl := List.eq_nil_of_length_eq_zero (by omega : l.length = 0)
    unfold recsF
    constructor
    · intro h; cases h; exact ⟨rfl, by simp⟩
    · rintro ⟨h1, _⟩
      cases rs with
      | nil => rfl
      | cons a rs =>
        have := congrArg List.length h1
        rw [List.flatMap_cons, List.length_append] at this
        have := (lineB_len fl a).1
        simp only [List.length_nil] at *
        omega
  | succ n ih =>
    intro l rs hl
    cases l with
    | nil =>
      unfold recsF
      constructor
      · intro h; cases h; exact ⟨rfl, by simp⟩
      · rintro ⟨h1, _⟩
        cases rs with
        | nil => rfl
        | cons a rs =>
          have := congrArg List.length h1
          rw [List.flatMap_cons, List.length_append] at this
          have := (lineB_len fl a).1
          simp only [List.length_nil] at *
          omega
    | cons c t =>
      show (match rdLine fl (c :: t) with
        | none => none
        | some (raw, r) => match recsF fl n r with
          | none => none
          | some rs => some (raw :: rs)) = some rs ↔ _
      cases hr : rdLine fl (c :: t) with
      | none =>
        simp only
        constructor
        · intro h; cases h
        · rintro ⟨h1, h2⟩
          cases rs with
          | nil => cases h1
          | cons a rs =>
            rw [List.flatMap_cons] at h1
            rw [rdLine_iff.2 ⟨h1, h2 a (by simp)⟩] at hr
            cases hr
      | some p =>
        obtain ⟨raw, r⟩ := p
        obtain ⟨e1, e2⟩ := rdLine_iff.1 hr
        have hlen : r.length ≤ n := by
          have := congrArg List.length e1
          rw [List.length_append] at this
          have := (lineB_len fl raw).1
          simp only [List.length_cons] at *
          omega
        simp only
        constructor
        · intro h
          cases hq : recsF fl n r with
          | none => rw [hq] at h; cases h
          | some qs =>
            rw [hq] at h
            cases h
            obtain ⟨f1, f2⟩ := (ih hlen).1 hq
            refine ⟨by rw [List.flatMap_cons, ← f1]; exact e1, fun x hx => ?_⟩
            rcases List.mem_cons.1 hx with rfl | hx
            · exact e2
            · exact f2 x hx
        · rintro ⟨h1, h2⟩
          cases rs with
          | nil => cases h1
          | cons a rs =>
            rw [List.flatMap_cons, e1] at h1
            obtain ⟨rfl, rfl⟩ := lineB_inj h1
            rw [(ih hlen).2 ⟨rfl, fun x hx => h2 x (by simp [hx])⟩]
theorem recs_iff {fl : Nat} {l : List UInt8} {rs : List (List UInt8)} : recs fl l = some rs ↔ l = rs.flatMap (lineB fl) ∧ ∀ r ∈ rs, recOk r := recsF_iff (Nat.le_refl _)
theorem recs_nil (fl : Nat) : recs fl [] = some [] := rfl
theorem recs_none {fl : Nat} {l : List UInt8} (hl : l ≠ []) (h : rdLine fl l = none) : recs fl l = none := by
  cases hr : recs fl l with
  | none => rfl
  | some rs =>
    obtain ⟨h1, h2⟩ := recs_iff.1 hr
    cases rs with
    | nil => exact absurd h1 hl
    | cons a rs =>
      rw [List.flatMap_cons] at h1
      rw [rdLine_iff.2 ⟨h1, h2 a (by simp)⟩] at h
      cases h
theorem recs_step {fl : Nat} {l raw r : List UInt8} (h : rdLine fl l = some (raw, r)) : recs fl l = match recs fl r with
    | none => none
    | some rs => some (raw :: rs) := by
  obtain ⟨e1, e2⟩ := rdLine_iff.1 h
  cases hr : recs fl r with
  | some rs =>
    obtain ⟨f1, f2⟩ := recs_iff.1 hr
    refine recs_iff.2 ⟨by rw [List.flatMap_cons, ← f1]; exact e1, fun x hx => ?_⟩
    rcases List.mem_cons.1 hx with rfl | hx
    · exact e2
    · exact f2 x hx
  | none =>
    cases hl : recs fl l with
    | none => rfl
    | some qs =>
      obtain ⟨f1, f2⟩ := recs_iff.1 hl
      cases qs with
      | nil => rw [f1] at h; cases h
      | cons a qs =>
        rw [List.flatMap_cons, e1] at f1
        obtain ⟨rfl, rfl⟩ := lineB_inj f1
        rw [recs_iff.2 ⟨rfl, fun x hx => f2 x (by simp [hx])⟩] at hr
        cases hr
theorem flat_lines_inj {fl fl' : Nat} : ∀ {rs rs' : List (List UInt8)}, rs.flatMap (lineB fl) = rs'.flatMap (lineB fl') → rs = rs'
  | [], [], _ => rfl
  | [], a :: r, h => by rw [List.flatMap_cons] at h; cases h
  | a :: r, [], h => by rw [List.flatMap_cons] at h; cases h
  | a :: r, b :: s, h => by
    rw [List.flatMap_cons, List.flatMap_cons] at h
    obtain ⟨rfl, h2⟩ := lineB_inj h
    rw [flat_lines_inj h2]
/-- the records do not depend on the flags -/
theorem recs_same {fl fl' : Nat} {l : List UInt8} {rs rs' : List (List UInt8)} (h : recs fl l = some rs) (h' : recs fl' l = some rs') : rs = rs' := by
  have e := (recs_iff.1 h).1
  rw [(recs_iff.1 h').1] at e
  exact (flat_lines_inj e).symm
/-! ### segments -/
abbrev Seg := Nat × List UInt8
def rAt (raw : List UInt8) : Nat := 256 * b8 raw 1 + b8 raw 2
def rCont (raw : List UInt8) : List UInt8 := (raw.drop 4).take (b8 raw 0)
theorem rCont_len {raw : List UInt8} (h : recOk raw) : (rCont raw).length = b8 raw 0 := by
  have := h.2.1
  simp [rCont]
  omega
def addSeg (at_ : Nat) (c : List UInt8) (S : List Seg) : List Seg := match S.getLast? with
  | none => [(at_, c)]
  | some x => if x.1 + x.2.length = at_ then S.dropLast ++ [(x.1, x.2 ++ c)] else S ++ [(at_, c)]
theorem addSeg_nil (a : Nat) (c : List UInt8) : addSeg a c [] = [(a, c)] := rfl
theorem addSeg_snoc (a : Nat) (c : List UInt8) (S : List Seg) (x : Seg) : addSeg a c (S ++ [x]) = if x.1 + x.2.length = a then S ++ [(x.1, x.2 ++ c)] else S ++ [x] ++ [(a, c)] := by
  unfold addSeg
  rw [List.getLast?_concat, List.dropLast_concat]
/-- a record with data -/
def dataOk (raw : List UInt8) : Prop := b8 raw 3 = 0 ∧ b8 raw 0 ≠ 0 ∧ rAt raw + b8 raw 0 ≤ 65536
instance (raw : List UInt8) : Decidable (dataOk raw) := by unfold dataOk; infer_instance
/-- the last record -/
def endOk (raw : List UInt8) : Prop := b8 raw 0 = 0 ∧ rAt raw = 0 ∧ b8 raw 3 = 1
instance (raw : List UInt8) : Decidable (endOk raw) := by unfold endOk; infer_instance
def foldR (S : List Seg) (Z : List Nat) : List (List UInt8) → Option (List Seg × List Nat)
  | [] => none
  | [raw] => if endOk raw then some (S, Z) else none
  | raw :: rs => if dataOk raw then foldR (addSeg (rAt raw) (rCont raw) S) (Z ++ [b8 raw 0]) rs else none
theorem foldR_one (S : List Seg) (Z : List Nat) (raw : List UInt8) : foldR S Z [raw] = if endOk raw then some (S, Z) else none := by rw [foldR]
theorem foldR_cons (S : List Seg) (Z : List Nat) (raw : List UInt8) {rs : List (List UInt8)} (h : rs ≠ []) : foldR S Z (raw :: rs) = if dataOk raw then foldR (addSeg (rAt raw) (rCont raw) S) (Z ++ [b8 raw 0]) rs else none := by
  cases rs with
  | nil => exact absurd rfl h
  | cons a rs => rw [foldR]; simp
/-- what a file with flags contains -/
def hexRead (fl : Nat) (l : List UInt8) : Option (List Seg × List Nat) := match recs fl l with
  | none => none
  | some rs => foldR [] [] rs
/-- the same from a place on -/
def readFrom (fl : Nat) (S : List Seg) (Z : List Nat) (l : List UInt8) : Option (List Seg × List Nat) := match recs fl l with
  | none => none
  | some rs => foldR S Z rs
theorem readFrom_nil (fl : Nat) (S : List Seg) (Z : List Nat) : readFrom fl S Z [] = none := rfl
theorem readFrom_bad {fl : Nat} {S : List Seg} {Z : List Nat} {l : List UInt8} (h : rdLine fl l = none) : readFrom fl S Z l = none := by
  cases l with
  | nil => rfl
  | cons c t => unfold readFrom; rw [recs_none (by simp) h]
theorem readFrom_end {fl : Nat} {S : List Seg} {Z : List Nat} {l raw r : List UInt8} (h : rdLine fl l = some (raw, r)) (hk : b8 raw 3 = 1) : readFrom fl S Z l = if b8 raw 0 = 0 ∧ rAt raw = 0 ∧ r = [] then some (S, Z) else none := by
  unfold readFrom
  rw [recs_step h]
  by_cases hr : r = []
  · subst hr
    rw [recs_nil]
    simp only
    rw [foldR_one]
    by_cases h2 : b8 raw 0 = 0 ∧ rAt raw = 0
    · rw [if_pos ⟨h2.1, h2.2, hk⟩, if_pos ⟨h2.1, h2.2, by trivial⟩]
    · rw [if_neg fun q => h2 ⟨q.1, q.2.1⟩, if_neg fun q => h2 ⟨q.1, q.2.1⟩]
  · rw [if_neg fun q => hr q.2.2]
    cases hq : recs fl r with
    | none => rfl
    | some rs =>
      simp only
      have hrs : rs ≠ [] := by
        rintro rfl
        exact hr (recs_iff.1 hq).1
      rw [foldR_cons _ _ _ hrs, if_neg fun q => by have := q.1; omega]
theorem readFrom_data {fl : Nat} {S : List Seg} {Z : List Nat} {l raw r : List UInt8} (h : rdLine fl l = some (raw, r)) (hk : b8 raw 3 ≠ 1) : readFrom fl S Z l = if dataOk raw then readFrom fl (addSeg (rAt raw) (rCont raw) S) (Z ++ [b8 raw 0]) r else none := by
  unfold readFrom
  rw [recs_step h]
  by_cases hr : r = []
  · subst hr
    rw [recs_nil]
    simp only
    rw [foldR_one, if_neg fun q => hk q.2.2]
    split <;> rfl
  · cases hq : recs fl r with
    | none => simp only; split <;> rfl
    | some rs =>
      simp only
      have hrs : rs ≠ [] := by
        rintro rfl
        exact hr (recs_iff.1 hq).1
      rw [foldR_cons _ _ _ hrs]
/-! ### the plain way -/
def usualN (n : Nat) : List Nat := if n = 0 then [] else if n ≤ 16 then [n] else 16 :: usualN (n - 16)
def usual (S : List Seg) : List Nat := S.flatMap fun s => usualN s.2.length
theorem usualN_zero : usualN 0 = [] := by rw [usualN, if_pos rfl]
theorem usualN_small {n : Nat} (h0 : n ≠ 0) (h : n ≤ 16) : usualN n = [n] := by rw [usualN, if_neg h0, if_pos h]
theorem usualN_big {n : Nat} (h : 16 < n) : usualN n = 16 :: usualN (n - 16) := by rw [usualN, if_neg (by omega), if_neg (by omega)]
/-! ### writing -/
def sumC (b : List UInt8) : UInt8 := UInt8.ofNat (256 - sumB b % 256)
def recHd (a kind : Nat) (c : List UInt8) : List UInt8 := [UInt8.ofNat c.length, UInt8.ofNat (a / 256), UInt8.ofNat a, UInt8.ofNat kind] ++ c
def mkRec (a kind : Nat) (c : List UInt8) : List UInt8 := recHd a kind c ++ [sumC (recHd a kind c)]
def cutSeg (a : Nat) : List UInt8 → List Nat → Option (List (List UInt8) × List Nat)
  | [], Z => some ([], Z)
  | _ :: _, [] => none
  | c :: d, n :: Z => if n ≤ (c :: d).length then (match cutSeg (a + n) ((c :: d).drop n) Z with
      | none => none
      | some (rs, Z') => some (mkRec a 0 ((c :: d).take n) :: rs, Z')) else none
def wrAll : List Seg → List Nat → Option (List (List UInt8))
  | [], Z => if Z = [] then some [] else none
  | (a, d) :: S, Z => match cutSeg a d Z with
    | none => none
    | some (rs, Z') => match wrAll S Z' with
      | none => none
      | some qs => some (rs ++ qs)
def hexOut (fl : Nat) (S : List Seg) (Z : List Nat) : Option (List UInt8) := match wrAll S (if Z = [] then usual S else Z) with
  | none => none
  | some rs => some ((rs ++ [mkRec 0 1 []]).flatMap (lineB fl))
end Go.Proofs.Ytjfcpnlacodjjaa
