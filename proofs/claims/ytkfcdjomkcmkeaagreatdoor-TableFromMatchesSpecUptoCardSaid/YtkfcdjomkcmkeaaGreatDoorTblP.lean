/-
  Files of tables, plain: cells, rows, files, what quotation marks are needed.
-/
import Derived.Test.YtkfcdjomkcmkeaaGreatDoorWirP
import Derived.Test.YtkfcdjomkcmkeaaGreatDoorLibE
import Derived.Test.YtkfcdjomkcmkeaaGreatDoorCnvL
import Derived.Test.YtkfcdjomkcmkeaaGreatDoorWirF
namespace Go.Proofs.YtkfcdjomkcmkeaaGreatDoor
open Go Go.RowKit

/-- a cell: its bytes, and whether it is quoted -/
abbrev Cel := List UInt8 × Bool
def sepB (n : Nat) : UInt8 := if n = 0 then 44 else if n = 1 then 59 else 9
def tEnd (k : Bool) : List UInt8 := if k = true then [13, 10] else [10]
def tsp (s c : UInt8) : Bool := decide (c = s) || decide (c = 34) || decide (c = 13) || decide (c = 10)
def tNeeds (s : UInt8) (x : List UInt8) : Bool := x.any (tsp s)
def esc : List UInt8 → List UInt8
  | [] => []
  | c :: t => if c = 34 then 34 :: 34 :: esc t else c :: esc t
def outC (c : Cel) : List UInt8 := if c.2 = true then 34 :: (esc c.1 ++ [34]) else c.1
def okC (s : UInt8) (c : Cel) : Prop := c.2 = true ∨ tNeeds s c.1 = false
def outR (s : UInt8) : List Cel → List UInt8
  | [] => []
  | [c] => outC c
  | c :: d :: r => outC c ++ s :: outR s (d :: r)
def fileB (s : UInt8) (e : List UInt8) (o : Bool) : List (List Cel) → List UInt8
  | [] => []
  | [r] => outR s r ++ (if o = true then [] else e)
  | r :: q :: R => outR s r ++ (e ++ fileB s e o (q :: R))
/-- behind a quotation mark: the bytes of the cell, and what follows -/
def rdQ : List UInt8 → Option (List UInt8 × List UInt8)
  | [] => none
  | [c] => if c = 34 then some ([], []) else none
  | c :: d :: t => if c = 34 then (if d = 34 then (match rdQ t with
      | none => none
      | some p => some (34 :: p.1, p.2)) else some ([], d :: t)) else (match rdQ (d :: t) with
      | none => none
      | some p => some (c :: p.1, p.2))
def tkU (s : UInt8) : List UInt8 → List UInt8 × List UInt8
  | [] => ([], [])
  | c :: t => if tsp s c = true then ([], c :: t) else (c :: (tkU s t).1, (tkU s t).2)
def rdCell (s : UInt8) (l : List UInt8) : Option (Cel × List UInt8) :=
  if l.head? = some 34 then (match rdQ l.tail with
    | none => none
    | some p => some ((p.1, true), p.2))
  else if (tkU s l).2.head? = some 34 then none else some (((tkU s l).1, false), (tkU s l).2)
theorem rdQ_some : ∀ {l x t : List UInt8}, rdQ l = some (x, t) → l = esc x ++ 34 :: t ∧ t.head? ≠ some 34
  | [], x, t, h => by cases h
  | [c], x, t, h => by
    unfold rdQ at h
    split at h
    · rename_i hc
      cases h
      rw [hc]
      exact ⟨rfl, by simp⟩
    · cases h
  | c :: d :: r, x, t, h => by
    unfold rdQ at h
    split at h
    · rename_i hc
      split at h
      · rename_i hd
        split at h
        · cases h
        · rename_i p hp
          cases h
          obtain ⟨h1, h2⟩ := rdQ_some (x := p.1) (t := p.2) hp
          refine ⟨?_, h2⟩
          rw [hc, hd, esc, if_pos rfl, h1]
          rfl
      · rename_i hd
        cases h
        rw [hc]
        exact ⟨rfl, by simpa using hd⟩
    · rename_i hc
      split at h
      · cases h
      · rename_i p hp
        cases h
        obtain ⟨h1, h2⟩ := rdQ_some (x := p.1) (t := p.2) hp
        refine ⟨?_, h2⟩
        rw [esc, if_neg hc, h1]
        rfl
theorem rdQ_out : ∀ (x : List UInt8) {t : List UInt8}, t.head? ≠ some 34 → rdQ (esc x ++ 34 :: t) = some (x, t)
  | [], [], _ => rfl
  | [], d :: t, h => by
    show rdQ (34 :: d :: t) = _
    unfold rdQ
    rw [if_pos rfl, if_neg (by simpa using h)]
  | c :: x, t, h => by
    have ih := rdQ_out x h
    unfold esc
    split
    · rename_i hc
      show rdQ (34 :: 34 :: (esc x ++ 34 :: t)) = _
      unfold rdQ
      rw [if_pos rfl, if_pos rfl, ih, hc]
    · rename_i hc
      show rdQ (c :: (esc x ++ 34 :: t)) = _
      obtain ⟨d, r, hd⟩ : ∃ d r, esc x ++ 34 :: t = d :: r := by
        cases he : esc x ++ 34 :: t with
        | nil => simp at he
        | cons d r => exact ⟨d, r, rfl⟩
      rw [hd] at ih ⊢
      unfold rdQ
      rw [if_neg hc, ih]
theorem tkU_eq (s : UInt8) : ∀ (l : List UInt8), l = (tkU s l).1 ++ (tkU s l).2 ∧ tNeeds s (tkU s l).1 = false
  | [] => ⟨rfl, rfl⟩
  | c :: t => by
    unfold tkU
    obtain ⟨h1, h2⟩ := tkU_eq s t
    split
    · exact ⟨rfl, rfl⟩
    · rename_i hc
      refine ⟨by conv => lhs; rw [h1]
                 rfl, ?_⟩
      unfold tNeeds at h2 ⊢
      rw [List.any_cons, h2]
      simpa using hc
theorem tkU_out {s : UInt8} : ∀ {x t : List UInt8}, tNeeds s x = false → (t = [] ∨ ∃ h r, t = h :: r ∧ tsp s h = true) → tkU s (x ++ t) = (x, t)
  | [], t, _, h => by
    rcases h with rfl | ⟨c, r, rfl, hc⟩
    · rfl
    · show tkU s (c :: r) = _
      unfold tkU
      rw [if_pos hc]
  | c :: x, t, hn, h => by
    unfold tNeeds at hn
    rw [List.any_cons, Bool.or_eq_false_iff] at hn
    have ih := tkU_out (x := x) hn.2 h
    show tkU s (c :: (x ++ t)) = _
    unfold tkU
    rw [if_neg (by rw [hn.1]; decide), ih]
theorem rdCell_some {s : UInt8} {l : List UInt8} {c : Cel} {t : List UInt8} (h : rdCell s l = some (c, t)) : l = outC c ++ t ∧ okC s c ∧ t.head? ≠ some 34 := by
  unfold rdCell at h
  split at h
  · rename_i hh
    split at h
    · cases h
    · rename_i p hp
      cases h
      obtain ⟨h1, h2⟩ := rdQ_some (x := p.1) (t := p.2) hp
      refine ⟨?_, .inl rfl, h2⟩
      cases l with
      | nil => cases hh
      | cons d l =>
        cases hh
        rw [List.tail_cons] at h1
        rw [h1]
        simp [outC]
  · split at h
    · cases h
    · rename_i h2
      cases h
      obtain ⟨h3, h4⟩ := tkU_eq s l
      exact ⟨h3, .inr h4, h2⟩
/-- what may stand behind a cell -/
def behind (s : UInt8) (t : List UInt8) : Prop := t = [] ∨ ∃ h r, t = h :: r ∧ tsp s h = true ∧ h ≠ 34
theorem rdCell_out {s : UInt8} {c : Cel} {t : List UInt8} (hc : okC s c) (ht : behind s t) : rdCell s (outC c ++ t) = some (c, t) := by
  obtain ⟨x, q⟩ := c
  have h34 : t.head? ≠ some 34 := by
    rcases ht with rfl | ⟨h, r, rfl, _, h2⟩
    · simp
    · simpa using h2
  cases q with
  | true =>
    have e : outC (x, true) ++ t = 34 :: (esc x ++ 34 :: t) := by simp [outC]
    rw [e]
    unfold rdCell
    rw [if_pos List.head?_cons, List.tail_cons, rdQ_out x h34]
  | false =>
    have hn : tNeeds s x = false := by
      rcases hc with h | h
      · cases h
      · exact h
    have e : outC (x, false) ++ t = x ++ t := rfl
    have htk := tkU_out hn (ht.imp id fun ⟨h, r, h1, h2, _⟩ => ⟨h, r, h1, h2⟩)
    rw [e]
    unfold rdCell
    rw [htk, if_neg, if_neg h34]
    cases x with
    | nil => exact h34
    | cons d x =>
      unfold tNeeds tsp at hn
      rw [List.any_cons] at hn
      simp at hn
      simp
      exact hn.1.1.1.2
theorem rdCell_len {s : UInt8} {l : List UInt8} {c : Cel} {t : List UInt8} (h : rdCell s l = some (c, t)) : t.length ≤ l.length := by
  rw [(rdCell_some h).1, List.length_append]
  omega
def rdS (s : UInt8) (e : List UInt8) : Nat → List (List Cel) → List Cel → List UInt8 → Option (List (List Cel) × Bool)
  | 0, _, _, _ => none
  | n + 1, R, r, l => match rdCell s l with
    | none => none
    | some (c, t) => if t = [] then some (R ++ [r ++ [c]], true)
      else if t.take e.length = e then (if t.drop e.length = [] then some (R ++ [r ++ [c]], false) else rdS s e n (R ++ [r ++ [c]]) [] (t.drop e.length))
      else if t.head? = some s then rdS s e n R (r ++ [c]) t.tail else none
theorem rdS_fuel {s : UInt8} {e : List UInt8} (he : e ≠ []) : ∀ {n m : Nat} {R : List (List Cel)} {r : List Cel} {l : List UInt8}, l.length < n → l.length < m → rdS s e n R r l = rdS s e m R r l
  | 0, m, R, r, l, h, _ => by omega
  | n + 1, 0, R, r, l, _, h => by omega
  | n + 1, m + 1, R, r, l, h1, h2 => by
    have hel := List.length_pos_iff.2 he
    unfold rdS
    cases hc : rdCell s l with
    | none => rfl
    | some p =>
      obtain ⟨c, t⟩ := p
      have hl := rdCell_len hc
      simp only
      by_cases ht : t = []
      · rw [if_pos ht, if_pos ht]
      · have htl := List.length_pos_iff.2 ht
        rw [if_neg ht, if_neg ht]
        by_cases h3 : t.take e.length = e
        · rw [if_pos h3, if_pos h3]
          by_cases h4 : t.drop e.length = []
          · rw [if_pos h4, if_pos h4]
          · rw [if_neg h4, if_neg h4]
            exact rdS_fuel he (by rw [List.length_drop]; omega) (by rw [List.length_drop]; omega)
        · rw [if_neg h3, if_neg h3]
          by_cases h4 : t.head? = some s
          · rw [if_pos h4, if_pos h4]
            exact rdS_fuel he (by rw [List.length_tail]; omega) (by rw [List.length_tail]; omega)
          · rw [if_neg h4, if_neg h4]
/-- within a row -/
def rdG (s : UInt8) (e : List UInt8) (R : List (List Cel)) (r : List Cel) (l : List UInt8) : Option (List (List Cel) × Bool) := rdS s e (l.length + 1) R r l
/-- ahead of a row -/
def rdT (s : UInt8) (e : List UInt8) (R : List (List Cel)) (l : List UInt8) : Option (List (List Cel) × Bool) := if l = [] then some (R, false) else rdG s e R [] l
section
variable {s : UInt8} {e : List UInt8} {R : List (List Cel)} {r : List Cel} {l t : List UInt8} {c : Cel}
theorem rdG_bad (h : rdCell s l = none) : rdG s e R r l = none := by
  unfold rdG rdS
  rw [h]
theorem rdG_end (h : rdCell s l = some (c, [])) : rdG s e R r l = some (R ++ [r ++ [c]], true) := by
  unfold rdG rdS
  rw [h]
  rfl
theorem rdG_line (he : e ≠ []) (h : rdCell s l = some (c, t)) (h2 : t.take e.length = e) : rdG s e R r l = rdT s e (R ++ [r ++ [c]]) (t.drop e.length) := by
  have hel := List.length_pos_iff.2 he
  have hl := rdCell_len h
  have htl : 0 < t.length := by
    have := congrArg List.length h2
    rw [List.length_take] at this
    omega
  unfold rdG rdS
  rw [h]
  simp only
  rw [if_neg (List.ne_nil_of_length_pos htl), if_pos h2]
  unfold rdT
  by_cases h4 : t.drop e.length = []
  · rw [if_pos h4, if_pos h4]
  · rw [if_neg h4, if_neg h4]
    unfold rdG
    exact rdS_fuel he (by rw [List.length_drop]; omega) (by omega)
theorem rdG_sep (he : e ≠ []) (h : rdCell s l = some (c, s :: t)) (h2 : (s :: t).take e.length ≠ e) : rdG s e R r l = rdG s e R (r ++ [c]) t := by
  have hl := rdCell_len h
  rw [List.length_cons] at hl
  unfold rdG
  conv => lhs; unfold rdS
  rw [h]
  simp only
  rw [if_neg (by simp), if_neg h2, if_pos List.head?_cons, List.tail_cons]
  exact rdS_fuel he (by omega) (by omega)
theorem rdG_stop (h : rdCell s l = some (c, t)) (h1 : t ≠ []) (h2 : t.take e.length ≠ e) (h3 : t.head? ≠ some s) : rdG s e R r l = none := by
  unfold rdG rdS
  rw [h]
  simp only
  rw [if_neg h1, if_neg h2, if_neg h3]
end
/-- what was read stands in the file -/
structure RdTF (s : UInt8) (e : List UInt8) (R : List (List Cel)) (r : List Cel) (l : List UInt8) (X : List (List Cel)) (o : Bool) : Prop where
  ex : ∃ (q : List Cel) (Q : List (List Cel)), q ≠ [] ∧ X = R ++ (r ++ q) :: Q ∧ l = fileB s e o (q :: Q) ∧ (∀ a ∈ q :: Q, a ≠ [] ∧ ∀ c ∈ a, okC s c)
theorem rdS_some {s : UInt8} {e : List UInt8} : ∀ {n : Nat} {R : List (List Cel)} {r : List Cel} {l : List UInt8} {X : List (List Cel)} {o : Bool}, rdS s e n R r l = some (X, o) → RdTF s e R r l X o
  | 0, R, r, l, X, o, h => by cases h
  | n + 1, R, r, l, X, o, h => by
    unfold rdS at h
    split at h
    · cases h
    · rename_i c t hc
      obtain ⟨h1, h2, h3⟩ := rdCell_some hc
      have hone : ∀ a ∈ [[c]], a ≠ [] ∧ ∀ x ∈ a, okC s x := fun a ha => by
        rw [List.mem_singleton.1 ha]
        exact ⟨by simp, fun x hx => by rw [List.mem_singleton.1 hx]; exact h2⟩
      split at h
      · rename_i ht
        cases h
        exact ⟨[c], [], by simp, rfl, by rw [h1, ht]; rfl, hone⟩
      · split at h
        · rename_i h4
          have ht2 : t = e ++ t.drop e.length := by
            conv => lhs; rw [← List.take_append_drop e.length t, h4]
          split at h
          · rename_i h5
            cases h
            refine ⟨[c], [], by simp, rfl, ?_, hone⟩
            rw [h1, ht2, h5, List.append_nil]
            rfl
          · obtain ⟨q, Q, q1, q2, q3, q4⟩ := (rdS_some h).ex
            refine ⟨[c], q :: Q, by simp, ?_, ?_, fun a ha => ?_⟩
            · rw [q2, List.append_assoc, List.nil_append]
              rfl
            · conv => lhs; rw [h1, ht2, q3]
              rfl
            · rcases List.mem_cons.1 ha with rfl | ha
              · exact hone _ (by simp)
              · exact q4 a ha
        · split at h
          · rename_i h5
            have ht2 : t = s :: t.tail := by
              cases t with
              | nil => cases h5
              | cons d t => cases h5; rfl
            obtain ⟨q, Q, q1, q2, q3, q4⟩ := (rdS_some h).ex
            refine ⟨c :: q, Q, by simp, ?_, ?_, fun a ha => ?_⟩
            · rw [q2, List.append_assoc]
              rfl
            · rw [h1, ht2, q3]
              have e1 : outR s (c :: q) = outC c ++ s :: outR s q := by
                cases q with
                | nil => exact absurd rfl q1
                | cons d q => rfl
              cases Q with
              | nil =>
                show _ = outR s (c :: q) ++ _
                rw [e1]
                simp [fileB]
              | cons p Q =>
                show _ = outR s (c :: q) ++ _
                rw [e1]
                simp [fileB]
            · rcases List.mem_cons.1 ha with rfl | ha
              · refine ⟨by simp, fun x hx => ?_⟩
                rcases List.mem_cons.1 hx with rfl | hx
                · exact h2
                · exact (q4 q (by simp)).2 x hx
              · exact q4 a (by simp [ha])
          · cases h
def rdFile (s : UInt8) (e : List UInt8) (l : List UInt8) : Option (List (List Cel) × Bool) := rdT s e [] l
theorem rdFile_some {s : UInt8} {e l : List UInt8} {X : List (List Cel)} {o : Bool} (h : rdFile s e l = some (X, o)) : l = fileB s e o X ∧ ∀ a ∈ X, a ≠ [] ∧ ∀ c ∈ a, okC s c := by
  unfold rdFile rdT at h
  split at h
  · rename_i hl
    cases h
    exact ⟨hl, by simp⟩
  · obtain ⟨q, Q, q1, q2, q3, q4⟩ := (rdS_some h).ex
    rw [q2]
    exact ⟨q3, q4⟩
/-! ### which cells are quoted without need -/
def qn (s : UInt8) : Nat → List Cel → List Nat
  | _, [] => []
  | k, c :: r => (if (c.2 && !tNeeds s c.1) = true then [k] else []) ++ qn s (k + 1) r
theorem qn_snoc {s : UInt8} {c : Cel} : ∀ {r : List Cel} {k : Nat}, qn s k (r ++ [c]) = qn s k r ++ (if (c.2 && !tNeeds s c.1) = true then [k + r.length] else [])
  | [], k => by simp [qn]
  | d :: r, k => by
    show (if _ then [k] else []) ++ qn s (k + 1) (r ++ [c]) = _
    rw [qn_snoc (r := r), qn, List.append_assoc, List.length_cons]
    simp only [Nat.add_comm, Nat.add_left_comm]
theorem qn_mem {s : UInt8} : ∀ {r : List Cel} {k j : Nat}, j ∈ qn s k r ↔ ∃ i c, r[i]? = some c ∧ j = k + i ∧ (c.2 && !tNeeds s c.1) = true
  | [], k, j => by simp [qn]
  | d :: r, k, j => by
    unfold qn
    rw [List.mem_append, qn_mem (r := r)]
    constructor
    · rintro (h | ⟨i, c, h1, h2, h3⟩)
      · split at h
        · rename_i hd
          exact ⟨0, d, rfl, by simpa using h, hd⟩
        · simp at h
      · exact ⟨i + 1, c, h1, by omega, h3⟩
    · rintro ⟨i, c, h1, h2, h3⟩
      cases i with
      | zero =>
        cases h1
        left
        rw [if_pos h3]
        simpa using h2
      | succ i => exact .inr ⟨i, c, h1, by omega, h3⟩
theorem qn_asc {s : UInt8} : ∀ {r : List Cel} {k : Nat}, (qn s k r).Pairwise (· < ·) ∧ ∀ n ∈ qn s k r, k ≤ n ∧ n < k + r.length
  | [], k => by simp [qn]
  | d :: r, k => by
    obtain ⟨h1, h2⟩ := qn_asc (s := s) (r := r) (k := k + 1)
    unfold qn
    split
    · refine ⟨List.pairwise_cons.2 ⟨fun n hn => ?_, h1⟩, fun n hn => ?_⟩
      · have := h2 n hn
        omega
      · rcases List.mem_cons.1 hn with rfl | hn
        · simp
        · have := h2 n hn
          simp only [List.length_cons]
          omega
    · refine ⟨h1, fun n hn => ?_⟩
      have := h2 n hn
      simp only [List.length_cons]
      omega
theorem qn_len {s : UInt8} : ∀ {r : List Cel} {k : Nat}, (qn s k r).length ≤ r.length
  | [], _ => by simp [qn]
  | d :: r, k => by
    have := qn_len (s := s) (r := r) (k := k + 1)
    unfold qn
    split <;> simp <;> omega
/-! ### how a table is written -/
def wrC (s : UInt8) (Z : List Nat) (k : Nat) (x : List UInt8) : Cel := (x, tNeeds s x || Z.contains k)
def markR (s : UInt8) (Z : List Nat) : Nat → List (List UInt8) → List Cel
  | _, [] => []
  | k, x :: r => wrC s Z k x :: markR s Z (k + 1) r
def markF (s : UInt8) (Z : List Nat) : Nat → List (List (List UInt8)) → List (List Cel)
  | _, [] => []
  | k, r :: R => markR s Z k r :: markF s Z (k + r.length) R
theorem markR_len (s : UInt8) (Z : List Nat) : ∀ (r : List (List UInt8)) (k : Nat), (markR s Z k r).length = r.length
  | [], _ => rfl
  | x :: r, k => by simp [markR, markR_len s Z r]
theorem markR_snoc (s : UInt8) (Z : List Nat) (x : List UInt8) : ∀ (r : List (List UInt8)) (k : Nat), markR s Z k (r ++ [x]) = markR s Z k r ++ [wrC s Z (k + r.length) x]
  | [], k => rfl
  | y :: r, k => by
    show wrC s Z k y :: markR s Z (k + 1) (r ++ [x]) = _
    rw [markR_snoc s Z x r, markR, List.length_cons]
    simp only [Nat.add_comm, Nat.add_left_comm, List.cons_append]
theorem markF_snoc (s : UInt8) (Z : List Nat) (q : List (List UInt8)) : ∀ (R : List (List (List UInt8))) (k : Nat), markF s Z k (R ++ [q]) = markF s Z k R ++ [markR s Z (k + R.flatten.length) q]
  | [], k => by simp [markF]
  | r :: R, k => by
    show markR s Z k r :: markF s Z (k + r.length) (R ++ [q]) = _
    rw [markF_snoc s Z q R, markF, List.flatten_cons, List.length_append, Nat.add_assoc]
    rfl
theorem markF_len (s : UInt8) (Z : List Nat) : ∀ (R : List (List (List UInt8))) (k : Nat), (markF s Z k R).length = R.length
  | [], _ => rfl
  | r :: R, k => by simp [markF, markF_len s Z R]
theorem markR_back {s : UInt8} {Z : List Nat} : ∀ {r : List Cel} {k : Nat}, (∀ i c, r[i]? = some c → Z.contains (k + i) = (c.2 && !tNeeds s c.1)) → (∀ c ∈ r, okC s c) → markR s Z k (r.map Prod.fst) = r
  | [], _, _, _ => rfl
  | c :: r, k, h, hok => by
    show wrC s Z k c.1 :: markR s Z (k + 1) (r.map Prod.fst) = _
    rw [markR_back (r := r) (fun i d hd => by
      have := h (i + 1) d hd
      rwa [show k + (i + 1) = k + 1 + i by omega] at this) fun d hd => hok d (by simp [hd])]
    have h0 := h 0 c rfl
    rw [Nat.add_zero] at h0
    congr 1
    obtain ⟨x, q⟩ := c
    unfold wrC
    rw [h0]
    rcases hok (x, q) (by simp) with h1 | h1
    · dsimp only at h1 ⊢
      rw [h1]
      cases tNeeds s x <;> rfl
    · dsimp only at h1 ⊢
      rw [h1]
      simp
theorem markF_back {s : UInt8} {Z : List Nat} : ∀ {R : List (List Cel)} {k : Nat}, (∀ i c, R.flatten[i]? = some c → Z.contains (k + i) = (c.2 && !tNeeds s c.1)) → (∀ r ∈ R, ∀ c ∈ r, okC s c) → markF s Z k (R.map fun r => r.map Prod.fst) = R
  | [], _, _, _ => rfl
  | r :: R, k, h, hok => by
    show markR s Z k (r.map Prod.fst) :: markF s Z (k + (r.map Prod.fst).length) (R.map fun r => r.map Prod.fst) = _
    rw [List.length_map, markR_back (fun i c hc => h i c (by rw [List.flatten_cons, List.getElem?_append_left (List.getElem?_eq_some_iff.1 hc).1]; exact hc)) (hok r (by simp)),
      markF_back (R := R) (fun i c hc => by
        have := h (r.length + i) c (by rw [List.flatten_cons, List.getElem?_append_right (by omega), show r.length + i - r.length = i by omega]; exact hc)
        rwa [← Nat.add_assoc] at this) fun q hq => hok q (by simp [hq])]
theorem mark_qn {s : UInt8} {R : List (List Cel)} (hok : ∀ r ∈ R, ∀ c ∈ r, okC s c) : markF s (qn s 0 R.flatten) 0 (R.map fun r => r.map Prod.fst) = R :=
  markF_back (fun i c hc => by
    by_cases h : (c.2 && !tNeeds s c.1) = true
    · rw [h, List.contains_iff_mem]
      exact qn_mem.2 ⟨i, c, hc, rfl, h⟩
    · rw [Bool.eq_false_iff.2 h, Bool.eq_false_iff]
      intro h2
      rw [List.contains_iff_mem] at h2
      obtain ⟨j, d, h3, h4, h5⟩ := qn_mem.1 h2
      obtain rfl : i = j := by omega
      rw [hc] at h3
      cases h3
      exact h h5) hok
end Go.Proofs.YtkfcdjomkcmkeaaGreatDoor
