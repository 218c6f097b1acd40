/-
  Files of tables, plain: values, residues, To, From, what is lost.
-/
import Derived.Test.YtkfcdjomkcmkeaaGreatDoorTblP
namespace Go.Proofs.YtkfcdjomkcmkeaaGreatDoor
open Go Go.RowKit

abbrev nz (Z : List Nat) : List Int := Z.map fun (n : Nat) => (n : Int)
abbrev Tbl := List (List (List UInt8))
abbrev cellV (x : List UInt8) : Val := .mk 2 0 x [] []
abbrev rowV (r : List (List UInt8)) : Val := .mk 3 0 [] [] (r.map cellV)
abbrev tblVal (T : Tbl) : Val := .mk 3 0 [] [] (T.map rowV)
/-- the cells of rows that were read -/
abbrev tblOf (R : List (List Cel)) : Tbl := R.map fun r => r.map Prod.fst
def tRes (fl : Nat) (Z : List Nat) : List UInt8 := if fl = 0 ∧ Z = [] then [] else putN fl ++ putL putN (nz Z)
def tFlags (n : Nat) (k o : Bool) : Nat := n + (if k = true then 3 else 0) + (if o = true then 6 else 0)
def suitT (k : Bool) (R : List (List Cel)) (o : Bool) : Bool := decide (0 < R.length) && decide (2 ≤ (R.headD []).length) && (!k || decide (1 < R.length) || !o)
def crT (i : Nat) : Bool := decide (i % 2 = 1)
def tblOne (i : Nat) (l : List UInt8) : Option (List (List Cel) × Bool) := match rdFile (sepB (i / 2)) (tEnd (crT i)) l with
  | none => none
  | some (R, o) => if suitT (crT i) R o = true then some (R, o) else none
def tblFrom (l : List UInt8) : Nat → Option (Nat × List (List Cel) × Bool)
  | 0 => none
  | n + 1 => match tblOne (5 - n) l with
    | some x => some (5 - n, x)
    | none => tblFrom l n
def tblFind (l : List UInt8) : Option (Nat × List (List Cel) × Bool) := tblFrom l 6
def tblAns (i : Nat) (R : List (List Cel)) (o : Bool) : Option (Val × List UInt8) := if (vfault (tblVal (tblOf R))).1 = 0 then some (tblVal (tblOf R), tRes (tFlags (i / 2) (crT i) o) (qn (sepB (i / 2)) 0 R.flatten)) else none
def tblTo (l : List UInt8) : Option (Val × List UInt8) := match tblFind l with
  | none => none
  | some (i, R, o) => tblAns i R o
def cellOf (c : Val) : Option (List UInt8) := if c.kind = 2 then some c.bytes else none
def rowOfV (r : Val) : Option (List (List UInt8)) := if r.kind = 3 ∧ r.parts ≠ [] then allM cellOf r.parts else none
def tblShape (v : Val) : Option Tbl := if v.kind = 3 ∧ v.parts ≠ [] then allM rowOfV v.parts else none
def okT (z : List Int) : Prop := (∀ n ∈ z, 0 ≤ n ∧ n ≤ 1000) ∧ z.Pairwise (· < ·)
instance (z : List Int) : Decidable (okT z) := by unfold okT; infer_instance
def tRaw (b : List UInt8) : Option (Int × List Int) := match numAt b 0 with
  | .bad _ _ => none
  | .ok c p => match listAt b (numAt b) 1000 p with
    | .bad _ _ => none
    | .ok z q => if q = b.length then some (c, z) else none
def tblRd (b : List UInt8) : Option (Nat × List Nat) := if b = [] then some (0, []) else match tRaw b with
  | none => none
  | some (c, z) => if (0 ≤ c ∧ c < 12) ∧ ¬ (c = 0 ∧ z = []) ∧ okT z then some (c.toNat, z.map Int.toNat) else none
def tblOut (fl : Nat) (Z : List Nat) (T : Tbl) : List UInt8 := fileB (sepB (fl % 3)) (tEnd (decide (fl / 3 % 2 = 1))) (decide (6 ≤ fl)) (markF (sepB (fl % 3)) Z 0 T)
noncomputable def tblMake (v : Val) (b : List UInt8) : Option (List UInt8) := match tblShape v with
  | none => none
  | some T => match tblRd b with
    | none => none
    | some (fl, Z) => if (tblOut fl Z T).length ≤ 1000 ∧ tblTo (tblOut fl Z T) = some (v, b) then some (tblOut fl Z T) else none
abbrev lsSep : List UInt8 := [115, 101, 112, 97, 114, 97, 116, 111, 114]
abbrev lsCr : List UInt8 := [99, 97, 114, 114, 105, 97, 103, 101, 32, 114, 101, 116, 117, 114, 110, 32, 97, 110, 100, 32, 108, 105, 110, 101, 32, 102, 101, 101, 100]
abbrev lsOpen : List UInt8 := [111, 112, 101, 110, 32, 101, 110, 100]
abbrev lsQuoted : List UInt8 := [113, 117, 111, 116, 101, 100, 32, 99, 101, 108, 108, 115]
def lossTbl (fl n : Nat) : List LossD := (if fl % 3 ≠ 0 then [(lsSep, ((fl % 3 : Nat) : Int))] else []) ++ (if fl / 3 % 2 = 1 then [(lsCr, 1)] else []) ++ (if 6 ≤ fl then [(lsOpen, 1)] else []) ++ (if 0 < n then [(lsQuoted, (n : Int))] else [])
def tblLoss (b : List UInt8) : Option (List LossD) := match tblRd b with
  | none => none
  | some (fl, Z) => some (lossTbl fl Z.length)
theorem nz_nat (Z : List Nat) : (nz Z).map Int.toNat = Z := by
  unfold nz
  rw [List.map_map]
  conv => rhs; rw [← List.map_id Z]
  exact List.map_congr_left fun x _ => by simp
theorem tRaw_put {fl : Nat} {Z : List Nat} (hf : fl < 1000) (hl : Z.length ≤ 1000) (hz : ∀ n ∈ Z, n ≤ 1000) : tRaw (putN fl ++ putL putN (nz Z)) = some ((fl : Int), nz Z) := by
  obtain ⟨b, hb⟩ : ∃ b, b = putN (fl : Int) ++ putL putN (nz Z) := ⟨_, rfl⟩
  rw [← hb]
  have e1 : b = [] ++ (putN (fl : Int) ++ putL putN (nz Z)) := by rw [hb]; rfl
  have n1 := numAt_put (n := (fl : Int)) (by omega) (by omega) [] (putL putN (nz Z))
  rw [← e1] at n1
  have e2 : b = putN (fl : Int) ++ (putN ((nz Z).length : Int) ++ ((nz Z).flatMap putN ++ [])) := by rw [hb, putL, List.append_nil]
  have hil : (nz Z).length = Z.length := by simp
  have n2 := numAt_put (n := ((nz Z).length : Int)) (by omega) (by omega) (putN (fl : Int)) ((nz Z).flatMap putN ++ [])
  rw [← e2] at n2
  have hbl := congrArg List.length e2
  simp only [List.length_append, List.length_nil] at hbl
  have n3 := manyAt_put (f := putN) (b := b) (one := numAt b) (nz Z) ((putN (fl : Int)).length + (putN ((nz Z).length : Int)).length) (by omega) (fun x hx q r hq hd => by
    obtain ⟨n, hn, rfl⟩ := List.mem_map.1 hx
    have := hz n hn
    have e : b = b.take q ++ (putN (n : Int) ++ r) := by rw [← hd, List.take_append_drop]
    have hql : (b.take q).length = q := by simp; omega
    have := numAt_put (n := (n : Int)) (by omega) (by omega) (b.take q) r
    rwa [hql, ← e] at this) [] (by
      rw [← List.drop_drop]
      conv => lhs; rw [e2]
      rw [List.drop_left, List.drop_left])
  unfold tRaw
  simp only [List.length_nil, Nat.zero_add] at n1
  rw [n1]
  simp only
  unfold listAt
  rw [n2]
  simp only
  rw [if_neg (by omega), Int.toNat_natCast, n3]
  simp only
  rw [if_pos (by omega)]
theorem tRaw_some {b : List UInt8} {c : Int} {z : List Int} (h : tRaw b = some (c, z)) : b = putN c ++ putL putN z ∧ I64 c ∧ z.length ≤ 1000 := by
  unfold tRaw at h
  split at h
  · cases h
  · rename_i c' p h1
    split at h
    · cases h
    · rename_i z' q h2
      split at h
      · rename_i hq
        cases h
        have a1 := numAt_split (Nat.zero_le _) h1
        obtain ⟨a2, a3, _, a4⟩ := numAt_ok (Nat.zero_le _) h1
        unfold listAt at h2
        split at h2
        · cases h2
        · rename_i n p2 h3
          split at h2
          · cases h2
          · rename_i hn
            have b1 := numAt_split a3 h3
            obtain ⟨b2, b3, _, b4⟩ := numAt_ok a3 h3
            obtain ⟨c1, c2, c3, c4⟩ := manyAt_ok (f := putN) (b := b) (one := numAt b) (fun p q x hp h => by
              obtain ⟨d1, d2, _, _⟩ := numAt_ok hp h
              exact ⟨by omega, d2, numAt_split hp h⟩) n.toNat p2 q z b3 h2
            rw [List.drop_zero] at a1
            rw [hq, List.drop_length, List.append_nil] at c4
            refine ⟨?_, a4, by omega⟩
            rw [a1, b1, c4, putL, c1, Int.toNat_of_nonneg (by omega)]
      · cases h
theorem tblRd_res {fl : Nat} {Z : List Nat} (hf : fl < 12) (hl : Z.length ≤ 1000) (hz : okT (nz Z)) : tblRd (tRes fl Z) = some (fl, Z) := by
  unfold tRes
  split
  · rename_i h
    obtain ⟨rfl, rfl⟩ := h
    rfl
  · rename_i hne
    unfold tblRd
    rw [if_neg, tRaw_put (by omega) hl fun n hn => by have := hz.1 (n : Int) (List.mem_map.2 ⟨n, hn, rfl⟩); omega]
    · simp only
      rw [if_pos, Int.toNat_natCast, nz_nat]
      refine ⟨by omega, fun q => hne ⟨by omega, ?_⟩, hz⟩
      have := q.2
      simpa [nz] using this
    · intro h
      have := congrArg List.length h
      have := putU_len (zz (fl : Int))
      simp only [List.length_append, putN, List.length_nil] at *
      omega
theorem nz_toNat {z : List Int} (h : ∀ n ∈ z, 0 ≤ n) : nz (z.map Int.toNat) = z := by
  unfold nz
  rw [List.map_map]
  conv => rhs; rw [← List.map_id z]
  refine List.map_congr_left fun x hx => ?_
  have := h x hx
  show ((x.toNat : Nat) : Int) = x
  omega
theorem tblRd_some {b : List UInt8} {fl : Nat} {Z : List Nat} (h : tblRd b = some (fl, Z)) : fl < 12 ∧ Z.length ≤ 1000 ∧ (∀ n ∈ Z, n ≤ 1000) ∧ b = tRes fl Z := by
  unfold tblRd at h
  split at h
  · rename_i hb
    cases h
    exact ⟨by omega, by simp, by simp, by rw [hb]; rfl⟩
  · split at h
    · cases h
    · rename_i c z hr
      obtain ⟨h1, h2, h3⟩ := tRaw_some hr
      split at h
      · rename_i hc
        cases h
        obtain ⟨c1, c2, c3⟩ := hc
        have hz := nz_toNat fun n hn => (c3.1 n hn).1
        refine ⟨by omega, by simpa using h3, fun n hn => ?_, ?_⟩
        · obtain ⟨x, hx, rfl⟩ := List.mem_map.1 hn
          have := c3.1 x hx
          omega
        · unfold tRes
          rw [if_neg, hz, Int.toNat_of_nonneg c1.1]
          · exact h1
          · rintro ⟨q1, q2⟩
            refine c2 ⟨by omega, ?_⟩
            simpa using q2
      · cases h
theorem tblRd_raw {b : List UInt8} {fl : Nat} {Z : List Nat} (hb : b ≠ []) (h : tblRd b = some (fl, Z)) : tRaw b = some ((fl : Int), nz Z) := by
  unfold tblRd at h
  rw [if_neg hb] at h
  cases hw : tRaw b with
  | none => rw [hw] at h; cases h
  | some x =>
    obtain ⟨c, z⟩ := x
    rw [hw] at h
    simp only at h
    split at h
    · rename_i hc
      cases h
      rw [Int.toNat_of_nonneg hc.1.1, nz_toNat fun n hn => (hc.2.2.1 n hn).1]
    · cases h
theorem tblRd_nil : tblRd [] = some (0, []) := by unfold tblRd; rw [if_pos rfl]
theorem tRes_nil {fl : Nat} {Z : List Nat} : tRes fl Z = [] ↔ fl = 0 ∧ Z = [] := by
  unfold tRes
  constructor
  · intro h
    split at h
    · assumption
    · have := congrArg List.length h
      have := putU_len (zz (fl : Int))
      simp only [List.length_append, putN, List.length_nil] at *
      omega
  · intro h
    rw [if_pos h]
theorem lossTbl_nil {fl n : Nat} (hf : fl < 12) : lossTbl fl n = [] ↔ fl = 0 ∧ n = 0 := by
  unfold lossTbl
  by_cases h1 : fl % 3 = 0
  · by_cases h2 : fl / 3 % 2 = 1
    · simp [h1, h2]; omega
    · by_cases h3 : 6 ≤ fl
      · simp [h3]; omega
      · by_cases h4 : 0 < n
        · simp [h4]; omega
        · simp [h1, h2, h3, h4]; omega
  · simp [h1]; omega
theorem lossTbl_len (fl n : Nat) : (lossTbl fl n).length ≤ 4 := by
  unfold lossTbl
  simp only [List.length_append]
  split <;> split <;> split <;> split <;> simp
theorem putL_nz_len {Z : List Nat} (hl : Z.length ≤ 1000) (hz : ∀ n ∈ Z, n ≤ 1000) : (putL putN (nz Z)).length ≤ 10010 := by
  have := putL_len (f := putN) (m := 10) (l := nz Z) (by simp; omega) fun x hx => by
    obtain ⟨n, hn, rfl⟩ := List.mem_map.1 hx
    have := hz n hn
    exact putN_len (by omega) (by omega)
  simp only [List.length_map] at this
  omega
theorem tRes_len {fl : Nat} {Z : List Nat} (hf : fl < 1000) (hl : Z.length ≤ 1000) (hz : ∀ n ∈ Z, n ≤ 1000) : (tRes fl Z).length ≤ 10020 := by
  have h1 := putL_nz_len hl hz
  have h2 := putN_len (n := (fl : Int)) (by omega) (by omega)
  unfold tRes
  split
  · simp
  · rw [List.length_append]; omega
/-! ### round trip -/
theorem tblFrom_some {l : List UInt8} {i : Nat} {R : List (List Cel)} {o : Bool} : ∀ {n : Nat}, tblFrom l n = some (i, R, o) → i < 6 ∧ tblOne i l = some (R, o)
  | 0, h => by cases h
  | n + 1, h => by
    unfold tblFrom at h
    split at h
    · rename_i x hx
      cases h
      exact ⟨by omega, hx⟩
    · exact tblFrom_some h
theorem tblOne_some {l : List UInt8} {i : Nat} {R : List (List Cel)} {o : Bool} (h : tblOne i l = some (R, o)) : rdFile (sepB (i / 2)) (tEnd (crT i)) l = some (R, o) ∧ suitT (crT i) R o = true := by
  unfold tblOne at h
  split at h
  · cases h
  · rename_i R' o' hr
    split at h
    · rename_i hs
      cases h
      exact ⟨hr, hs⟩
    · cases h
theorem tFlags_lt {n : Nat} (h : n < 3) (k o : Bool) : tFlags n k o < 12 ∧ tFlags n k o % 3 = n ∧ decide (tFlags n k o / 3 % 2 = 1) = k ∧ decide (6 ≤ tFlags n k o) = o := by
  unfold tFlags
  cases k <;> cases o <;> simp <;> omega
theorem outC_len (c : Cel) : c.1.length ≤ (outC c).length := by
  have he : ∀ x : List UInt8, x.length ≤ (esc x).length := by
    intro x
    induction x with
    | nil => simp [esc]
    | cons d x ih => unfold esc; split <;> simp <;> omega
  unfold outC
  split
  · have := he c.1
    simp only [List.length_cons, List.length_append]
    omega
  · exact Nat.le_refl _
theorem outR_len (s : UInt8) : ∀ (r : List Cel), r.length ≤ (outR s r).length + 1 ∧ ∀ c ∈ r, c.1.length ≤ (outR s r).length
  | [] => by simp
  | [c] => ⟨by simp, fun d hd => by rw [List.mem_singleton.1 hd]; exact outC_len c⟩
  | c :: d :: r => by
    obtain ⟨h1, h2⟩ := outR_len s (d :: r)
    have h3 := outC_len c
    refine ⟨?_, fun x hx => ?_⟩
    · simp only [outR, List.length_append, List.length_cons] at h1 ⊢
      omega
    · have e : (outR s (c :: d :: r)).length = (outC c).length + ((outR s (d :: r)).length + 1) := by
        simp [outR]
      rw [e]
      rcases List.mem_cons.1 hx with rfl | hx
      · omega
      · have := h2 x hx
        omega
theorem fileB_len {s : UInt8} {e : List UInt8} (he : e ≠ []) (o : Bool) : ∀ (R : List (List Cel)), R.flatten.length ≤ (fileB s e o R).length + 1 ∧ (∀ r ∈ R, ∀ c ∈ r, c.1.length ≤ (fileB s e o R).length) ∧ R.length ≤ (fileB s e o R).length + 1
  | [] => by simp
  | [r] => by
    obtain ⟨h1, h2⟩ := outR_len s r
    have e1 : (fileB s e o [r]).length = (outR s r).length + (if o = true then [] else e).length := by simp [fileB]
    rw [e1]
    refine ⟨by simp; omega, fun q hq c hc => ?_, by simp⟩
    rw [List.mem_singleton.1 hq] at hc
    have := h2 c hc
    omega
  | r :: q :: R => by
    obtain ⟨h1, h2⟩ := outR_len s r
    obtain ⟨h3, h4, h5⟩ := fileB_len (s := s) he o (q :: R)
    have hel := List.length_pos_iff.2 he
    have e1 : (fileB s e o (r :: q :: R)).length = (outR s r).length + (e.length + (fileB s e o (q :: R)).length) := by simp [fileB]
    rw [e1]
    refine ⟨?_, fun a ha c hc => ?_, ?_⟩
    · rw [List.flatten_cons, List.length_append]
      omega
    · rcases List.mem_cons.1 ha with rfl | ha
      · have := h2 c hc
        omega
      · have := h4 a ha c hc
        omega
    · simp only [List.length_cons] at h5 ⊢
      omega
theorem qn_app {s : UInt8} {b : List Cel} : ∀ {a : List Cel} {k : Nat}, qn s k (a ++ b) = qn s k a ++ qn s (k + a.length) b
  | [], k => rfl
  | c :: a, k => by
    show _ ++ qn s (k + 1) (a ++ b) = _
    rw [qn_app (a := a), qn, List.append_assoc, List.length_cons, Nat.add_assoc, Nat.add_comm 1]
theorem qn_one {s : UInt8} (k : Nat) (c : Cel) : (qn s k [c]).length ≤ (outC c).length := by
  unfold qn
  split
  · rename_i h
    have hc : c.2 = true := by
      rw [Bool.and_eq_true] at h
      exact h.1
    unfold outC
    rw [if_pos hc]
    simp [qn]
  · simp [qn]
theorem qn_row {s : UInt8} : ∀ (r : List Cel) (k : Nat), (qn s k r).length ≤ (outR s r).length
  | [], _ => by simp [qn]
  | [c], k => qn_one k c
  | c :: d :: r, k => by
    have h1 := qn_one (s := s) k c
    have h2 := qn_row (s := s) (d :: r) (k + 1)
    have e : qn s k (c :: d :: r) = qn s k [c] ++ qn s (k + 1) (d :: r) := qn_app (a := [c])
    rw [e]
    simp only [outR, List.length_append, List.length_cons] at h2 ⊢
    omega
theorem qn_file {s : UInt8} {e : List UInt8} (o : Bool) : ∀ (R : List (List Cel)) (k : Nat), (qn s k R.flatten).length ≤ (fileB s e o R).length
  | [], _ => by simp [qn]
  | [r], k => by
    have h1 := qn_row (s := s) r k
    have e1 : (fileB s e o [r]).length = (outR s r).length + (if o = true then [] else e).length := by simp [fileB]
    rw [e1]
    simp only [List.flatten_cons, List.flatten_nil, List.append_nil]
    omega
  | r :: q :: R, k => by
    have h1 := qn_row (s := s) r k
    have h2 := qn_file (s := s) (e := e) o (q :: R) (k + r.length)
    have e1 : (fileB s e o (r :: q :: R)).length = (outR s r).length + (e.length + (fileB s e o (q :: R)).length) := by simp [fileB]
    rw [e1, List.flatten_cons, qn_app, List.length_append]
    omega
theorem tEnd_ne (k : Bool) : tEnd k ≠ [] := by unfold tEnd; split <;> simp
theorem okT_qn {s : UInt8} {cs : List Cel} (h : cs.length ≤ 1001) : okT (nz (qn s 0 cs)) := by
  obtain ⟨h1, h2⟩ := qn_asc (s := s) (r := cs) (k := 0)
  refine ⟨fun n hn => ?_, ?_⟩
  · obtain ⟨m, hm, rfl⟩ := List.mem_map.1 hn
    have := h2 m hm
    omega
  · unfold nz
    rw [List.pairwise_map]
    exact h1.imp fun h => by omega
/-- a file that was read -/
structure TblF (l : List UInt8) (i : Nat) (R : List (List Cel)) (o : Bool) : Prop where
  lt : i < 6
  eq : l = fileB (sepB (i / 2)) (tEnd (crT i)) o R
  ok : ∀ a ∈ R, a ≠ [] ∧ ∀ c ∈ a, okC (sepB (i / 2)) c
  su : suitT (crT i) R o = true
theorem TblF.ne {l : List UInt8} {i : Nat} {R : List (List Cel)} {o : Bool} (h : TblF l i R o) : R ≠ [] := by
  rintro rfl
  have := h.su
  simp [suitT] at this
theorem tblFind_some {l : List UInt8} {i : Nat} {R : List (List Cel)} {o : Bool} (h : tblFind l = some (i, R, o)) : TblF l i R o := by
  obtain ⟨h1, h2⟩ := tblFrom_some h
  obtain ⟨h3, h4⟩ := tblOne_some h2
  obtain ⟨h5, h6⟩ := rdFile_some h3
  exact ⟨h1, h5, h6, h4⟩
theorem tblTo_some {l : List UInt8} {v : Val} {r : List UInt8} (h : tblTo l = some (v, r)) : ∃ i R o, tblFind l = some (i, R, o) ∧ TblF l i R o ∧ (vfault (tblVal (tblOf R))).1 = 0 ∧ v = tblVal (tblOf R) ∧ r = tRes (tFlags (i / 2) (crT i) o) (qn (sepB (i / 2)) 0 R.flatten) := by
  unfold tblTo at h
  split at h
  · cases h
  · rename_i i R o hf
    unfold tblAns at h
    split at h
    · rename_i hv
      cases h
      exact ⟨i, R, o, hf, tblFind_some hf, hv, rfl, rfl⟩
    · cases h
theorem tblShape_val {T : Tbl} (h0 : T ≠ []) (h : ∀ r ∈ T, r ≠ []) : tblShape (tblVal T) = some T := by
  unfold tblShape
  rw [if_pos ⟨rfl, by show T.map rowV ≠ []; simpa using h0⟩]
  show allM rowOfV (T.map rowV) = some T
  refine allM_of (by simp) fun i x y hx hy => ?_
  rw [List.getElem?_map, hy] at hx
  cases hx
  unfold rowOfV
  rw [if_pos ⟨rfl, by show y.map cellV ≠ []; simpa using h y (List.mem_of_getElem? hy)⟩]
  show allM cellOf (y.map cellV) = some y
  refine allM_of (by simp) fun j a b ha hb => ?_
  rw [List.getElem?_map, hb] at ha
  cases ha
  rfl
theorem tblMake_yes {v : Val} {b : List UInt8} {T : Tbl} {fl : Nat} {Z : List Nat} (h1 : tblShape v = some T) (h2 : tblRd b = some (fl, Z)) (h4 : (tblOut fl Z T).length ≤ 1000) (h5 : tblTo (tblOut fl Z T) = some (v, b)) : tblMake v b = some (tblOut fl Z T) := by
  unfold tblMake
  rw [h1]
  simp only
  rw [h2]
  simp only
  rw [if_pos ⟨h4, h5⟩]
theorem tblMake_no {v : Val} {b : List UInt8} {T : Tbl} {fl : Nat} {Z : List Nat} (h1 : tblShape v = some T) (h2 : tblRd b = some (fl, Z)) (h4 : (tblOut fl Z T).length ≤ 1000 → tblTo (tblOut fl Z T) ≠ some (v, b)) : tblMake v b = none := by
  unfold tblMake
  rw [h1]
  simp only
  rw [h2]
  simp only
  rw [if_neg fun q => h4 q.1 q.2]
theorem tblMake_bad {v : Val} {b : List UInt8} {T : Tbl} (h1 : tblShape v = some T) (h2 : tblRd b = none) : tblMake v b = none := by
  unfold tblMake
  rw [h1]
  simp only
  rw [h2]
theorem tblMake_some {v : Val} {b o : List UInt8} (h : tblMake v b = some o) : o.length ≤ 1000 ∧ tblTo o = some (v, b) := by
  unfold tblMake at h
  split at h
  · cases h
  · split at h
    · cases h
    · split at h
      · rename_i hc
        cases h
        exact hc
      · cases h
theorem tblOut_back {l : List UInt8} {i : Nat} {R : List (List Cel)} {o : Bool} (F : TblF l i R o) : tblOut (tFlags (i / 2) (crT i) o) (qn (sepB (i / 2)) 0 R.flatten) (tblOf R) = l := by
  have hi := F.lt
  obtain ⟨_, f2, f3, f4⟩ := tFlags_lt (n := i / 2) (by omega) (crT i) o
  unfold tblOut
  rw [f2, f3, f4, mark_qn (fun r hr => (F.ok r hr).2)]
  exact F.eq.symm
theorem tbl_round {l : List UInt8} {v : Val} {r : List UInt8} (hl : l.length ≤ 1000) (h : tblTo l = some (v, r)) : tblMake v r = some l := by
  obtain ⟨i, R, o, _, F, _, h4, h5⟩ := tblTo_some h
  have hi := F.lt
  obtain ⟨q1, q2, q3⟩ := fileB_len (s := sepB (i / 2)) (tEnd_ne (crT i)) o R
  rw [← F.eq] at q1 q2 q3
  have hb := tblOut_back F
  obtain ⟨f1, _⟩ := tFlags_lt (n := i / 2) (by omega) (crT i) o
  have hq2 := qn_file (s := sepB (i / 2)) (e := tEnd (crT i)) o R 0
  rw [← F.eq] at hq2
  replace hq2 : (qn (sepB (i / 2)) 0 R.flatten).length ≤ 1000 := by omega
  have hrd := tblRd_res f1 hq2 (okT_qn (s := sepB (i / 2)) (cs := R.flatten) (by omega))
  rw [← h5] at hrd
  have hsh : tblShape v = some (tblOf R) := by
    rw [h4]
    refine tblShape_val ?_ fun a ha => ?_
    · have := F.ne
      simpa using this
    · obtain ⟨x, hx, rfl⟩ := List.mem_map.1 ha
      have := (F.ok x hx).1
      simpa using this
  have := tblMake_yes hsh hrd (by rw [hb]; exact hl) (by rw [hb]; exact h)
  rwa [hb] at this
theorem mem_flat_len {α : Type} {x : List α} : ∀ {R : List (List α)}, x ∈ R → x.length ≤ R.flatten.length
  | r :: R, h => by
    rw [List.flatten_cons, List.length_append]
    rcases List.mem_cons.1 h with rfl | h
    · omega
    · have := mem_flat_len h
      omega
theorem vb_tbl {T : Tbl} (h1 : T.length ≤ 1000000) (h2 : ∀ r ∈ T, r.length ≤ 1000000 ∧ ∀ x ∈ r, x.length ≤ 1000000) : VB 1048576 (tblVal T) :=
  .mk (i64_c 3) (i64_c 0) (Nat.zero_le _) (Nat.zero_le _) (by simp) (by show (T.map rowV).length ≤ _; simp; omega) (by
    intro x hx
    obtain ⟨r, hr, rfl⟩ := List.mem_map.1 (show x ∈ T.map rowV from hx)
    obtain ⟨h3, h4⟩ := h2 r hr
    exact .mk (i64_c 3) (i64_c 0) (Nat.zero_le _) (Nat.zero_le _) (by simp) (by show (r.map cellV).length ≤ _; simp; omega) (by
      intro y hy
      obtain ⟨c, hc, rfl⟩ := List.mem_map.1 (show y ∈ r.map cellV from hy)
      exact vb_byt (by have := h4 c hc; omega)))
theorem tbl_valid {b : List UInt8} {v : Val} {r : List UInt8} (hl : b.length ≤ 1000) (h : tblTo b = some (v, r)) : VB 1048576 v ∧ (vfault v).1 = 0 ∧ (tblShape v).isSome = true ∧ tblMake v r = some b ∧ r.length ≤ 100000000 ∧ ∃ ls, tblLoss r = some ls ∧ ls.length ≤ 4 ∧ (ls = [] ↔ r = []) := by
  have hmk := tbl_round hl h
  have hsh : (tblShape v).isSome = true := by
    unfold tblMake at hmk
    cases hs : tblShape v with
    | none => rw [hs] at hmk; cases hmk
    | some T => rfl
  obtain ⟨i, R, o, _, F, hv, h4, h5⟩ := tblTo_some h
  have hi := F.lt
  obtain ⟨q1, q2, q3⟩ := fileB_len (s := sepB (i / 2)) (tEnd_ne (crT i)) o R
  have hq2 := qn_file (s := sepB (i / 2)) (e := tEnd (crT i)) o R 0
  rw [← F.eq] at q1 q2 q3 hq2
  obtain ⟨f1, _⟩ := tFlags_lt (n := i / 2) (by omega) (crT i) o
  have hok := okT_qn (s := sepB (i / 2)) (cs := R.flatten) (by omega)
  have hz : ∀ n ∈ qn (sepB (i / 2)) 0 R.flatten, n ≤ 1000 := fun n hn => by
    have := hok.1 (n : Int) (List.mem_map.2 ⟨n, hn, rfl⟩)
    omega
  refine ⟨?_, by rw [h4]; exact hv, hsh, hmk, ?_, ?_⟩
  · rw [h4]
    refine vb_tbl (by simp; omega) fun a ha => ?_
    obtain ⟨x, hx, rfl⟩ := List.mem_map.1 ha
    have hxl := mem_flat_len hx
    refine ⟨by simp; omega, fun y hy => ?_⟩
    obtain ⟨c, hc, rfl⟩ := List.mem_map.1 hy
    have := q2 x hx c hc
    omega
  · rw [h5]
    have := tRes_len (fl := tFlags (i / 2) (crT i) o) (by omega) (Z := qn (sepB (i / 2)) 0 R.flatten) (by omega) hz
    omega
  · unfold tblLoss
    rw [h5, tblRd_res f1 (by omega) hok]
    refine ⟨_, rfl, lossTbl_len _ _, ?_⟩
    rw [lossTbl_nil f1, tRes_nil, List.length_eq_zero_iff]
end Go.Proofs.YtkfcdjomkcmkeaaGreatDoor
