/-
  Pictures, plain: runs, the packed form and what it holds.
-/
import Derived.Test.YtgnaojphgdaalaaGreatCnvL
namespace Go.Proofs.YtgnaojphgdaalaaGreat
open Go Go.RowKit

/-- how many of the first m bytes, from the first one on, are x -/
def runB (x : UInt8) : Nat → List UInt8 → Nat
  | 0, _ => 0
  | _ + 1, [] => 0
  | m + 1, y :: l => if y = x then runB x m l + 1 else 0
/-- the run at the beginning -/
def runOf (l : List UInt8) : Nat := runB (l.headD 0) 129 l
theorem runB_le (x : UInt8) : ∀ (m : Nat) (l : List UInt8), runB x m l ≤ m ∧ runB x m l ≤ l.length
  | 0, _ => ⟨Nat.le_refl _, Nat.zero_le _⟩
  | _ + 1, [] => ⟨Nat.zero_le _, Nat.zero_le _⟩
  | m + 1, y :: l => by
    have := runB_le x m l
    unfold runB
    split
    · simp only [List.length_cons]; omega
    · omega
theorem runB_take (x : UInt8) : ∀ (m : Nat) (l : List UInt8), l.take (runB x m l) = List.replicate (runB x m l) x
  | 0, _ => by simp [runB]
  | _ + 1, [] => by simp [runB]
  | m + 1, y :: l => by
    have := runB_take x m l
    unfold runB
    split
    · rename_i h
      rw [List.take_succ_cons, List.replicate_succ, this, h]
    · simp
theorem runB_end (x : UInt8) (m : Nat) {l : List UInt8} {k : Nat} (h : l.length ≤ k) : runB x m (l.drop k) = 0 := by
  rw [List.drop_eq_nil_of_le h]
  cases m <;> rfl
theorem runB_step (x : UInt8) (m : Nat) {l : List UInt8} {k : Nat} (h : k < l.length) : runB x (m + 1) (l.drop k) = if l[k] = x then runB x m (l.drop (k + 1)) + 1 else 0 := by
  rw [List.drop_eq_getElem_cons h]
  rfl
theorem runOf_pos {l : List UInt8} (h : l ≠ []) : 1 ≤ runOf l := by
  cases l with
  | nil => exact absurd rfl h
  | cons y l =>
    show 1 ≤ runB y (128 + 1) (y :: l)
    unfold runB
    rw [if_pos rfl]
    omega
theorem runOf_le (l : List UInt8) : runOf l ≤ 129 ∧ runOf l ≤ l.length := runB_le ..
/-- how many bytes go on without a run of three, at most m -/
def litB : Nat → List UInt8 → Nat
  | 0, _ => 0
  | _ + 1, [] => 0
  | m + 1, y :: l => if 3 ≤ runOf (y :: l) then 0 else litB m l + 1
theorem litB_le : ∀ (m : Nat) (l : List UInt8), litB m l ≤ m ∧ litB m l ≤ l.length
  | 0, _ => ⟨Nat.le_refl _, Nat.zero_le _⟩
  | _ + 1, [] => ⟨Nat.zero_le _, Nat.zero_le _⟩
  | m + 1, y :: l => by
    have := litB_le m l
    unfold litB
    split
    · omega
    · simp only [List.length_cons]; omega
theorem litB_end (m : Nat) {l : List UInt8} {k : Nat} (h : l.length ≤ k) : litB m (l.drop k) = 0 := by
  rw [List.drop_eq_nil_of_le h]
  cases m <;> rfl
theorem litB_step (m : Nat) {l : List UInt8} {k : Nat} (h : k < l.length) : litB (m + 1) (l.drop k) = if 3 ≤ runOf (l.drop k) then 0 else litB m (l.drop (k + 1)) + 1 := by
  rw [List.drop_eq_getElem_cons h]
  rfl
/-- how many bytes are laid as they are -/
def litOf (l : List UInt8) : Nat := 1 + litB 127 (l.drop 1)
theorem litOf_le {l : List UInt8} (h : l ≠ []) : 1 ≤ litOf l ∧ litOf l ≤ 128 ∧ litOf l ≤ l.length := by
  have := litB_le 127 (l.drop 1)
  have h1 : 0 < l.length := List.length_pos_iff.2 h
  rw [List.length_drop] at this
  unfold litOf
  omega
/-- the packed form -/
def packB (l : List UInt8) : List UInt8 :=
  if h : l = [] then [] else
  if h3 : 3 ≤ runOf l then UInt8.ofNat (126 + runOf l) :: l.headD 0 :: packB (l.drop (runOf l))
  else UInt8.ofNat (litOf l - 1) :: (l.take (litOf l) ++ packB (l.drop (litOf l)))
termination_by l.length
decreasing_by
  · have h1 : 0 < l.length := List.length_pos_iff.2 h
    rw [List.length_drop]; omega
  · have h1 : 0 < l.length := List.length_pos_iff.2 h
    have := litOf_le h
    rw [List.length_drop]; omega
theorem packB_nil : packB [] = [] := by rw [packB, dif_pos rfl]
theorem packB_run {l : List UInt8} (h : 3 ≤ runOf l) : packB l = UInt8.ofNat (126 + runOf l) :: l.headD 0 :: packB (l.drop (runOf l)) := by
  have hl : l ≠ [] := fun e => by rw [e] at h; exact absurd h (by decide)
  conv => lhs; rw [packB]
  rw [dif_neg hl, dif_pos h]
theorem packB_lit {l : List UInt8} (hl : l ≠ []) (h : runOf l < 3) : packB l = UInt8.ofNat (litOf l - 1) :: (l.take (litOf l) ++ packB (l.drop (litOf l))) := by
  conv => lhs; rw [packB]
  rw [dif_neg hl, dif_neg (by omega)]
/-- what a packed form holds -/
def decB (l : List UInt8) : Option (List UInt8) := match l with
  | [] => some []
  | c :: r =>
    if 129 ≤ c.toNat ∧ 0 < r.length then (decB (r.drop 1)).map (List.replicate (c.toNat - 126) (r.headD 0) ++ ·)
    else if c.toNat < 128 ∧ c.toNat < r.length then (decB (r.drop (c.toNat + 1))).map (r.take (c.toNat + 1) ++ ·) else none
termination_by l.length
decreasing_by
  · rw [List.length_drop, List.length_cons]; omega
  · rw [List.length_drop, List.length_cons]; omega
theorem decB_nil : decB [] = some [] := by rw [decB]
theorem decB_cons (c : UInt8) (r : List UInt8) : decB (c :: r) = if 129 ≤ c.toNat ∧ 0 < r.length then (decB (r.drop 1)).map (List.replicate (c.toNat - 126) (r.headD 0) ++ ·)
    else if c.toNat < 128 ∧ c.toNat < r.length then (decB (r.drop (c.toNat + 1))).map (r.take (c.toNat + 1) ++ ·) else none := by
  conv => lhs; rw [decB]
theorem decB_packB : ∀ (n : Nat) (l : List UInt8), l.length < n → decB (packB l) = some l
  | 0, _, h => absurd h (Nat.not_lt_zero _)
  | n + 1, l, hn => by
    by_cases hl : l = []
    · rw [hl, packB_nil, decB_nil]
    have h1 : 0 < l.length := List.length_pos_iff.2 hl
    by_cases h3 : 3 ≤ runOf l
    · have hr := runOf_le l
      have hc : (UInt8.ofNat (126 + runOf l)).toNat = 126 + runOf l := by rw [UInt8.toNat_ofNat']; omega
      rw [packB_run h3, decB_cons, if_pos ⟨by omega, by simp⟩, List.drop_one, List.tail_cons, decB_packB n _ (by rw [List.length_drop]; omega), hc]
      show some (List.replicate (126 + runOf l - 126) (l.headD 0) ++ l.drop (runOf l)) = some l
      rw [show 126 + runOf l - 126 = runOf l by omega]
      have := runB_take (l.headD 0) 129 l
      rw [show runB (l.headD 0) 129 l = runOf l from rfl] at this
      rw [← this, List.take_append_drop]
    · have hk := litOf_le hl
      have hc : (UInt8.ofNat (litOf l - 1)).toNat = litOf l - 1 := by rw [UInt8.toNat_ofNat']; omega
      have htl : (l.take (litOf l)).length = litOf l := by rw [List.length_take]; omega
      rw [packB_lit hl (by omega), decB_cons, if_neg (by omega), hc, if_pos ⟨by omega, by rw [List.length_append]; omega⟩, show litOf l - 1 + 1 = litOf l by omega]
      rw [List.drop_left' htl, List.take_left' htl, decB_packB n _ (by rw [List.length_drop]; omega)]
      show some (l.take (litOf l) ++ l.drop (litOf l)) = some l
      rw [List.take_append_drop]
/-- the bytes of a packed form, if it is the one that is made of them -/
def unpB (l : List UInt8) (size : Nat) : Option (List UInt8) := match decB l with
  | none => none
  | some o => if o.length = size ∧ packB o = l then some o else none
theorem unpB_iff {l : List UInt8} {size : Nat} {o : List UInt8} : unpB l size = some o ↔ o.length = size ∧ packB o = l := by
  unfold unpB
  constructor
  · intro h
    cases hd : decB l with
    | none => rw [hd] at h; cases h
    | some y =>
      rw [hd] at h
      dsimp only at h
      split at h
      · cases h; assumption
      · cases h
  · rintro ⟨h1, rfl⟩
    rw [decB_packB _ o (Nat.lt_succ_self _)]
    dsimp only
    rw [if_pos ⟨h1, rfl⟩]
/-- the packed form of bytes of which the first ones are held back -/
def packP (L X : List UInt8) : List UInt8 := if L = [] then packB X else UInt8.ofNat (L.length + litB (128 - L.length) X - 1) :: (L ++ X.take (litB (128 - L.length) X) ++ packB (X.drop (litB (128 - L.length) X)))
theorem packP_nil (X : List UInt8) : packP [] X = packB X := by unfold packP; rw [if_pos rfl]
theorem packP_flush {L X : List UInt8} (hL : L ≠ []) (h : L.length = 128 ∨ X = [] ∨ 3 ≤ runOf X) (h8 : L.length ≤ 128) : packP L X = UInt8.ofNat (L.length - 1) :: (L ++ packB X) := by
  have e : litB (128 - L.length) X = 0 := by
    rcases h with h | h | h
    · rw [h]; rfl
    · rw [h]
      exact litB_end _ (l := []) (k := 0) (Nat.le_refl _)
    · cases X with
      | nil => exact litB_end _ (l := []) (k := 0) (Nat.le_refl _)
      | cons x X =>
        cases 128 - L.length with
        | zero => rfl
        | succ m => unfold litB; rw [if_pos h]
  unfold packP
  rw [if_neg hL, e]
  simp
theorem packP_step {L : List UInt8} {x : UInt8} {X : List UInt8} (h8 : L.length < 128) (h3 : runOf (x :: X) < 3) : packP L (x :: X) = packP (L ++ [x]) X := by
  conv => rhs; unfold packP
  rw [if_neg (by simp)]
  by_cases hL : L = []
  · subst hL
    rw [packP_nil, packB_lit (by simp) h3, show litOf (x :: X) = litB 127 X + 1 from Nat.add_comm ..]
    have e : litB (128 - ([] ++ [x]).length) X = litB 127 X := rfl
    rw [e, List.take_succ_cons, List.drop_succ_cons]
    simp [Nat.add_comm]
  · unfold packP
    obtain ⟨m, hm⟩ : ∃ m, 128 - L.length = m + 1 := ⟨127 - L.length, by omega⟩
    have e : litB (128 - L.length) (x :: X) = litB m X + 1 := by rw [hm]; show (if 3 ≤ runOf (x :: X) then 0 else litB m X + 1) = _; rw [if_neg (by omega)]
    have e2 : 128 - (L ++ [x]).length = m := by rw [List.length_append, List.length_cons, List.length_nil]; omega
    rw [if_neg hL, e, e2, List.take_succ_cons, List.drop_succ_cons]
    rw [show L.length + (litB m X + 1) - 1 = (L ++ [x]).length + litB m X - 1 by rw [List.length_append, List.length_cons, List.length_nil]; omega]
    simp
end Go.Proofs.YtgnaojphgdaalaaGreat
