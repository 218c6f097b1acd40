/-
  The closure with which a converter's Explain adds a loss.
-/
import Derived.Test.YtffaffojkfalhaaGreatDoorCnvL
import Derived.Test.YtffaffojkfalhaaGreatDoorVcQ
namespace Go.Proofs.YtffaffojkfalhaaGreatDoor
open Go Go.RowKit

theorem loss_cells (x : LossD) : ∀ u ∈ lossC x, u.oneCell' = true := by
  intro u hu
  simp only [lossC, List.mem_cons, List.not_mem_nil, or_false] at hu
  rcases hu with rfl | rfl <;> rfl
def addIf (L : List LossD) (b : Bool) (x : LossD) : List LossD := if b = true then L ++ [x] else L
theorem addIf_len (L : List LossD) (b : Bool) (x : LossD) : (addIf L b x).length ≤ L.length + 1 := by
  unfold addIf
  split <;> simp
theorem addIf_le {L : List LossD} {b : Bool} {x : LossD} {k : Nat} (h : L.length ≤ k) : (addIf L b x).length ≤ k + 1 := Nat.le_trans (addIf_len L b x) (Nat.succ_le_succ h)
end Go.Proofs.YtffaffojkfalhaaGreatDoor
namespace Go.Proofs.YtffaffojkfalhaaGreatDoor
open Go Go.RowKit

noncomputable instance : DecidableEq Val := fun a b => Classical.propDecidable (a = b)
/-- a valid value's node and parts -/
theorem valid_node {v : Val} (h : (vfault v).1 = 0) : nodeCode v = 0 ∧ ∀ p ∈ v.parts, nodeCode p = 0 := by
  unfold vfault at h
  split at h
  · rename_i e he
    exact absurd h (scan_error he)
  · rename_i m he
    have key : ∀ {d n m : Nat} {v : Val}, chk d v n = .ok m → nodeCode v = 0 := by
      intro d n m v h
      rw [chk_eq] at h
      split at h
      · cases h
      · rename_i h0
        have h0 := Decidable.not_not.1 h0
        unfold atCode at h0
        split at h0
        · cases h0
        · exact h0
    refine ⟨key he, fun p hp => ?_⟩
    obtain ⟨_, _, _, _, _, _, _, h8⟩ := chk_ok he
    obtain ⟨a, b, h9⟩ := chkL_all h8 p hp
    exact key h9
theorem valid_rec {v : Val} (h : (vfault v).1 = 0) (h4 : v.kind = 4) : v.names.length = v.parts.length ∧ v.num = 0 ∧ v.bytes = [] := by
  obtain ⟨_, hf, _⟩ := nodeCode_zero (valid_node h).1
  unfold formBad at hf
  refine ⟨by omega, by omega, List.eq_nil_of_length_eq_zero (by omega)⟩
theorem valid_num {x : Val} (hx : nodeCode x = 0) (h1 : x.kind = 1) : x = .mk 1 x.num [] [] [] := by
  obtain ⟨_, hf, _⟩ := nodeCode_zero hx
  unfold formBad at hf
  exact Val.ext h1 rfl (List.eq_nil_of_length_eq_zero (by omega)) (List.eq_nil_of_length_eq_zero (by omega)) (List.eq_nil_of_length_eq_zero (by omega))
theorem valid_byt {x : Val} (hx : nodeCode x = 0) (h1 : x.kind = 2) : x = .mk 2 0 x.bytes [] [] := by
  obtain ⟨_, hf, _⟩ := nodeCode_zero hx
  unfold formBad at hf
  exact Val.ext h1 (by show x.num = 0; omega) rfl (List.eq_nil_of_length_eq_zero (by omega)) (List.eq_nil_of_length_eq_zero (by omega))
theorem enc_num (n : Int) : enc (.mk 1 n [] [] []) = putN 1 ++ putN n := by rw [enc_eq]; simp [Val.kind, Val.num]
theorem enc_byt (b : List UInt8) : enc (.mk 2 0 b [] []) = putN 2 ++ putC b := by rw [enc_eq]; simp [Val.kind, Val.bytes]
/-! ### rows -/
def allM {α β : Type} (g : α → Option β) : List α → Option (List β)
  | [] => some []
  | x :: l => match g x, allM g l with
    | some y, some ys => some (y :: ys)
    | _, _ => none
theorem allM_nil {α β : Type} (g : α → Option β) : allM g [] = some [] := rfl
theorem allM_some {α β : Type} {g : α → Option β} : ∀ {l : List α} {ys : List β}, allM g l = some ys → ys.length = l.length ∧ ∀ (i : Nat) (x : α) (y : β), l[i]? = some x → ys[i]? = some y → g x = some y
  | [], ys, h => by cases h; exact ⟨rfl, fun i x y h => by simp at h⟩
  | a :: l, ys, h => by
    unfold allM at h
    split at h
    · rename_i y ys' h1 h2
      cases h
      obtain ⟨k1, k2⟩ := allM_some h2
      refine ⟨by simp [k1], fun i x z hx hz => ?_⟩
      cases i with
      | zero => simp at hx hz; subst hx hz; exact h1
      | succ i => simp at hx hz; exact k2 i x z hx hz
    · cases h
theorem allM_of {α β : Type} {g : α → Option β} : ∀ {l : List α} {ys : List β}, ys.length = l.length → (∀ (i : Nat) (x : α) (y : β), l[i]? = some x → ys[i]? = some y → g x = some y) → allM g l = some ys
  | [], [], _, _ => rfl
  | [], _ :: _, h, _ => by simp at h
  | _ :: _, [], h, _ => by simp at h
  | a :: l, y :: ys, hl, h => by
    have h0 := h 0 a y rfl rfl
    have hr := allM_of (l := l) (ys := ys) (by simpa using hl) fun i x z hx hz => h (i + 1) x z (by simpa using hx) (by simpa using hz)
    unfold allM
    rw [h0, hr]
theorem allM_all {α β : Type} {g : α → Option β} {l : List α} {ys : List β} (h : allM g l = some ys) : ∀ x ∈ l, ∃ y, g x = some y ∧ y ∈ ys := by
  intro x hx
  obtain ⟨i, hi, rfl⟩ := List.mem_iff_getElem.1 hx
  obtain ⟨h1, h2⟩ := allM_some h
  exact ⟨ys[i]'(by omega), h2 i _ _ (List.getElem?_eq_getElem hi) (List.getElem?_eq_getElem (by omega)), List.getElem_mem _⟩
theorem allM_none {α β : Type} {g : α → Option β} : ∀ {l : List α} {x : α}, x ∈ l → g x = none → allM g l = none
  | a :: l, x, hx, h => by
    unfold allM
    rcases List.mem_cons.1 hx with rfl | hx
    · rw [h]
    · rw [allM_none hx h]
      cases g a <;> rfl
theorem allM_ex {α β : Type} {g : α → Option β} : ∀ {l : List α}, (∀ x ∈ l, g x ≠ none) → ∃ ys, allM g l = some ys
  | [], _ => ⟨[], rfl⟩
  | a :: l, h => by
    obtain ⟨ys, hys⟩ := allM_ex (l := l) fun x hx => h x (by simp [hx])
    have := h a (by simp)
    cases hg : g a with
    | none => exact absurd hg this
    | some y => exact ⟨y :: ys, by unfold allM; rw [hg, hys]⟩
theorem allM_snoc {α β : Type} {g : α → Option β} {l : List α} {ys : List β} {x : α} {y : β} (h : allM g l = some ys) (hx : g x = some y) : allM g (l ++ [x]) = some (ys ++ [y]) := by
  obtain ⟨h1, h2⟩ := allM_some h
  refine allM_of (by simp [h1]) fun i a b ha hb => ?_
  rcases Nat.lt_trichotomy i l.length with hi | hi | hi
  · rw [List.getElem?_append_left hi] at ha
    rw [List.getElem?_append_left (by omega)] at hb
    exact h2 i a b ha hb
  · subst hi
    rw [List.getElem?_append_right (Nat.le_refl _)] at ha
    rw [List.getElem?_append_right (by omega), h1] at hb
    simp at ha hb
    rw [← ha, ← hb, hx]
  · rw [List.getElem?_eq_none (by simp; omega)] at ha
    cases ha
theorem allM_rev {α β : Type} {g : α → Option β} {l : List α} {ys : List β} (h : allM g l = some ys) : allM g l.reverse = some ys.reverse := by
  obtain ⟨h1, h2⟩ := allM_some h
  refine allM_of (by simp [h1]) fun i a b ha hb => ?_
  have hi : i < l.length := by
    obtain ⟨q, _⟩ := List.getElem?_eq_some_iff.1 ha
    simpa using q
  rw [List.getElem?_reverse hi] at ha
  rw [List.getElem?_reverse (by omega), h1] at hb
  exact h2 _ a b ha hb
theorem allM_rev_none {α β : Type} {g : α → Option β} {l : List α} (h : allM g l = none) : allM g l.reverse = none := by
  cases hr : allM g l.reverse with
  | none => rfl
  | some ys =>
    have := allM_rev hr
    rw [List.reverse_reverse, h] at this
    cases this
/-- h rows of s bytes -/
def rowsN {α : Type} (s h : Nat) (l : List α) : List (List α) := (List.range h).map fun y => (l.drop (y * s)).take s
theorem rowsN_len {α : Type} (s h : Nat) (l : List α) : (rowsN s h l).length = h := by simp [rowsN]
theorem rowsN_get {α : Type} {s h : Nat} {l : List α} {y : Nat} (hy : y < h) : (rowsN s h l)[y]? = some ((l.drop (y * s)).take s) := by
  simp [rowsN, List.getElem?_map, List.getElem?_range hy]
theorem rowsN_mem {α : Type} {s h : Nat} {l : List α} (hl : l.length = h * s) {r : List α} (hr : r ∈ rowsN s h l) : r.length = s := by
  obtain ⟨y, hy, rfl⟩ := List.mem_map.1 hr
  have hy := List.mem_range.1 hy
  have : (y + 1) * s ≤ h * s := Nat.mul_le_mul_right s hy
  rw [Nat.add_mul] at this
  rw [List.length_take, List.length_drop]
  omega
theorem rowsN_flat {α : Type} {s : Nat} : ∀ {h : Nat} {l : List α}, l.length = h * s → (rowsN s h l).flatten = l
  | 0, l, hl => by rw [List.eq_nil_of_length_eq_zero (l := l) (by omega)]; rfl
  | h + 1, l, hl => by
    have e : rowsN s (h + 1) l = l.take s :: rowsN s h (l.drop s) := by
      unfold rowsN
      rw [List.range_succ_eq_map, List.map_cons, List.map_map]
      congr 1
      · simp
      · refine List.map_congr_left fun y _ => ?_
        simp only [Function.comp, List.drop_drop]
        congr 2
        rw [Nat.succ_mul]; omega
    rw [e, List.flatten_cons, rowsN_flat (by rw [List.length_drop, hl, Nat.add_mul]; omega), List.take_append_drop]
theorem flat_rows {α : Type} {s : Nat} : ∀ {R : List (List α)}, (∀ r ∈ R, r.length = s) → R.flatten.length = R.length * s ∧ rowsN s R.length R.flatten = R
  | [], _ => ⟨by simp, rfl⟩
  | r :: R, h => by
    obtain ⟨k1, k2⟩ := flat_rows (R := R) fun x hx => h x (by simp [hx])
    have h0 := h r (by simp)
    refine ⟨by rw [List.flatten_cons, List.length_append, k1, h0, List.length_cons, Nat.add_mul]; omega, ?_⟩
    unfold rowsN at k2 ⊢
    rw [List.length_cons, List.range_succ_eq_map, List.map_cons, List.map_map]
    congr 1
    · rw [Nat.zero_mul, List.drop_zero, List.flatten_cons, ← h0, List.take_left]
    · conv => rhs; rw [← k2]
      refine List.map_congr_left fun y _ => ?_
      simp only [Function.comp]
      rw [Nat.succ_mul, List.flatten_cons, Nat.add_comm, ← List.drop_drop, ← h0, List.drop_left]
theorem flatten_rev_len {α : Type} {R : List (List α)} : R.reverse.flatten.length = R.flatten.length := by
  simp [List.length_flatten, List.sum_reverse]
theorem valid_count {v : Val} (h : (vfault v).1 = 0) : v.parts.length ≤ 600 := (nodeCode_zero (valid_node h).1).2.2.1
theorem allM_step {α β : Type} {g : α → Option β} {l : List α} {k : Nat} {R : List β} {y : β} (hk : k < l.length) (h : allM g (l.take k) = some R) (hy : g l[k] = some y) : allM g (l.take (k + 1)) = some (R ++ [y]) := by
  rw [List.take_succ_eq_append_getElem hk]
  exact allM_snoc h hy
end Go.Proofs.YtffaffojkfalhaaGreatDoor
