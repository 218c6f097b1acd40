/-
  Pictures, the reference: runs, packing.
-/
import Derived.Test.YtgnaojphgdaalaaGreatPicA
namespace Go.Proofs.YtgnaojphgdaalaaGreat
open Go Go.RowKit

theorem runOf_stepAt {l : List UInt8} {a k : Nat} (hk : a + k < l.length) (h9 : k < 129) (h : runOf (l.drop a) = k + runB ((l.drop a).headD 0) (129 - k) (l.drop (a + k))) : runOf (l.drop a) = if l[a + k].toNat = (l[a]'(by omega)).toNat then k + 1 + runB ((l.drop a).headD 0) (129 - (k + 1)) (l.drop (a + (k + 1))) else k := by
  have := runOf_step (l := l.drop a) (k := k) (by rw [List.length_drop]; omega) h9 (by rw [List.drop_drop]; exact h)
  simp only [List.getElem_drop, List.drop_drop, Nat.add_zero] at this
  exact this
section
variable {V W : World}
set_option maxRecDepth 100000 in
theorem equal_ref (hV : Sub V W) {s : Sl} {l : List UInt8} (hs : Byt V s l) (hl : l.length ≤ 1099511627776) {a : Nat} (ha : a < l.length) : Ret Tryz.prog 56 [s.v, iv (a : Int)].toArray W fun v w' => v = iv ((runOf (l.drop a) : Nat) : Int) ∧ Rel W V [] V w' := by
  have H := Rel.start hV
  have hlen := hs.len
  refine cal_of_vc tabOk Tryz.func56 rfl (by kernel_rfl) 32 rfl (by simp) [0, 1, 4, 5, 28] ?_
  (first | (refine H.wg ?_; clear H; intros; rename_i w H; constructor) | refine wk ?_)
  refine loop_inv (S := Nat) tabOk [0, 1, 4] (fun k => [(0, s.v), (1, iv a), (5, iv k)]) (fun k w' => a + k ≤ l.length ∧ k ≤ 129 ∧ runOf (l.drop a) = k + runB ((l.drop a).headD 0) (129 - k) (l.drop (a + k)) ∧ Rel W V [] V w') (fun k _ => l.length - k) 0 ?_
  (conv => whnf)
  refine ⟨(by repeat (first | exact trivial | refine ⟨rfl, ?_⟩)), ⟨by omega, by omega, by show runOf (l.drop a) = 0 + runB ((l.drop a).headD 0) 129 (l.drop (a + 0)); rw [Nat.zero_add]; rfl, H⟩, ?_⟩
  clear H
  rintro k w ⟨hk, h9, hr, H⟩
  have hci : (a : Int) + (k : Int) = ((a + k : Nat) : Int) := (Int.natCast_add a k).symm
  by_cases h129 : k < 129
  rotate_left
  · rw [show 129 - k = 0 by omega] at hr
    simp only [runB] at hr
    (first | (refine H.wg ?_; clear H; intros; rename_i w H; constructor) | refine wk ?_)
    ((first | refine draw_vc (id := 2) tabOk mixed [] [0, 1, 2, 3, 4, 5, 6, 7, 8, 9, 10, 11, 12, 13, 14, 15, 16, 17, 18, 19, 20, 21, 22] (by kernel_rfl) ?_); intro w hdw; replace H := Rel.ext H hdw.ext)
    (first | (refine H.wg ?_; clear H; intros; rename_i w H; constructor) | refine wk ?_)
    exact ⟨congrArg (fun n : Nat => iv n) (hr.trans (Nat.add_zero k)).symm, H.sx⟩
  by_cases hlt : a + k < l.length
  rotate_left
  · rw [runB_end _ _ (by omega)] at hr
    (first | (refine H.wg ?_; clear H; intros; rename_i w H; constructor) | refine wk ?_)
    ((first | refine draw_vc (id := 2) tabOk mixed [] [0, 1, 2, 3, 4, 5, 6, 7, 8, 9, 10, 11, 12, 13, 14, 15, 16, 17, 18, 19, 20, 21, 22] (by kernel_rfl) ?_); intro w hdw; replace H := Rel.ext H hdw.ext)
    (first | (refine H.wg ?_; clear H; intros; rename_i w H; constructor) | refine wk ?_)
    exact ⟨congrArg (fun n : Nat => iv n) (hr.trans (Nat.add_zero k)).symm, H.sx⟩
  have hr := runOf_stepAt hlt h129 hr
  obtain ⟨p1, c1⟩ := hs.at1 (g := bv) (fun _ => rfl) hlt
  obtain ⟨p0, c0⟩ := hs.at1 (g := bv) (fun _ => rfl) ha
  by_cases he : l[a + k].toNat = l[a].toNat
  · rw [if_pos he] at hr
    (first | (refine H.wg ?_; clear H; intros; rename_i w H; constructor) | refine wk ?_)
    ((first | refine draw_vc (id := 2) tabOk mixed [] [0, 1, 2, 3, 4, 5, 6, 7, 8, 9, 10, 11, 12, 13, 14, 15, 16, 17, 18, 19, 20, 21, 22] (by kernel_rfl) ?_); intro w hdw; replace H := Rel.ext H hdw.ext)
    (first | (refine H.wg ?_; clear H; intros; rename_i w H; constructor) | refine wk ?_)
    exact ⟨(by repeat (first | exact trivial | refine ⟨rfl, ?_⟩)), k + 1, (by repeat (first | exact trivial | refine ⟨rfl, ?_⟩)), ⟨by omega, by omega, hr, H⟩, by omega⟩
  · rw [if_neg he] at hr
    (first | (refine H.wg ?_; clear H; intros; rename_i w H; constructor) | refine wk ?_)
    ((first | refine draw_vc (id := 2) tabOk mixed [] [0, 1, 2, 3, 4, 5, 6, 7, 8, 9, 10, 11, 12, 13, 14, 15, 16, 17, 18, 19, 20, 21, 22] (by kernel_rfl) ?_); intro w hdw; replace H := Rel.ext H hdw.ext)
    (first | (refine H.wg ?_; clear H; intros; rename_i w H; constructor) | refine wk ?_)
    exact ⟨congrArg (fun n : Nat => iv n) hr.symm, H.sx⟩
/- what is held back is laid: $1 = what is to come -/
theorem lit_cellsI {n x : Nat} (h1 : 1 ≤ n) (h2 : n ≤ 128) (hx : x = n) : [Value.int .u8 (wr .u8 ((x : Int) - 1))] = [UInt8.ofNat (n - 1)].flatMap byC := by rw [hx]; exact lit_cells h1 h2
set_option maxRecDepth 100000 in
theorem packed_ref (hV : Sub V W) {s : Sl} {l : List UInt8} (hs : Byt V s l) (hl : l.length ≤ 100000000) : Ret Tryz.prog 30 [s.v].toArray W fun v w' => ∃ r : Sl, v = r.v ∧ Rel W V [.row r 5 1 ((packB l).flatMap byC)] V w' := by
  have H := Rel.start hV
  have hlen := hs.len
  refine cal_of_vc tabOk Tryz.func30 rfl (by kernel_rfl) 72 rfl (by simp) [0, 2, 3, 4, 5, 6, 10, 25, 36, 61] ?_
  (first | (refine H.wg ?_; clear H; intros; rename_i w H; constructor) | refine wk ?_)
  replace H := (H.rowNil 5 1).rowNil 5 1
  refine loop_inv (S := Nat × Sl × List UInt8 × Sl × List UInt8) tabOk [0, 2, 61] (fun k => [(0, s.v), (3, k.2.1.v), (4, k.2.2.2.1.v), (5, iv k.1)]) (fun k w' => k.1 ≤ l.length ∧ packB l = k.2.2.1 ++ packP k.2.2.2.2 (l.drop k.1) ∧ k.2.2.2.2.length ≤ 128 ∧ k.2.2.1.length + 2 * k.2.2.2.2.length ≤ 2 * k.1 ∧ Rel W V [.row k.2.2.2.1 5 1 (k.2.2.2.2.flatMap byC), .row k.2.1 5 1 (k.2.2.1.flatMap byC)] V w') (fun k _ => 2 * (l.length - k.1) + min 1 k.2.2.2.2.length) (0, ⟨none, 0, 0⟩, [], ⟨none, 0, 0⟩, []) ?_
  (conv => whnf)
  refine ⟨(by repeat (first | exact trivial | refine ⟨rfl, ?_⟩)), ⟨by simp, by simp [packP_nil], by simp, by simp, H⟩, ?_⟩
  clear H
  rintro ⟨p, ro, O, rl, L⟩ w ⟨hp, hpk, hL8, hO, H⟩
  dsimp only at hp hpk hL8 hO H ⊢
  have hrl : rl.len = L.length := H.rowLen (i := 0) rfl (fun _ => rfl) (by decide)
  by_cases hlt : p < l.length
  rotate_left
  · rw [List.drop_eq_nil_of_le (by omega)] at hpk
    by_cases hL : L = []
    · subst hL
      rw [packP_nil, packB_nil, List.append_nil] at hpk
      rw [List.length_nil] at hrl
      (first | (refine H.wg ?_; clear H; intros; rename_i w H; constructor) | refine wk ?_)
      exact ⟨ro, rfl, by rw [hpk]; exact H.sx⟩
    · have hLp : 0 < L.length := List.length_pos_iff.2 hL
      rw [packP_flush hL (.inr (.inl rfl)) hL8, packB_nil, List.append_nil] at hpk
      (first | (refine H.wg ?_; clear H; intros; rename_i w H; constructor) | refine wk ?_)
      replace H := H.blkEq (lit_cellsI (n := L.length) (x := rl.len) (by omega) (by omega) hrl)
      replace H := H.toRow (n := 1) (e := 5) (sz := 1) rfl (by simp [maxLen])
      refine Rel.appB H (i := 1) rfl (by simp only [List.length_cons, List.length_nil]; omega) ?_
      clear H
      intro r1 w H
      simp only [List.set_cons_succ, List.set_cons_zero] at H
      (first | (refine H.wg ?_; clear H; intros; rename_i w H; constructor) | refine wk ?_)
      refine Rel.appB H (i := 0) rfl (by simp only [List.length_append, List.length_cons, List.length_nil]; omega) ?_
      clear H
      intro r2 w H
      simp only [List.set_cons_zero] at H
      (first | (refine H.wg ?_; clear H; intros; rename_i w H; constructor) | refine wk ?_)
      exact ⟨r2, rfl, by rw [hpk]; simpa using H⟩
  (first | (refine H.wg ?_; clear H; intros; rename_i w H; constructor) | refine wk ?_)
  refine (equal_ref H.data hs (by omega) hlt).use ?_
  rintro v w ⟨rfl, K⟩
  (have hKb := K.base; replace H := H.call0 K)
  have hr := runOf_le (l.drop p)
  rw [List.length_drop] at hr
  have hX : l.drop p = l[p] :: l.drop (p + 1) := List.drop_eq_getElem_cons hlt
  obtain ⟨p0, c0⟩ := hs.at1 (g := bv) (fun _ => rfl) hlt
  by_cases hfl : L.length = 128 ∨ (3 ≤ runOf (l.drop p) ∧ 0 < L.length)
  · have hLp : 0 < L.length := by omega
    have hL : L ≠ [] := List.length_pos_iff.1 hLp
    rw [packP_flush hL (hfl.elim .inl fun h => .inr (.inr h.1)) hL8] at hpk
    by_cases h128 : L.length = 128
    · (first | (refine H.wg ?_; clear H; intros; rename_i w H; constructor) | refine wk ?_)
      replace H := H.blkEq (lit_cellsI (n := L.length) (x := rl.len) (by omega) (by omega) hrl)
      replace H := H.toRow (n := 1) (e := 5) (sz := 1) rfl (by simp [maxLen])
      refine Rel.appB H (i := 1) rfl (by simp only [List.length_cons, List.length_nil]; omega) ?_
      clear H
      intro r1 w H
      simp only [List.set_cons_succ, List.set_cons_zero] at H
      (first | (refine H.wg ?_; clear H; intros; rename_i w H; constructor) | refine wk ?_)
      refine Rel.appB H (i := 0) rfl (by simp only [List.length_append, List.length_cons, List.length_nil]; omega) ?_
      clear H
      intro r2 w H
      simp only [List.set_cons_zero] at H
      (first | (refine H.wg ?_; clear H; intros; rename_i w H; constructor) | refine wk ?_)
      replace H := H.rowNil 5 1
      exact ⟨(by repeat (first | exact trivial | refine ⟨rfl, ?_⟩)), (p, r2, O ++ [UInt8.ofNat (L.length - 1)] ++ L, ⟨none, 0, 0⟩, []), (by repeat (first | exact trivial | refine ⟨rfl, ?_⟩)), ⟨hp, by rw [hpk, packP_nil]; simp, by simp, by simp only [List.length_append, List.length_cons, List.length_nil]; omega, H⟩, by simp only [List.length_nil]; omega⟩
    · have h3 : 3 ≤ runOf (l.drop p) := by omega
      (first | (refine H.wg ?_; clear H; intros; rename_i w H; constructor) | refine wk ?_)
      replace H := H.blkEq (lit_cellsI (n := L.length) (x := rl.len) (by omega) (by omega) hrl)
      replace H := H.toRow (n := 1) (e := 5) (sz := 1) rfl (by simp [maxLen])
      refine Rel.appB H (i := 1) rfl (by simp only [List.length_cons, List.length_nil]; omega) ?_
      clear H
      intro r1 w H
      simp only [List.set_cons_succ, List.set_cons_zero] at H
      (first | (refine H.wg ?_; clear H; intros; rename_i w H; constructor) | refine wk ?_)
      refine Rel.appB H (i := 0) rfl (by simp only [List.length_append, List.length_cons, List.length_nil]; omega) ?_
      clear H
      intro r2 w H
      simp only [List.set_cons_zero] at H
      (first | (refine H.wg ?_; clear H; intros; rename_i w H; constructor) | refine wk ?_)
      replace H := H.rowNil 5 1
      exact ⟨(by repeat (first | exact trivial | refine ⟨rfl, ?_⟩)), (p, r2, O ++ [UInt8.ofNat (L.length - 1)] ++ L, ⟨none, 0, 0⟩, []), (by repeat (first | exact trivial | refine ⟨rfl, ?_⟩)), ⟨hp, by rw [hpk, packP_nil]; simp, by simp, by simp only [List.length_append, List.length_cons, List.length_nil]; omega, H⟩, by simp only [List.length_nil]; omega⟩
  by_cases h3 : 3 ≤ runOf (l.drop p)
  · have hL0 : L.length = 0 := by omega
    obtain rfl := List.eq_nil_of_length_eq_zero hL0
    rw [packP_nil, packB_run h3, List.drop_drop] at hpk
    (first | (refine H.wg ?_; clear H; intros; rename_i w H; constructor) | refine wk ?_)
    replace H := H.blkEq (pack_cells hr.1 (y := l[p]) (X := l.drop p) (by rw [hX]; rfl))
    replace H := H.toRow (n := 2) (e := 5) (sz := 1) rfl (by simp [maxLen])
    refine Rel.appB H (i := 1) rfl (by simp only [List.length_cons, List.length_nil] at hO ⊢; omega) ?_
    clear H
    intro r1 w H
    simp only [List.set_cons_succ, List.set_cons_zero] at H
    (first | (refine H.wg ?_; clear H; intros; rename_i w H; constructor) | refine wk ?_)
    exact ⟨(by repeat (first | exact trivial | refine ⟨rfl, ?_⟩)), (p + runOf (l.drop p), r1, O ++ [UInt8.ofNat (126 + runOf (l.drop p)), (l.drop p).headD 0], rl, []), (by repeat (first | exact trivial | refine ⟨rfl, ?_⟩)), ⟨by dsimp only; omega, by rw [hpk, packP_nil]; simp, by simp, by simp only [List.length_append, List.length_cons, List.length_nil] at hO ⊢; omega, H⟩, by simp only [List.length_nil]; omega⟩
  · have hL7 : L.length < 128 := by omega
    rw [hX, packP_step hL7 (by rw [← hX]; omega)] at hpk
    (first | (refine H.wg ?_; clear H; intros; rename_i w H; constructor) | refine wk ?_)
    replace H := H.toRow (n := 1) (e := 5) (sz := 1) rfl (by simp [maxLen])
    have H0 : Rel W V (.row _ 5 1 ([l[p]].flatMap byC) :: _) V w := H
    refine Rel.appB H0 (i := 0) rfl (by simp only [List.length_cons, List.length_nil]; omega) ?_
    clear H H0
    intro r1 w H
    simp only [List.set_cons_zero] at H
    (first | (refine H.wg ?_; clear H; intros; rename_i w H; constructor) | refine wk ?_)
    exact ⟨(by repeat (first | exact trivial | refine ⟨rfl, ?_⟩)), (p + 1, ro, O, r1, L ++ [l[p]]), (by repeat (first | exact trivial | refine ⟨rfl, ?_⟩)), ⟨by dsimp only; omega, hpk, by simp; omega, by simp only [List.length_append, List.length_cons, List.length_nil]; omega, H⟩, by simp only [List.length_append, List.length_cons, List.length_nil]; omega⟩
end
end Go.Proofs.YtgnaojphgdaalaaGreat
namespace Go.Proofs.YtgnaojphgdaalaaGreat
open Go Go.RowKit

/-- what the reference reads of a packed form, behind the bytes acc, at most most bytes -/
def decR (most : Nat) (acc l : List UInt8) : Option (List UInt8) := match l with
  | [] => some acc
  | c :: r =>
    if c.toNat < 128 then (if r.length < c.toNat + 1 then none else if most < (acc ++ r.take (c.toNat + 1)).length then none else decR most (acc ++ r.take (c.toNat + 1)) (r.drop (c.toNat + 1)))
    else if r.length = 0 then none else if most < (acc ++ List.replicate (c.toNat - 126) (r.headD 0)).length then none else decR most (acc ++ List.replicate (c.toNat - 126) (r.headD 0)) (r.drop 1)
termination_by l.length
decreasing_by
  · rw [List.length_drop, List.length_cons]; omega
  · rw [List.length_drop, List.length_cons]; omega
theorem decR_nil (m : Nat) (a : List UInt8) : decR m a [] = some a := by rw [decR]
theorem decR_cons (m : Nat) (acc : List UInt8) (c : UInt8) (r : List UInt8) : decR m acc (c :: r) = if c.toNat < 128 then (if r.length < c.toNat + 1 then none else if m < (acc ++ r.take (c.toNat + 1)).length then none else decR m (acc ++ r.take (c.toNat + 1)) (r.drop (c.toNat + 1)))
    else if r.length = 0 then none else if m < (acc ++ List.replicate (c.toNat - 126) (r.headD 0)).length then none else decR m (acc ++ List.replicate (c.toNat - 126) (r.headD 0)) (r.drop 1) := by
  conv => lhs; rw [decR]
theorem decR_packB (m : Nat) : ∀ (n : Nat) (acc l : List UInt8), l.length < n → acc.length + l.length ≤ m → decR m acc (packB l) = some (acc ++ l)
  | 0, _, _, h, _ => absurd h (Nat.not_lt_zero _)
  | n + 1, acc, l, hn, hm => by
    by_cases hl : l = []
    · rw [hl, packB_nil, decR_nil, List.append_nil]
    have h1 : 0 < l.length := List.length_pos_iff.2 hl
    by_cases h3 : 3 ≤ runOf l
    · have hr := runOf_le l
      have hc : (UInt8.ofNat (126 + runOf l)).toNat = 126 + runOf l := by rw [UInt8.toNat_ofNat']; omega
      have ht := runB_take (l.headD 0) 129 l
      rw [show runB (l.headD 0) 129 l = runOf l from rfl] at ht
      rw [packB_run h3, decR_cons, if_neg (by omega), if_neg (by simp), hc, show 126 + runOf l - 126 = runOf l by omega, List.headD_cons, ← ht, if_neg (by rw [List.length_append, List.length_take]; omega), List.drop_one, List.tail_cons, decR_packB m n _ _ (by rw [List.length_drop]; omega) (by rw [List.length_append, List.length_take, List.length_drop]; omega), List.append_assoc, List.take_append_drop]
    · have hk := litOf_le hl
      have hc : (UInt8.ofNat (litOf l - 1)).toNat = litOf l - 1 := by rw [UInt8.toNat_ofNat']; omega
      have htl : (l.take (litOf l)).length = litOf l := by rw [List.length_take]; omega
      rw [packB_lit hl (by omega), decR_cons, hc, if_pos (by omega), if_neg (by rw [List.length_append]; omega), show litOf l - 1 + 1 = litOf l by omega, List.take_left' htl, List.drop_left' htl, if_neg (by rw [List.length_append]; omega), decR_packB m n _ _ (by rw [List.length_drop]; omega) (by rw [List.length_append, List.length_drop]; omega), List.append_assoc, List.take_append_drop]
section
variable {V W : World}
structure UnpR (W V : World) (o : Option (List UInt8)) (v : Value) (w' : World) : Prop where
  ex : ∃ (V' : World) (r : Sl), Sub V V' ∧ Rel W V [] V' w' ∧ (match o with
    | none => v = .tuple #[.slice none 0 0, .bool false]
    | some o => v = .tuple #[r.v, .bool true] ∧ Byt V' r o)
end
end Go.Proofs.YtgnaojphgdaalaaGreat
