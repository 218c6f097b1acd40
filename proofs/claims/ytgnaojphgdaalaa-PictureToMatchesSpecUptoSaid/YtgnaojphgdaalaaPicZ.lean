/-
  Pictures, the reference: To.
-/
import Derived.Test.YtgnaojphgdaalaaPicY
namespace Go.Proofs.Ytgnaojphgdaalaa
open Go Go.RowKit

theorem rowsPx_turn (f : Nat) (pal : List Col) (w h : Nat) (b : List UInt8) : rowsPx f pal w h b = (allM (rowPix f pal w) (turn f (rowsN (rowOf f w) h b))).map List.flatten := by
  unfold rowsPx
  cases hr : allM (rowPix f pal w) (rowsN (rowOf f w) h b) with
  | some R => rw [allM_turn f hr]; rfl
  | none =>
    cases ht : allM (rowPix f pal w) (turn f (rowsN (rowOf f w) h b)) with
    | none => rfl
    | some R =>
      have := allM_turn f ht
      rw [turn_turn, hr] at this
      cases this
theorem turn_get {f : Nat} {pal : List Col} {w h : Nat} {d : List UInt8} {y : Nat} (hy : y < h) (hd : d.length = h * rowOf f w) : ∃ a, a < h ∧ (a : Int) = (if f % 2 = 1 then (h : Int) - 1 - y else y) ∧ (turn f (rowsN (rowOf f w) h d))[y]? = some ((d.drop (a * rowOf f w)).take (rowOf f w)) := by
  unfold turn
  split
  · refine ⟨h - 1 - y, by omega, by omega, ?_⟩
    rw [List.getElem?_reverse (by rw [rowsN_len]; exact hy), rowsN_len, rowsN_get (by omega)]
  · exact ⟨y, hy, rfl, rowsN_get hy⟩
/-- rows as they are stored: what the reference does -/
theorem rowsB_ref {f size : Nat} {B : List UInt8} (h2 : f / 2 % 2 = 1) : (decR size [] B = none → rowsB f size B = none) ∧ ∀ d, decR size [] B = some d → (packB d ≠ B → rowsB f size B = none) ∧ (packB d = B → rowsB f size B = if d.length = size then some d else none) := by
  unfold rowsB
  rw [if_pos h2]
  have key : ∀ o, unpB B size = some o → o.length = size ∧ packB o = B ∧ decR size [] B = some o := fun o ho => by
    obtain ⟨a1, a2⟩ := unpB_iff.1 ho
    refine ⟨a1, a2, ?_⟩
    have := decR_packB size (o.length + 1) [] o (by omega) (by simp; omega)
    rwa [a2, List.nil_append] at this
  refine ⟨fun h => ?_, fun d h => ⟨fun hp => ?_, fun hp => ?_⟩⟩
  · cases hu : unpB B size with
    | none => rfl
    | some o => have := (key o hu).2.2; rw [h] at this; cases this
  · cases hu : unpB B size with
    | none => rfl
    | some o =>
      obtain ⟨_, k2, k3⟩ := key o hu
      rw [h] at k3
      cases k3
      exact absurd k2 hp
  · split
    · rename_i hl
      exact unpB_iff.2 ⟨hl, hp⟩
    · rename_i hl
      cases hu : unpB B size with
      | none => rfl
      | some o =>
        obtain ⟨k1, _, k3⟩ := key o hu
        rw [h] at k3
        cases k3
        exact absurd k1 hl
theorem decR_len (m : Nat) : ∀ (n : Nat) {acc l o : List UInt8}, l.length ≤ n → decR m acc l = some o → o.length ≤ m ∨ o = acc
  | 0, acc, l, o, hl, h => by
    have : l = [] := List.eq_nil_of_length_eq_zero (by omega)
    subst this
    rw [decR_nil] at h
    exact .inr (Option.some.inj h).symm
  | n + 1, acc, [], o, hl, h => by
    rw [decR_nil] at h
    exact .inr (Option.some.inj h).symm
  | n + 1, acc, c :: r, o, hl, h => by
    have hr : r.length ≤ n := by simpa using hl
    rw [decR_cons] at h
    have key : ∀ (a k : List UInt8), k.length ≤ n → ¬ m < a.length → decR m a k = some o → o.length ≤ m ∨ o = acc := by
      intro a k hk ha hd
      rcases decR_len m n hk hd with h | h
      · exact .inl h
      · left; rw [h]; omega
    split at h
    · split at h
      · cases h
      · split at h
        · cases h
        · rename_i h3
          exact key _ _ (by rw [List.length_drop]; omega) h3 h
    · split at h
      · cases h
      · split at h
        · cases h
        · rename_i h3
          exact key _ _ (by rw [List.length_drop]; omega) h3 h
theorem colG_len {f : Nat} {pal : List Col} {row c : List UInt8} {x : Nat} (h : colG f pal row x = some c) : c.length = 3 := by
  unfold colG at h
  split at h
  · cases h; rfl
  · split at h
    · cases h; rfl
    · split at h
      · cases h; rfl
      · cases h
theorem cols_len {f : Nat} {pal : List Col} {row : List UInt8} {x : Nat} {cs : List (List UInt8)} (h : allM (colG f pal row) (List.range x) = some cs) : cs.flatten.length = 3 * x := by
  obtain ⟨h1, h2⟩ := allM_some h
  rw [List.length_range] at h1
  have := flat_rows (s := 3) (R := cs) fun r hr => by
    obtain ⟨i, hi, rfl⟩ := List.mem_iff_getElem.1 hr
    exact colG_len (h2 i i _ (by rw [List.getElem?_range (by omega)]) (List.getElem?_eq_getElem hi))
  rw [this.1, h1, Nat.mul_comm]
theorem rows_len {f w : Nat} {pal : List Col} (hf : f < 64) (hp : PalOk f pal) {L R : List (List UInt8)} (hL : ∀ r ∈ L, r.length = rowOf f w) (hR : allM (rowPix f pal w) L = some R) : R.length = L.length ∧ R.flatten.length = L.length * (3 * w) := by
  obtain ⟨h1, h2⟩ := allM_some hR
  refine ⟨h1, ?_⟩
  rw [(flat_rows (s := 3 * w) (R := R) fun r hr => ?_).1, h1]
  obtain ⟨i, hi, rfl⟩ := List.mem_iff_getElem.1 hr
  have hy : L[i]? = some (L[i]'(by omega)) := List.getElem?_eq_getElem _
  exact (wr_rowPix hf hp (hL _ (List.mem_of_getElem? hy)) (h2 i _ _ hy (List.getElem?_eq_getElem hi))).1
theorem drop_z8 {l : List UInt8} {k : Nat} (h : k < l.length) : l.drop k = z8 l k :: l.drop (k + 1) := by
  rw [List.drop_eq_getElem_cons h]
  simp [z8, h]
section
variable {V W : World}
set_option maxRecDepth 100000 in
set_option maxHeartbeats 2000000 in
theorem pctTo_ref (hV : Sub V W) {s : Sl} {l : List UInt8} (hs : Byt V s l) (hl : l.length ≤ 1000) : Ret Try.prog 12 [s.v].toArray W (ToG W V (picTo l)) := by
  have H := Rel.start hV
  have hlen := hs.len
  have hcap := hs.cap
  have hno : picFile l = none → picTo l = none := fun h => by unfold picTo; rw [h]
  refine cal_of_sem tabOk Try.func12 rfl (by kernel_rfl) 241 rfl (by simp) [0, 2, 3, 4, 5, 6, 7, 8, 9, 10, 11, 12, 13, 14, 15, 16, 17, 18, 19, 20, 21, 55, 108, 122, 140, 157, 162, 169, 187, 198, 216, 227, 231] ?_
  refine SemC.seqGo tabOk ?_
  (first | (refine H.wh ?_; clear H; intros; rename_i w H; constructor) | refine wk ?_)
  ((first | refine Rel.nwD H ?_ | refine Rel.nw H ?_); clear H; intro w b2 H)
  (first | (refine H.wg ?_; clear H; intros; rename_i w H; constructor) | refine wk ?_)
  refine SemC.seqGo tabOk ?_
  (first | (refine H.wh ?_; clear H; intros; rename_i w H; constructor) | refine wk ?_)
  ((first | refine Rel.nwD H ?_ | refine Rel.nw H ?_); clear H; intro w b5 H)
  (first | (refine H.wg ?_; clear H; intros; rename_i w H; constructor) | refine wk ?_)
  refine SemC.seqGo tabOk ?_
  by_cases h7 : l.length < 7
  · rw [hno (picFile_short (by rw [List.length_drop]; omega))]
    (first | (refine H.wg ?_; clear H; intros; rename_i w H; constructor) | refine wk ?_)
    exact ⟨V, zeroH, ⟨none, 0, 0⟩, zeroV, [], Sub.refl _, H.sx, valAt_zero _, SlF.nil _ _, rfl⟩
  have hsub := hs.sub (n := 1) (fun _ => rfl) (a := 0) (b := 4) (by omega) (by omega)
  rw [List.drop_zero] at hsub
  have hc4 := (hsub.up H.data).cells
  rw [byC_map] at hc4
  have hl4 : 4 - 0 = (l.take 4).length := by simp; omega
  have hd4 : l.drop 4 = z8 l 4 :: z8 l 5 :: z8 l 6 :: l.drop 7 := by rw [drop_z8 (show 4 < l.length by omega), drop_z8 (show 5 < l.length by omega), drop_z8 (show 6 < l.length by omega)]
  obtain ⟨p4, c4⟩ := z8_cell hs (i := 4) (by omega)
  obtain ⟨p5, c5⟩ := z8_cell hs (i := 5) (by omega)
  obtain ⟨p6, c6⟩ := z8_cell hs (i := 6) (by omega)
  have ht := hs.rest (k := 7) (by omega)
  obtain ⟨T, hT⟩ : ∃ T, T = l.drop 7 := ⟨_, rfl⟩
  have hTl : T.length = l.length - 7 := by rw [hT, List.length_drop]
  rw [← hT] at hd4 ht
  obtain ⟨x0, hx0⟩ : ∃ x0, x0 = z8 l 4 := ⟨_, rfl⟩
  obtain ⟨x1, hx1⟩ : ∃ x0, x0 = z8 l 5 := ⟨_, rfl⟩
  obtain ⟨x2, hx2⟩ : ∃ x0, x0 = z8 l 6 := ⟨_, rfl⟩
  rw [← hx0] at c4 hd4
  rw [← hx1] at c5 hd4
  rw [← hx2] at c6 hd4
  have z0 := x0.toNat_lt
  have z1 := x1.toNat_lt
  have z2 := x2.toNat_lt
  (first | (refine H.wg ?_; clear H; intros; rename_i w H; constructor) | refine wk ?_)
  refine condG_ndec (fun hp => ?_) (fun hp => ?_)
  · rw [hno (picFile_not hp)]
    (first | (refine H.wg ?_; clear H; intros; rename_i w H; constructor) | refine wk ?_)
    exact ⟨V, zeroH, ⟨none, 0, 0⟩, zeroV, [], Sub.refl _, H.sx, valAt_zero _, SlF.nil _ _, rfl⟩
  have hhd := picFile_head hp hd4
  (first | (refine H.wg ?_; clear H; intros; rename_i w H; constructor) | refine wk ?_)
  refine (flagsOk_ref x0.toNat _ z0).use ?_
  rintro v w' ⟨rfl, rfl⟩
  by_cases hk : flagOk x0.toNat ∧ sideOk x1.toNat ∧ sideOk x2.toNat
  rotate_left
  · have e : picTo l = none := hno (by rw [hhd]; unfold picHead; rw [if_neg hk])
    rw [e]
    unfold flagOk sideOk at hk
    by_cases hfo : x0.toNat < 64 ∧ x0.toNat % 16 < 4
    rotate_left
    · rw [decide_eq_false hfo]
      (first | (refine H.wg ?_; clear H; intros; rename_i w H; constructor) | refine wk ?_)
      exact ⟨V, zeroH, ⟨none, 0, 0⟩, zeroV, [], Sub.refl _, H.sx, valAt_zero _, SlF.nil _ _, rfl⟩
    rw [decide_eq_true hfo]
    (first | (refine H.wg ?_; clear H; intros; rename_i w H; constructor) | refine wk ?_)
    refine (in_ref _ _ _ _).use ?_
    rintro v w' ⟨rfl, rfl⟩
    by_cases q1 : 1 ≤ x1.toNat ∧ x1.toNat ≤ 64
    rotate_left
    · rw [decide_eq_false (by omega)]
      (first | (refine H.wg ?_; clear H; intros; rename_i w H; constructor) | refine wk ?_)
      exact ⟨V, zeroH, ⟨none, 0, 0⟩, zeroV, [], Sub.refl _, H.sx, valAt_zero _, SlF.nil _ _, rfl⟩
    rw [decide_eq_true (by omega)]
    (first | (refine H.wg ?_; clear H; intros; rename_i w H; constructor) | refine wk ?_)
    refine (in_ref _ _ _ _).use ?_
    rintro v w' ⟨rfl, rfl⟩
    rw [decide_eq_false (by omega)]
    (first | (refine H.wg ?_; clear H; intros; rename_i w H; constructor) | refine wk ?_)
    exact ⟨V, zeroH, ⟨none, 0, 0⟩, zeroV, [], Sub.refl _, H.sx, valAt_zero _, SlF.nil _ _, rfl⟩
  have hph : picFile l = match styR x0.toNat T with
      | none => none
      | some (pal, l2) => picBody x0.toNat pal x1.toNat x2.toNat l2 := by rw [hhd]; unfold picHead; rw [if_pos hk]; rfl
  obtain ⟨hfo, ⟨w1, w2⟩, h1, h2⟩ := hk
  unfold flagOk at hfo
  rw [decide_eq_true hfo]
  (first | (refine H.wg ?_; clear H; intros; rename_i w H; constructor) | refine wk ?_)
  refine (in_ref _ _ _ _).use ?_
  rintro v w' ⟨rfl, rfl⟩
  rw [decide_eq_true (by omega)]
  (first | (refine H.wg ?_; clear H; intros; rename_i w H; constructor) | refine wk ?_)
  refine (in_ref _ _ _ _).use ?_
  rintro v w' ⟨rfl, rfl⟩
  rw [decide_eq_true (by omega)]
  (first | (refine H.wg ?_; clear H; intros; rename_i w H; constructor) | refine wk ?_)
  refine SemC.seqGo tabOk ?_
  ((first | refine draw_vc (id := 4) tabOk mixed [13] [0, 1, 2, 3, 4, 5, 6, 7, 8, 9, 10, 11, 12, 13, 14] (by kernel_rfl) ?_ | refine draw_vc (id := 5) tabOk mixed [] [0, 1, 2, 3, 4, 5, 6, 7, 8, 9] (by kernel_rfl) ?_ | refine draw_vc (id := 6) tabOk mixed [] [0, 1, 2, 3, 4, 5, 6, 7, 8, 9, 10, 11, 12, 13, 14, 15, 16, 17, 18, 19, 20, 21, 22, 23, 24, 25, 26, 27, 28, 29, 30] (by kernel_rfl) ?_ | refine draw_vc (id := 33) tabOk mixed [4] [0, 1, 2, 3, 4, 5, 6] (by kernel_rfl) ?_ | refine draw_vc (id := 41) tabOk mixed [4, 7] [0, 1, 2, 3, 5, 6, 4, 7, 8, 9, 10] (by kernel_rfl) ?_); intro w hdw; replace H := Rel.ext H hdw.ext)
  (first | (refine H.wh ?_; clear H; intros; rename_i w H; constructor) | refine wk ?_)
  ((first | refine Rel.nwD H ?_ | refine Rel.nw H ?_); clear H; intro w b6 H)
  (first | (refine H.wg ?_; clear H; intros; rename_i w H; constructor) | refine wk ?_)
  refine SemC.seqGo tabOk ?_
  ((first | refine draw_vc (id := 4) tabOk mixed [13] [0, 1, 2, 3, 4, 5, 6, 7, 8, 9, 10, 11, 12, 13, 14] (by kernel_rfl) ?_ | refine draw_vc (id := 5) tabOk mixed [] [0, 1, 2, 3, 4, 5, 6, 7, 8, 9] (by kernel_rfl) ?_ | refine draw_vc (id := 6) tabOk mixed [] [0, 1, 2, 3, 4, 5, 6, 7, 8, 9, 10, 11, 12, 13, 14, 15, 16, 17, 18, 19, 20, 21, 22, 23, 24, 25, 26, 27, 28, 29, 30] (by kernel_rfl) ?_ | refine draw_vc (id := 33) tabOk mixed [4] [0, 1, 2, 3, 4, 5, 6] (by kernel_rfl) ?_ | refine draw_vc (id := 41) tabOk mixed [4, 7] [0, 1, 2, 3, 5, 6, 4, 7, 8, 9, 10] (by kernel_rfl) ?_); intro w hdw; replace H := Rel.ext H hdw.ext)
  (first | (refine H.wg ?_; clear H; intros; rename_i w H; constructor) | refine wk ?_)
  refine (palette_ref H.data ht (by omega) hfo.1).use ?_
  rintro q w ⟨r, K, hpk⟩
  (have hKb := K.base; replace H := H.call0 K)
  cases hst : styR x0.toNat T with
  | none =>
    rw [hst] at hpk hph
    obtain rfl := hpk
    rw [hno hph]
    (first | (refine H.wg ?_; clear H; intros; rename_i w H; constructor) | refine wk ?_)
    refine SemC.seqGo tabOk ?_
    ((first | refine draw_vc (id := 4) tabOk mixed [13] [0, 1, 2, 3, 4, 5, 6, 7, 8, 9, 10, 11, 12, 13, 14] (by kernel_rfl) ?_ | refine draw_vc (id := 5) tabOk mixed [] [0, 1, 2, 3, 4, 5, 6, 7, 8, 9] (by kernel_rfl) ?_ | refine draw_vc (id := 6) tabOk mixed [] [0, 1, 2, 3, 4, 5, 6, 7, 8, 9, 10, 11, 12, 13, 14, 15, 16, 17, 18, 19, 20, 21, 22, 23, 24, 25, 26, 27, 28, 29, 30] (by kernel_rfl) ?_ | refine draw_vc (id := 33) tabOk mixed [4] [0, 1, 2, 3, 4, 5, 6] (by kernel_rfl) ?_ | refine draw_vc (id := 41) tabOk mixed [4, 7] [0, 1, 2, 3, 5, 6, 4, 7, 8, 9, 10] (by kernel_rfl) ?_); intro w hdw; replace H := Rel.ext H hdw.ext)
    (first | (refine H.wg ?_; clear H; intros; rename_i w H; constructor) | refine wk ?_)
    exact ⟨V, zeroH, ⟨none, 0, 0⟩, zeroV, [], Sub.refl _, H.sx, valAt_zero _, SlF.nil _ _, rfl⟩
  | some y =>
  obtain ⟨pal, T2⟩ := y
  rw [hst] at hpk hph
  obtain ⟨rfl, hrp⟩ := hpk
  dsimp only at hph
  obtain ⟨hTe, hpo⟩ := styR_some hst
  obtain ⟨N, hN⟩ : ∃ N, N = (styB x0.toNat pal).length := ⟨_, rfl⟩
  have hNl := styB_len hpo
  have hT2l : T2.length + N + 7 = l.length := by
    have := congrArg List.length hTe
    rw [List.length_append] at this
    omega
  have hT2 : T2 = l.drop (7 + N) := by rw [← List.drop_drop, ← hT, hTe, hN, List.drop_left]
  rw [← hN] at hNl ⊢
  (first | (refine H.wg ?_; clear H; intros; rename_i w H; constructor) | refine wk ?_)
  refine SemC.seqGo tabOk ?_
  ((first | refine draw_vc (id := 4) tabOk mixed [13] [0, 1, 2, 3, 4, 5, 6, 7, 8, 9, 10, 11, 12, 13, 14] (by kernel_rfl) ?_ | refine draw_vc (id := 5) tabOk mixed [] [0, 1, 2, 3, 4, 5, 6, 7, 8, 9] (by kernel_rfl) ?_ | refine draw_vc (id := 6) tabOk mixed [] [0, 1, 2, 3, 4, 5, 6, 7, 8, 9, 10, 11, 12, 13, 14, 15, 16, 17, 18, 19, 20, 21, 22, 23, 24, 25, 26, 27, 28, 29, 30] (by kernel_rfl) ?_ | refine draw_vc (id := 33) tabOk mixed [4] [0, 1, 2, 3, 4, 5, 6] (by kernel_rfl) ?_ | refine draw_vc (id := 41) tabOk mixed [4, 7] [0, 1, 2, 3, 5, 6, 4, 7, 8, 9, 10] (by kernel_rfl) ?_); intro w hdw; replace H := Rel.ext H hdw.ext)
  by_cases h9 : T2.length < 2
  · have e : picBody x0.toNat pal x1.toNat x2.toNat T2 = none := by
      match T2, h9 with
      | [], _ => rfl
      | [_], _ => rfl
      | a :: b :: c, h => exact absurd h (by simp only [List.length_cons]; omega)
    rw [hno (by rw [hph, e])]
    (first | (refine H.wg ?_; clear H; intros; rename_i w H; constructor) | refine wk ?_)
    exact ⟨V, zeroH, ⟨none, 0, 0⟩, zeroV, [], Sub.refl _, H.sx, valAt_zero _, SlF.nil _ _, rfl⟩
  have hd7 : T2 = z8 l (7 + N) :: z8 l (8 + N) :: l.drop (9 + N) := by rw [hT2, drop_z8 (show 7 + N < l.length by omega), show 7 + N + 1 = 8 + N by omega, drop_z8 (show 8 + N < l.length by omega), show 8 + N + 1 = 9 + N by omega]
  obtain ⟨p7, c7⟩ := z8_cell hs (i := 7 + N) (by omega)
  obtain ⟨p8, c8⟩ := z8_cell hs (i := 8 + N) (by omega)
  have hB0 := hs.rest (k := 9 + N) (by omega)
  obtain ⟨B, hB⟩ : ∃ B, B = l.drop (9 + N) := ⟨_, rfl⟩
  have hBl : B.length + N + 9 = l.length := by rw [hB, List.length_drop]; omega
  rw [← hB] at hd7 hB0
  obtain ⟨x7, hx7⟩ : ∃ x0, x0 = z8 l (7 + N) := ⟨_, rfl⟩
  obtain ⟨x8, hx8⟩ : ∃ x0, x0 = z8 l (8 + N) := ⟨_, rfl⟩
  rw [← hx7] at c7 hd7
  rw [← hx8] at c8 hd7
  have z7 := x7.toNat_lt
  have z8' := x8.toNat_lt
  rw [hd7] at hph
  rw [show picBody x0.toNat pal x1.toNat x2.toNat (x7 :: x8 :: B) = if 256 * x7.toNat + x8.toNat = B.length then (match picRows x0.toNat pal x1.toNat x2.toNat B with | none => none | some px => some ⟨x1.toNat, x2.toNat, x0.toNat, pal, px⟩) else none from rfl] at hph
  by_cases hlen2 : 256 * x7.toNat + x8.toNat = B.length
  rotate_left
  · rw [if_neg hlen2] at hph
    rw [hno hph]
    (first | (refine H.wg ?_; clear H; intros; rename_i w H; constructor) | refine wk ?_)
    exact ⟨V, zeroH, ⟨none, 0, 0⟩, zeroV, [], Sub.refl _, H.sx, valAt_zero _, SlF.nil _ _, rfl⟩
  rw [if_pos hlen2] at hph
  (first | (refine H.wg ?_; clear H; intros; rename_i w H; constructor) | refine wk ?_)
  refine SemC.seqGo tabOk ?_
  (first | (refine H.wg ?_; clear H; intros; rename_i w H; constructor) | refine wk ?_)
  refine SemC.seqGo tabOk ?_
  (first | (refine H.wg ?_; clear H; intros; rename_i w H; constructor) | refine wk ?_)
  refine SemC.seqGo tabOk ?_
  (first | (refine H.wg ?_; clear H; intros; rename_i w H; constructor) | refine wk ?_)
  refine (rowSize_ref H.data hfo.1 (wd := x1.toNat) w2 _ _).use ?_
  rintro q w ⟨rfl, K⟩
  (have hKb := K.base; replace H := H.call0 K)
  (first | (refine H.wg ?_; clear H; intros; rename_i w H; constructor) | refine wk ?_)
  obtain ⟨f, hf⟩ : ∃ f, f = x0.toNat := ⟨_, rfl⟩
  obtain ⟨wd, hwd⟩ : ∃ f, f = x1.toNat := ⟨_, rfl⟩
  obtain ⟨ht', hht⟩ : ∃ f, f = x2.toNat := ⟨_, rfl⟩
  have hbl := bitsOf_le f
  have hwb : wd * bitsOf f ≤ 64 * 24 := Nat.mul_le_mul (by omega) hbl.2
  obtain ⟨S, hS⟩ : ∃ S, S = rowOf f wd := ⟨_, rfl⟩
  have hS2 : S ≤ 192 ∧ wd * bitsOf f ≤ 8 * S ∧ 8 * S ≤ wd * bitsOf f + 7 := by rw [hS]; unfold rowOf; omega
  have hSh : S * ht' ≤ 192 * 64 := Nat.mul_le_mul hS2.1 (by omega)
  have hno2 : picRows f pal wd ht' B = none → picTo l = none := fun h => hno (by rw [hph, ← hf, ← hwd, ← hht, h])
  rw [← hf, ← hwd] at H hph ⊢
  rw [← hht] at H hph
  rw [← hf] at hpo hrp hfo
  rw [← hwd] at w1 w2
  rw [← hht] at h1 h2
  rw [← hS]
  refine SemC.seqCut tabOk (fun q : Sl => [(0, s.v), (2, .pointer (some ⟨b2, 0, none⟩)), (5, .pointer (some ⟨b5, 0, none⟩)), (6, .pointer (some ⟨b6, 0, none⟩)), (9, q.v), (10, iv (S : Int))])
    (fun q w' => ∃ V2 d, Sub V V2 ∧ Rel W V [.blk b6 (picC f wd ht' r) 60, .blk b5 (valC zeroH) 27, .blk b2 (valC zeroH) 27] V2 w' ∧ Byt V2 q d ∧ rowsB f (S * ht') B = (if d.length = S * ht' then some d else none) ∧ d.length ≤ 100000) ?_ ?_
  · by_cases h2p : f / 2 % 2 = 1
    rotate_left
    · (first | (refine H.wg ?_; clear H; intros; rename_i w H; constructor) | refine wk ?_)
      exact ⟨_, (by repeat (first | exact trivial | refine ⟨rfl, ?_⟩)), V, B, Sub.refl _, H.sx, hB0, by unfold rowsB; rw [if_neg h2p], by omega⟩
    obtain ⟨rb1, rb2⟩ := rowsB_ref (size := S * ht') (B := B) h2p
    have hnb : rowsB f (S * ht') B = none → picTo l = none := fun h => hno2 (by unfold picRows; rw [← hS, h])
    (first | (refine H.wg ?_; clear H; intros; rename_i w H; constructor) | refine wk ?_)
    rw [show (S : Int) * (ht' : Int) = ((S * ht' : Nat) : Int) from (Int.natCast_mul _ _).symm]
    refine (unpacked_ref H.data hB0 (by omega) (most := S * ht') (by omega)).use ?_
    rintro q w ⟨V2, ru, hV2, K, hu⟩
    (have hKb := K.base; replace H := H.call0 K)
    cases hd : decR (S * ht') [] B with
    | none =>
      rw [hd] at hu
      obtain rfl := hu
      rw [hnb (rb1 hd)]
      (first | (refine H.wg ?_; clear H; intros; rename_i w H; constructor) | refine wk ?_)
      exact ⟨V2, zeroH, ⟨none, 0, 0⟩, zeroV, [], hV2, H.sx, valAt_zero _, SlF.nil _ _, rfl⟩
    | some d =>
      rw [hd] at hu
      obtain ⟨rfl, hru⟩ := hu
      have hdl : d.length ≤ S * ht' := by
        rcases decR_len _ _ (Nat.le_refl _) hd with h | h
        · exact h
        · rw [h]; exact Nat.zero_le _
      obtain ⟨rb3, rb4⟩ := rb2 d hd
      (first | (refine H.wg ?_; clear H; intros; rename_i w H; constructor) | refine wk ?_)
      refine (packed_ref H.data hru (by omega)).use ?_
      rintro q w ⟨rp, rfl, K⟩
      (have hKb := K.base; replace H := Rel.call H K)
      simp only [List.cons_append, List.nil_append] at H
      obtain ⟨V3, hV3, H, hrp3⟩ := Rel.freezeF H (fun _ => rfl) (by decide)
      (first | (refine H.wg ?_; clear H; intros; rename_i w H; constructor) | refine wk ?_)
      refine (bytes_ref H.data hrp3 ((hB0.up hV2).up hV3)).use ?_
      rintro q w ⟨rfl, K⟩
      (have hKb := K.base; replace H := H.call0 K)
      by_cases hpk : packB d = B
      rotate_left
      · rw [decide_eq_false hpk, hnb (rb3 hpk)]
        (first | (refine H.wg ?_; clear H; intros; rename_i w H; constructor) | refine wk ?_)
        exact ⟨V3, zeroH, ⟨none, 0, 0⟩, zeroV, [], hV2.trans hV3, H.sx, valAt_zero _, SlF.nil _ _, rfl⟩
      rw [decide_eq_true hpk]
      (first | (refine H.wg ?_; clear H; intros; rename_i w H; constructor) | refine wk ?_)
      exact ⟨_, (by repeat (first | exact trivial | refine ⟨rfl, ?_⟩)), V3, d, hV2.trans hV3, H.sx, hru.up hV3, rb4 hpk, by omega⟩
  clear H
  rintro q w ⟨V2, d, hV2, H, hq, hrb, hdl⟩
  dsimp only
  have hql := hq.len
  have hqc := hq.cap
  refine SemC.seqGo tabOk ?_
  by_cases hdS : d.length = S * ht'
  rotate_left
  · rw [if_neg hdS] at hrb
    rw [hno2 (by unfold picRows; rw [← hS, hrb])]
    (first | (refine H.wg ?_; clear H; intros; rename_i w H; constructor) | refine wk ?_)
    exact ⟨V2, zeroH, ⟨none, 0, 0⟩, zeroV, [], hV2, H.sx, valAt_zero _, SlF.nil _ _, rfl⟩
  rw [if_pos hdS] at hrb
  have hpr : picRows f pal wd ht' B = rowsPx f pal wd ht' d := by unfold picRows; rw [← hS, hrb]
  have hwh := Nat.mul_le_mul w2 h2
  have hwhI : I64 ((wd : Int) * (ht' : Int)) := by rw [← Int.natCast_mul]; constructor <;> omega
  by_cases hbig : 1333 < wd * ht'
  · have e : picTo l = none := by
      cases hpx : picRows f pal wd ht' B with
      | none => exact hno2 hpx
      | some px =>
        rw [hpx] at hph
        obtain ⟨B', d', R', P⟩ := picFile_some hph
        have := P.px_len.1
        dsimp only at this
        unfold picTo
        rw [hph]
        simp only
        rw [if_pos (vfault_pic_big (by rw [this, show ht' * (3 * wd) = 3 * (wd * ht') by rw [Nat.mul_comm wd, Nat.mul_left_comm]]; omega))]
    rw [e]
    (first | (refine H.wg ?_; clear H; intros; rename_i w H; constructor) | refine wk ?_)
    exact ⟨V2, zeroH, ⟨none, 0, 0⟩, zeroV, [], hV2, H.sx, valAt_zero _, SlF.nil _ _, rfl⟩
  (first | (refine H.wg ?_; clear H; intros; rename_i w H; constructor) | refine wk ?_)
  refine SemC.seqGo tabOk ?_
  (first | (refine H.wg ?_; clear H; intros; rename_i w H; constructor) | refine wk ?_)
  replace H := H.rowNil 5 1
  obtain ⟨L, hL⟩ : ∃ L, L = turn f (rowsN (rowOf f wd) ht' d) := ⟨_, rfl⟩
  have hdS' : d.length = ht' * rowOf f wd := by rw [hdS, hS, Nat.mul_comm]
  have hLl : L.length = ht' := by rw [hL, turn_len, rowsN_len]
  have hLr : ∀ r ∈ L, r.length = rowOf f wd := fun r hr => by rw [hL] at hr; exact rowsN_mem hdS' (mem_turn.1 hr)
  have hpx : rowsPx f pal wd ht' d = (allM (rowPix f pal wd) L).map List.flatten := by rw [hL]; exact rowsPx_turn _ _ _ _ _
  have hnoR : ∀ r ∈ L, rowPix f pal wd r = none → picTo l = none := fun r hr h => hno2 (by rw [hpr, hpx, allM_none hr h]; rfl)
  refine SemC.go tabOk ?_
  (first | (refine H.wg ?_; clear H; intros; rename_i w H; constructor) | refine wk ?_)
  refine loop_inv (S := Nat × Sl) tabOk [0, 2, 5, 6, 7, 8, 9, 10, 11, 12, 21, 55, 108, 122, 140, 157, 227, 231] (fun k => [(13, k.2.v), (14, iv k.1)]) (fun k w' => ∃ V3 R, k.1 ≤ ht' ∧ Sub V2 V3 ∧ allM (rowPix f pal wd) (L.take k.1) = some R ∧ Rel W V [.row k.2 5 1 (R.flatten.flatMap byC), .blk b6 (picC f wd ht' r) 60, .blk b5 (valC zeroH) 27, .blk b2 (valC zeroH) 27] V3 w') (fun k _ => ht' - k.1) (0, ⟨none, 0, 0⟩) ?_
  (conv => whnf)
  refine ⟨(by repeat (first | exact trivial | refine ⟨rfl, ?_⟩)), ⟨V2, [], by omega, Sub.refl _, rfl, H⟩, ?_⟩
  clear H
  rintro ⟨y, rx⟩ w ⟨V3, R, hy, hV3, hR, H⟩
  dsimp only at hy hR H ⊢
  have hRlen := rows_len hfo.1 hpo (fun r hr => hLr r (List.mem_of_mem_take hr)) hR
  rw [List.length_take, hLl, Nat.min_eq_left hy] at hRlen
  have hyw : y * (3 * wd) ≤ 64 * 192 := Nat.mul_le_mul (by omega) (by omega)
  by_cases hlt : y < ht'
  · obtain ⟨a, ha, hae, hget⟩ := turn_get (f := f) (pal := pal) hlt hdS'
    rw [← hL, ← hS] at hget
    have haS : a * S + S ≤ d.length := by
      rw [hdS]
      have := Nat.mul_le_mul_left S ha
      rw [Nat.mul_succ, Nat.mul_comm S a] at this
      exact this
    have hm1 : (a : Int) * (S : Int) = ((a * S : Nat) : Int) := (Int.natCast_mul _ _).symm
    have hm2 : ((a : Int) + 1) * (S : Int) = ((a * S + S : Nat) : Int) := by rw [Int.add_mul, hm1]; omega
    have hrow := SlF.sub (hq.up hV3) (n := 1) (fun _ => rfl) (a := a * S) (b := a * S + S) (by omega) haS
    obtain ⟨row, hrw⟩ : ∃ row, row = (d.drop (a * S)).take S := ⟨_, rfl⟩
    have hrow2 : (d.take (a * S + S)).drop (a * S) = row := by rw [hrw, List.drop_take, show a * S + S - a * S = S by omega]
    rw [hrow2] at hrow
    rw [← hrw] at hget
    have hLy : y < L.length := by omega
    have hrowL : row ∈ L := List.mem_of_getElem? hget
    have hrowl : row.length = rowOf f wd := hLr row hrowL
    have hry : L[y] = row := by
      rw [List.getElem?_eq_getElem hLy] at hget
      exact Option.some.inj hget
    have hrx0 := rowPix_ref (f := f) (w := wd) (pal := pal) hfo.1 hrowl
    by_cases hup : f % 2 = 1
    · rw [if_pos hup] at hae
      (first | (refine H.wg ?_; clear H; intros; rename_i w H; constructor) | refine wk ?_)
      rw [← hae, hm1]
      (first | (refine H.wg ?_; clear H; intros; rename_i w H; constructor) | refine wk ?_)
      rw [hm2]
      (first | (refine H.wg ?_; clear H; intros; rename_i w H; constructor) | refine wk ?_)
      refine loop_inv (S := Nat × Sl) tabOk [0, 2, 5, 6, 7, 8, 9, 10, 11, 12, 14, 15, 16, 20, 21, 55, 108, 122, 140, 157, 162, 169, 216, 227, 231] (fun k => [(13, k.2.v), (17, iv k.1)]) (fun k w' => ∃ V4 cs, k.1 ≤ wd ∧ Sub V3 V4 ∧ allM (colG f pal row) (List.range k.1) = some cs ∧ Rel W V [.row k.2 5 1 ((R.flatten ++ cs.flatten).flatMap byC), .blk b6 (picC f wd ht' r) 60, .blk b5 (valC zeroH) 27, .blk b2 (valC zeroH) 27] V4 w') (fun k _ => wd - k.1) (0, rx) ?_
      (conv => whnf)
      refine ⟨(by repeat (first | exact trivial | refine ⟨rfl, ?_⟩)), ⟨V3, [], by omega, Sub.refl _, rfl, by rw [List.flatten_nil, List.append_nil]; exact H⟩, ?_⟩
      clear H
      rintro ⟨x, rx⟩ w ⟨V4, cs, hx, hV4, hcs, H⟩
      dsimp only at hx hcs H ⊢
      have hcl := cols_len hcs
      have hVV := (hV2.trans hV3).trans hV4
      by_cases hxl : x < wd
      · (first | (refine H.wg ?_; clear H; intros; rename_i w H; constructor) | refine wk ?_)
        refine (colorOf_ref H.data hfo.1 hpo (((hrp.up hV2).up hV3).up hV4) w2 _ (hrow.up hV4) hrowl hxl).use ?_
        rintro q w ⟨V5, rc, hV5, K, hcol⟩
        (have hKb := K.base; replace H := H.call0 K)
        cases hc : colG f pal row x with
        | none =>
          rw [hc] at hcol
          obtain rfl := hcol
          rw [allM_none (List.mem_range.2 hxl) hc] at hrx0
          rw [hnoR row hrowL hrx0]
          (first | (refine H.wg ?_; clear H; intros; rename_i w H; constructor) | refine wk ?_)
          exact ⟨V5, zeroH, ⟨none, 0, 0⟩, zeroV, [], hVV.trans hV5, H.sx, valAt_zero _, SlF.nil _ _, rfl⟩
        | some c =>
          rw [hc] at hcol
          obtain ⟨rfl, hrc⟩ := hcol
          have hc3 := colG_len hc
          (first | (refine H.wg ?_; clear H; intros; rename_i w H; constructor) | refine wk ?_)
          refine Rel.appD H (i := 0) rfl hrc (by rw [List.length_append]; omega) ?_
          clear H
          intro rn w H
          (first | (refine H.wg ?_; clear H; intros; rename_i w H; constructor) | refine wk ?_)
          refine ⟨(by repeat (first | exact trivial | refine ⟨rfl, ?_⟩)), (x + 1, rn), (by repeat (first | exact trivial | refine ⟨rfl, ?_⟩)), ⟨V5, cs ++ [c], by dsimp only; omega, hV4.trans hV5, by dsimp only; rw [List.range_succ]; exact allM_snoc hcs hc, ?_⟩, by dsimp only; omega⟩
          rw [List.flatten_append, List.flatten_singleton, ← List.append_assoc]
          exact H.sx
      · obtain rfl : x = wd := by omega
        rw [hcs] at hrx0
        dsimp only at hrx0
        have hrest : restN f x row = fieldN row (x * bitsOf f) (8 * S - x * bitsOf f) := by unfold restN; rw [← hS]
        have hxb : (x : Int) * ((bitsOf f : Nat) : Int) = ((x * bitsOf f : Nat) : Int) := (Int.natCast_mul _ _).symm
        (first | (refine H.wg ?_; clear H; intros; rename_i w H; constructor) | refine wk ?_)
        ((first | refine draw_vc (id := 4) tabOk mixed [13] [0, 1, 2, 3, 4, 5, 6, 7, 8, 9, 10, 11, 12, 13, 14] (by kernel_rfl) ?_ | refine draw_vc (id := 5) tabOk mixed [] [0, 1, 2, 3, 4, 5, 6, 7, 8, 9] (by kernel_rfl) ?_ | refine draw_vc (id := 6) tabOk mixed [] [0, 1, 2, 3, 4, 5, 6, 7, 8, 9, 10, 11, 12, 13, 14, 15, 16, 17, 18, 19, 20, 21, 22, 23, 24, 25, 26, 27, 28, 29, 30] (by kernel_rfl) ?_ | refine draw_vc (id := 33) tabOk mixed [4] [0, 1, 2, 3, 4, 5, 6] (by kernel_rfl) ?_ | refine draw_vc (id := 41) tabOk mixed [4, 7] [0, 1, 2, 3, 5, 6, 4, 7, 8, 9, 10] (by kernel_rfl) ?_); intro w hdw; replace H := Rel.ext H hdw.ext)
        (first | (refine H.wg ?_; clear H; intros; rename_i w H; constructor) | refine wk ?_)
        refine (pixelBits_ref H.data hfo.1).use ?_
        rintro q w ⟨rfl, K⟩
        (have hKb := K.base; replace H := H.call0 K)
        (first | (refine H.wg ?_; clear H; intros; rename_i w H; constructor) | refine wk ?_)
        rw [hxb]
        (first | (refine H.wg ?_; clear H; intros; rename_i w H; constructor) | refine wk ?_)
        rw [show 8 * (S : Int) - ((x * bitsOf f : Nat) : Int) = ((8 * S - x * bitsOf f : Nat) : Int) by omega]
        refine (fieldOf_ref H.data (hrow.up hV4) (by omega) (by omega) (by omega)).use ?_
        rintro q w ⟨rfl, K⟩
        (have hKb := K.base; replace H := H.call0 K)
        rw [← hrest]
        by_cases hz : restN f x row = 0
        rotate_left
        · rw [hrest] at hz
          rw [if_neg (by rw [hrest]; exact hz)] at hrx0
          rw [hnoR row hrowL hrx0, hrest]
          (first | (refine H.wg ?_; clear H; intros; rename_i w H; constructor) | refine wk ?_)
          exact ⟨V4, zeroH, ⟨none, 0, 0⟩, zeroV, [], hVV, H.sx, valAt_zero _, SlF.nil _ _, rfl⟩
        rw [if_pos hz] at hrx0
        rw [hz]
        (first | (refine H.wg ?_; clear H; intros; rename_i w H; constructor) | refine wk ?_)
        refine ⟨(by repeat (first | exact trivial | refine ⟨rfl, ?_⟩)), (y + 1, rx), ⟨rfl, congrArg (fun z => some (iv z)) (by dsimp only; omega), trivial⟩, ⟨V4, R ++ [cs.flatten], by dsimp only; omega, hV3.trans hV4, ?_, ?_⟩, by dsimp only; omega⟩
        · dsimp only
          rw [List.take_succ_eq_append_getElem hLy, hry]
          exact allM_snoc hR hrx0
        · rw [List.flatten_append, List.flatten_singleton]
          exact H.sx
    · rw [if_neg hup] at hae
      (first | (refine H.wg ?_; clear H; intros; rename_i w H; constructor) | refine wk ?_)
      rw [← hae, hm1]
      (first | (refine H.wg ?_; clear H; intros; rename_i w H; constructor) | refine wk ?_)
      rw [hm2]
      (first | (refine H.wg ?_; clear H; intros; rename_i w H; constructor) | refine wk ?_)
      refine loop_inv (S := Nat × Sl) tabOk [0, 2, 5, 6, 7, 8, 9, 10, 11, 12, 14, 15, 16, 20, 21, 55, 108, 122, 140, 157, 162, 169, 216, 227, 231] (fun k => [(13, k.2.v), (17, iv k.1)]) (fun k w' => ∃ V4 cs, k.1 ≤ wd ∧ Sub V3 V4 ∧ allM (colG f pal row) (List.range k.1) = some cs ∧ Rel W V [.row k.2 5 1 ((R.flatten ++ cs.flatten).flatMap byC), .blk b6 (picC f wd ht' r) 60, .blk b5 (valC zeroH) 27, .blk b2 (valC zeroH) 27] V4 w') (fun k _ => wd - k.1) (0, rx) ?_
      (conv => whnf)
      refine ⟨(by repeat (first | exact trivial | refine ⟨rfl, ?_⟩)), ⟨V3, [], by omega, Sub.refl _, rfl, by rw [List.flatten_nil, List.append_nil]; exact H⟩, ?_⟩
      clear H
      rintro ⟨x, rx⟩ w ⟨V4, cs, hx, hV4, hcs, H⟩
      dsimp only at hx hcs H ⊢
      have hcl := cols_len hcs
      have hVV := (hV2.trans hV3).trans hV4
      by_cases hxl : x < wd
      · (first | (refine H.wg ?_; clear H; intros; rename_i w H; constructor) | refine wk ?_)
        refine (colorOf_ref H.data hfo.1 hpo (((hrp.up hV2).up hV3).up hV4) w2 _ (hrow.up hV4) hrowl hxl).use ?_
        rintro q w ⟨V5, rc, hV5, K, hcol⟩
        (have hKb := K.base; replace H := H.call0 K)
        cases hc : colG f pal row x with
        | none =>
          rw [hc] at hcol
          obtain rfl := hcol
          rw [allM_none (List.mem_range.2 hxl) hc] at hrx0
          rw [hnoR row hrowL hrx0]
          (first | (refine H.wg ?_; clear H; intros; rename_i w H; constructor) | refine wk ?_)
          exact ⟨V5, zeroH, ⟨none, 0, 0⟩, zeroV, [], hVV.trans hV5, H.sx, valAt_zero _, SlF.nil _ _, rfl⟩
        | some c =>
          rw [hc] at hcol
          obtain ⟨rfl, hrc⟩ := hcol
          have hc3 := colG_len hc
          (first | (refine H.wg ?_; clear H; intros; rename_i w H; constructor) | refine wk ?_)
          refine Rel.appD H (i := 0) rfl hrc (by rw [List.length_append]; omega) ?_
          clear H
          intro rn w H
          (first | (refine H.wg ?_; clear H; intros; rename_i w H; constructor) | refine wk ?_)
          refine ⟨(by repeat (first | exact trivial | refine ⟨rfl, ?_⟩)), (x + 1, rn), (by repeat (first | exact trivial | refine ⟨rfl, ?_⟩)), ⟨V5, cs ++ [c], by dsimp only; omega, hV4.trans hV5, by dsimp only; rw [List.range_succ]; exact allM_snoc hcs hc, ?_⟩, by dsimp only; omega⟩
          rw [List.flatten_append, List.flatten_singleton, ← List.append_assoc]
          exact H.sx
      · obtain rfl : x = wd := by omega
        rw [hcs] at hrx0
        dsimp only at hrx0
        have hrest : restN f x row = fieldN row (x * bitsOf f) (8 * S - x * bitsOf f) := by unfold restN; rw [← hS]
        have hxb : (x : Int) * ((bitsOf f : Nat) : Int) = ((x * bitsOf f : Nat) : Int) := (Int.natCast_mul _ _).symm
        (first | (refine H.wg ?_; clear H; intros; rename_i w H; constructor) | refine wk ?_)
        ((first | refine draw_vc (id := 4) tabOk mixed [13] [0, 1, 2, 3, 4, 5, 6, 7, 8, 9, 10, 11, 12, 13, 14] (by kernel_rfl) ?_ | refine draw_vc (id := 5) tabOk mixed [] [0, 1, 2, 3, 4, 5, 6, 7, 8, 9] (by kernel_rfl) ?_ | refine draw_vc (id := 6) tabOk mixed [] [0, 1, 2, 3, 4, 5, 6, 7, 8, 9, 10, 11, 12, 13, 14, 15, 16, 17, 18, 19, 20, 21, 22, 23, 24, 25, 26, 27, 28, 29, 30] (by kernel_rfl) ?_ | refine draw_vc (id := 33) tabOk mixed [4] [0, 1, 2, 3, 4, 5, 6] (by kernel_rfl) ?_ | refine draw_vc (id := 41) tabOk mixed [4, 7] [0, 1, 2, 3, 5, 6, 4, 7, 8, 9, 10] (by kernel_rfl) ?_); intro w hdw; replace H := Rel.ext H hdw.ext)
        (first | (refine H.wg ?_; clear H; intros; rename_i w H; constructor) | refine wk ?_)
        refine (pixelBits_ref H.data hfo.1).use ?_
        rintro q w ⟨rfl, K⟩
        (have hKb := K.base; replace H := H.call0 K)
        (first | (refine H.wg ?_; clear H; intros; rename_i w H; constructor) | refine wk ?_)
        rw [hxb]
        (first | (refine H.wg ?_; clear H; intros; rename_i w H; constructor) | refine wk ?_)
        rw [show 8 * (S : Int) - ((x * bitsOf f : Nat) : Int) = ((8 * S - x * bitsOf f : Nat) : Int) by omega]
        refine (fieldOf_ref H.data (hrow.up hV4) (by omega) (by omega) (by omega)).use ?_
        rintro q w ⟨rfl, K⟩
        (have hKb := K.base; replace H := H.call0 K)
        rw [← hrest]
        by_cases hz : restN f x row = 0
        rotate_left
        · rw [hrest] at hz
          rw [if_neg (by rw [hrest]; exact hz)] at hrx0
          rw [hnoR row hrowL hrx0, hrest]
          (first | (refine H.wg ?_; clear H; intros; rename_i w H; constructor) | refine wk ?_)
          exact ⟨V4, zeroH, ⟨none, 0, 0⟩, zeroV, [], hVV, H.sx, valAt_zero _, SlF.nil _ _, rfl⟩
        rw [if_pos hz] at hrx0
        rw [hz]
        (first | (refine H.wg ?_; clear H; intros; rename_i w H; constructor) | refine wk ?_)
        refine ⟨(by repeat (first | exact trivial | refine ⟨rfl, ?_⟩)), (y + 1, rx), ⟨rfl, congrArg (fun z => some (iv z)) (by dsimp only; omega), trivial⟩, ⟨V4, R ++ [cs.flatten], by dsimp only; omega, hV3.trans hV4, ?_, ?_⟩, by dsimp only; omega⟩
        · dsimp only
          rw [List.take_succ_eq_append_getElem hLy, hry]
          exact allM_snoc hR hrx0
        · rw [List.flatten_append, List.flatten_singleton]
          exact H.sx
  · obtain rfl : y = ht' := by omega
    rw [List.take_of_length_le (by omega)] at hR
    have hpx2 : picRows f pal wd y B = some R.flatten := by rw [hpr, hpx, hR]; rfl
    rw [hpx2] at hph
    have hpx3 : R.flatten.length ≤ 12288 := by omega
    obtain ⟨V4, hV4, H, hrx⟩ := Rel.freezeF H (fun _ => rfl) (by decide)
    (first | (refine H.wg ?_; clear H; intros; rename_i w H; constructor) | refine wk ?_)
    refine (plainPicture_ref H.data (wd : Int) (y : Int) hrx).use ?_
    rintro q w ⟨V5, h, hV5, K, rfl, hv⟩
    (have hKb := K.base; replace H := H.call0 K)
    have hB : VB 1048576 (picVal (wd : Int) (y : Int) R.flatten) := vb_pic (by constructor <;> omega) (by constructor <;> omega) (by omega)
    (first | (refine H.wh ?_; clear H; intros; rename_i w H; constructor) | refine wk ?_)
    ((first | refine Rel.nwD H ?_ | refine Rel.nw H ?_); clear H; intro w b21 H)
    (first | (refine H.wg ?_; clear H; intros; rename_i w H; constructor) | refine wk ?_)
    refine (valueFault_ref H.data hv hB).use ?_
    rintro q w ⟨rfl, K⟩
    (have hKb := K.base; replace H := H.call0 K)
    have hVV := ((hV2.trans hV3).trans hV4).trans hV5
    by_cases hvf : (vfault (picVal (wd : Int) (y : Int) R.flatten)).1 = 0
    rotate_left
    · have e : picTo l = none := by unfold picTo; rw [hph]; simp only; rw [if_pos hvf]
      rw [e]
      (first | (refine H.wg ?_; clear H; intros; rename_i w H; constructor) | refine wk ?_)
      exact ⟨V5, zeroH, ⟨none, 0, 0⟩, zeroV, [], hVV, H.sx, valAt_zero _, SlF.nil _ _, rfl⟩
    have e : picTo l = some (picVal (wd : Int) (y : Int) R.flatten, picRes f pal) := by unfold picTo; rw [hph]; simp only; rw [if_neg (fun q => q hvf)]
    rw [e]
    (first | (refine H.wg ?_; clear H; intros; rename_i w H; constructor) | refine wk ?_)
    by_cases h48 : f = 48
    · have er : picRes f pal = [] := by unfold picRes; rw [if_pos h48]
      rw [er]
      (first | (refine H.wg ?_; clear H; intros; rename_i w H; constructor) | refine wk ?_)
      exact ⟨V5, h, ⟨none, 0, 0⟩, _, [], hVV, H.sx, hv, SlF.nil _ _, rfl, rfl⟩
    have er : picRes f pal = [x0] ++ styB f pal := by
      unfold picRes
      rw [if_neg h48, hf]
      show UInt8.ofNat x0.toNat :: _ = x0 :: _
      rw [UInt8.ofNat_toNat]
      rfl
    have c4' := hVV.cell c4
    have hstl := styB_len hpo
    rw [er]
    (first | (refine H.wg ?_; clear H; intros; rename_i w H; constructor) | refine wk ?_)
    ((first | refine draw_vc (id := 4) tabOk mixed [13] [0, 1, 2, 3, 4, 5, 6, 7, 8, 9, 10, 11, 12, 13, 14] (by kernel_rfl) ?_ | refine draw_vc (id := 5) tabOk mixed [] [0, 1, 2, 3, 4, 5, 6, 7, 8, 9] (by kernel_rfl) ?_ | refine draw_vc (id := 6) tabOk mixed [] [0, 1, 2, 3, 4, 5, 6, 7, 8, 9, 10, 11, 12, 13, 14, 15, 16, 17, 18, 19, 20, 21, 22, 23, 24, 25, 26, 27, 28, 29, 30] (by kernel_rfl) ?_ | refine draw_vc (id := 33) tabOk mixed [4] [0, 1, 2, 3, 4, 5, 6] (by kernel_rfl) ?_ | refine draw_vc (id := 41) tabOk mixed [4, 7] [0, 1, 2, 3, 5, 6, 4, 7, 8, 9, 10] (by kernel_rfl) ?_); intro w hdw; replace H := Rel.ext H hdw.ext)
    (first | (refine H.wh ?_; clear H; intros; rename_i w H; constructor) | refine wk ?_)
    ((first | refine Rel.nwD H ?_ | refine Rel.nw H ?_); clear H; intro w b237 H)
    replace H := H.blkEq (c' := ([x0] : List UInt8).flatMap byC) rfl
    obtain ⟨V6, hV6, H, hb237⟩ := H.freezeBlk
    have hj : Byt V6 ⟨some ⟨b237, 0, none⟩, 1, 1⟩ [x0] := ⟨rfl, Nat.le_refl _, hb237.cells⟩
    (first | (refine H.wg ?_; clear H; intros; rename_i w H; constructor) | refine wk ?_)
    refine (join_ref H.data hj ((((((hrp.up hV2).up hV3).up hV4).up hV5).up hV6)) (by simp only [List.length_singleton]; omega)).use ?_
    rintro q w ⟨rj, rfl, K⟩
    (have hKb := K.base; replace H := Rel.call H K)
    simp only [List.cons_append, List.nil_append] at H
    obtain ⟨V7, hV7, H, hrj⟩ := Rel.freezeF H (fun _ => rfl) (by decide)
    (first | (refine H.wg ?_; clear H; intros; rename_i w H; constructor) | refine wk ?_)
    exact ⟨V7, h, rj, _, _, (hVV.trans hV6).trans hV7, H.sx, (hv.up hV6).up hV7, hrj, rfl, rfl⟩
end
end Go.Proofs.Ytgnaojphgdaalaa
