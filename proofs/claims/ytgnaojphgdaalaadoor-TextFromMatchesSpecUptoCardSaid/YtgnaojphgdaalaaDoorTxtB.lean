/-
  Text files: the bytes of a rune.
-/
import Derived.Test.YtgnaojphgdaalaaDoorTxtA
import Derived.Lib.ValidLaws
import Derived.Shelf.Unicode.DecodeSlow
import Derived.Laws.BitsAllLaws
namespace Go.Proofs.YtgnaojphgdaalaaDoor
open Go Go.RowKit

theorem or192 : ∀ x : Nat, x < 32 → bitsI .or .u8 192 (x : Int) = ((192 + x : Nat) : Int) := by decide +kernel
theorem or224 : ∀ x : Nat, x < 16 → bitsI .or .u8 224 (x : Int) = ((224 + x : Nat) : Int) := by decide +kernel
theorem or240 : ∀ x : Nat, x < 8 → bitsI .or .u8 240 (x : Int) = ((240 + x : Nat) : Int) := by decide +kernel
theorem or128' : ∀ x : Nat, x < 64 → bitsI .or .u8 128 (x : Int) = ((128 + x : Nat) : Int) := by decide +kernel
theorem and63 : ∀ x : Nat, x < 256 → bitsI .and .u8 (x : Int) 63 = ((x % 64 : Nat) : Int) := by decide +kernel
/-- what is behind a lead byte -/
theorem low6 (n : Nat) : bitsI .or .u8 128 (bitsI .and .u8 (wr .u8 (n : Int)) 63) = ((128 + n % 64 : Nat) : Int) := by
  rw [show wr .u8 (n : Int) = ((n % 256 : Nat) : Int) from rfl, and63 _ (by omega), show n % 256 % 64 = n % 64 by omega, or128' _ (by omega)]
theorem sh6 (n : Nat) : (n : Int) / 2 ^ min (Int.toNat 6) IntKind.i32.bits = ((n / 64 : Nat) : Int) := rfl
theorem sh12 (n : Nat) : (n : Int) / 2 ^ min (Int.toNat 12) IntKind.i32.bits = ((n / 4096 : Nat) : Int) := rfl
theorem sh18 (n : Nat) : (n : Int) / 2 ^ min (Int.toNat 18) IntKind.i32.bits = ((n / 262144 : Nat) : Int) := rfl
theorem wr8 {n : Nat} (h : n < 256) : wr .u8 (n : Int) = (n : Int) := by show (n : Int) % 256 = _; omega
section
variable {w0 V0 V w : World} {own : List Res}
set_option maxRecDepth 100000 in
theorem appendRuneNA_spec {s : Sl} {xs : List UInt8} (H : Rel w0 V0 (.row s 5 1 (xs.flatMap byC) :: own) V w) {c : Nat} (hc : isCh c) (h128 : ¬ c < 128) (hl : xs.length ≤ 1000000000) :
    Ret Tryd.prog 75 [s.v, rv c].toArray w fun v w' => ∃ r : Sl, v = r.v ∧ Rel w0 V0 (.row r 5 1 ((xs ++ u8c c).flatMap byC) :: own) V w' := by
  have hlt := isCh_lt hc
  unfold u8c
  rw [if_neg h128]
  obtain ⟨z, hz⟩ : ∃ z : Int, z = (c : Int) := ⟨_, rfl⟩
  have e32 : wr .u32 z = z := by show z % 4294967296 = _; omega
  show Ret Tryd.prog _ [s.v, Value.int .i32 (c : Int)].toArray w _
  rw [← hz]
  refine cal_of_vc tabOk Tryd.func75 rfl (by kernel_rfl) 78 rfl (by simp) [0, 1, 4, 5, 11, 25, 50] ?_
  (first | (refine H.wg ?_; clear H; intros; rename_i w H; constructor) | refine wk ?_)
  rw [e32]
  by_cases h2 : c < 2048
  · rw [if_pos h2]
    have k1 : bitsI .or .u8 192 (wr .u8 ((c : Int) / 2 ^ min (Int.toNat 6) IntKind.i32.bits)) = ((192 + c / 64 : Nat) : Int) := by rw [sh6, wr8 (by omega), or192 _ (by omega)]
    (first | (refine H.wh ?_; clear H; intros; rename_i w H; constructor) | refine wk ?_)
    ((first | refine Rel.nwD H ?_ | refine Rel.nw H ?_); clear H; intro w b1 H)
    subst hz
    rw [k1, low6] at H
    replace H := H.blkEq (c' := [UInt8.ofNat (192 + c / 64), UInt8.ofNat (128 + c % 64)].flatMap byC) (by simp only [List.flatMap_cons, List.flatMap_nil, byC, bv, List.cons_append, List.nil_append, toNat_ofNat_lt (show 192 + c / 64 < 256 by omega), toNat_ofNat_lt (show 128 + c % 64 < 256 by omega)])
    replace H := H.toRow (n := 2) (e := 5) (sz := 1) rfl (by simp [maxLen])
    (first | (refine H.wg ?_; clear H; intros; rename_i w H; constructor) | refine wk ?_)
    refine Rel.appB (s := s) (x := ⟨some ⟨b1, 0, none⟩, 2, 2⟩) (xs := xs) (ys := [UInt8.ofNat (192 + c / 64), UInt8.ofNat (128 + c % 64)]) H (i := 0) rfl (by simp only [List.length_cons, List.length_nil]; omega) ?_
    clear H
    intro r w H
    simp only [List.set_cons_zero] at H
    (first | (refine H.wg ?_; clear H; intros; rename_i w H; constructor) | refine wk ?_)
    exact ⟨r, rfl, H⟩
  rw [if_neg h2]
  by_cases h3 : c < 65536
  · rw [if_pos h3]
    have k1 : bitsI .or .u8 224 (wr .u8 ((c : Int) / 2 ^ min (Int.toNat 12) IntKind.i32.bits)) = ((224 + c / 4096 : Nat) : Int) := by rw [sh12, wr8 (by omega), or224 _ (by omega)]
    unfold isCh at hc
    by_cases h4 : c < 55296
    all_goals
      (first | (refine H.wh ?_; clear H; intros; rename_i w H; constructor) | refine wk ?_)
      ((first | refine Rel.nwD H ?_ | refine Rel.nw H ?_); clear H; intro w b1 H)
      subst hz
      rw [k1, sh6, low6, low6] at H
      replace H := H.blkEq (c' := [UInt8.ofNat (224 + c / 4096), UInt8.ofNat (128 + c / 64 % 64), UInt8.ofNat (128 + c % 64)].flatMap byC) (by simp only [List.flatMap_cons, List.flatMap_nil, byC, bv, List.cons_append, List.nil_append, toNat_ofNat_lt (show 224 + c / 4096 < 256 by omega), toNat_ofNat_lt (show 128 + c / 64 % 64 < 256 by omega), toNat_ofNat_lt (show 128 + c % 64 < 256 by omega)])
      replace H := H.toRow (n := 3) (e := 5) (sz := 1) rfl (by simp [maxLen])
      (first | (refine H.wg ?_; clear H; intros; rename_i w H; constructor) | refine wk ?_)
      refine Rel.appB (s := s) (x := ⟨some ⟨b1, 0, none⟩, 3, 3⟩) (xs := xs) (ys := [UInt8.ofNat (224 + c / 4096), UInt8.ofNat (128 + c / 64 % 64), UInt8.ofNat (128 + c % 64)]) H (i := 0) rfl (by simp only [List.length_cons, List.length_nil]; omega) ?_
      clear H
      intro r w H
      simp only [List.set_cons_zero] at H
      (first | (refine H.wg ?_; clear H; intros; rename_i w H; constructor) | refine wk ?_)
      exact ⟨r, rfl, H⟩
  rw [if_neg h3]
  have k1 : bitsI .or .u8 240 (wr .u8 ((c : Int) / 2 ^ min (Int.toNat 18) IntKind.i32.bits)) = ((240 + c / 262144 : Nat) : Int) := by rw [sh18, wr8 (by omega), or240 _ (by omega)]
  (first | (refine H.wh ?_; clear H; intros; rename_i w H; constructor) | refine wk ?_)
  ((first | refine Rel.nwD H ?_ | refine Rel.nw H ?_); clear H; intro w b1 H)
  subst hz
  rw [k1, sh12, sh6, low6, low6, low6] at H
  replace H := H.blkEq (c' := [UInt8.ofNat (240 + c / 262144), UInt8.ofNat (128 + c / 4096 % 64), UInt8.ofNat (128 + c / 64 % 64), UInt8.ofNat (128 + c % 64)].flatMap byC) (by simp only [List.flatMap_cons, List.flatMap_nil, byC, bv, List.cons_append, List.nil_append, toNat_ofNat_lt (show 240 + c / 262144 < 256 by omega), toNat_ofNat_lt (show 128 + c / 4096 % 64 < 256 by omega), toNat_ofNat_lt (show 128 + c / 64 % 64 < 256 by omega), toNat_ofNat_lt (show 128 + c % 64 < 256 by omega)])
  replace H := H.toRow (n := 4) (e := 5) (sz := 1) rfl (by simp [maxLen])
  (first | (refine H.wg ?_; clear H; intros; rename_i w H; constructor) | refine wk ?_)
  refine Rel.appB (s := s) (x := ⟨some ⟨b1, 0, none⟩, 4, 4⟩) (xs := xs) (ys := [UInt8.ofNat (240 + c / 262144), UInt8.ofNat (128 + c / 4096 % 64), UInt8.ofNat (128 + c / 64 % 64), UInt8.ofNat (128 + c % 64)]) H (i := 0) rfl (by simp only [List.length_cons, List.length_nil]; omega) ?_
  clear H
  intro r w H
  simp only [List.set_cons_zero] at H
  (first | (refine H.wg ?_; clear H; intros; rename_i w H; constructor) | refine wk ?_)
  exact ⟨r, rfl, H⟩
theorem appendRune_spec {s : Sl} {xs : List UInt8} (H : Rel w0 V0 (.row s 5 1 (xs.flatMap byC) :: own) V w) {c : Nat} (hc : isCh c) (hl : xs.length ≤ 1000000000) :
    Ret Tryd.prog 52 [s.v, rv c].toArray w fun v w' => ∃ r : Sl, v = r.v ∧ Rel w0 V0 (.row r 5 1 ((xs ++ u8c c).flatMap byC) :: own) V w' := by
  have hlt := isCh_lt hc
  have e32 : wr .u32 (c : Int) = (c : Int) := by show (c : Int) % 4294967296 = _; omega
  refine cal_of_vc tabOk Tryd.func52 rfl (by kernel_rfl) 16 rfl (by simp) [0, 1, 4, 7] ?_
  (first | (refine H.wg ?_; clear H; intros; rename_i w H; constructor) | refine wk ?_)
  rw [e32]
  by_cases h1 : c < 128
  · unfold u8c
    rw [if_pos h1]
    (first | (refine H.wh ?_; clear H; intros; rename_i w H; constructor) | refine wk ?_)
    ((first | refine Rel.nwD H ?_ | refine Rel.nw H ?_); clear H; intro w b1 H)
    rw [wr8 (show c < 256 by omega)] at H
    replace H := H.blkEq (c' := [UInt8.ofNat c].flatMap byC) (by simp only [List.flatMap_cons, List.flatMap_nil, byC, bv, List.cons_append, List.nil_append, toNat_ofNat_lt (show c < 256 by omega)])
    replace H := H.toRow (n := 1) (e := 5) (sz := 1) rfl (by simp [maxLen])
    (first | (refine H.wg ?_; clear H; intros; rename_i w H; constructor) | refine wk ?_)
    refine Rel.appB (s := s) (x := ⟨some ⟨b1, 0, none⟩, 1, 1⟩) (xs := xs) (ys := [UInt8.ofNat c]) H (i := 0) rfl (by simp only [List.length_cons, List.length_nil]; omega) ?_
    clear H
    intro r w H
    simp only [List.set_cons_zero] at H
    (first | (refine H.wg ?_; clear H; intros; rename_i w H; constructor) | refine wk ?_)
    exact ⟨r, rfl, H⟩
  (first | (refine H.wg ?_; clear H; intros; rename_i w H; constructor) | refine wk ?_)
  refine (appendRuneNA_spec H hc h1 hl).use ?_
  clear H
  rintro v w ⟨r, rfl, H⟩
  (first | (refine H.wg ?_; clear H; intros; rename_i w H; constructor) | refine wk ?_)
  exact ⟨r, rfl, H⟩
end
end Go.Proofs.YtgnaojphgdaalaaDoor
namespace Go.Proofs.YtgnaojphgdaalaaDoor
open Go Go.RowKit

theorem widC_cases (a : Nat) : (a < 128 ∧ widC a = 1 ∧ headC a = a) ∨ (128 ≤ a ∧ a < 192 ∧ widC a = 0 ∧ headC a = 0) ∨ (192 ≤ a ∧ a < 224 ∧ widC a = 2 ∧ headC a = a - 192) ∨ (224 ≤ a ∧ a < 240 ∧ widC a = 3 ∧ headC a = a - 224) ∨ (240 ≤ a ∧ widC a = 4 ∧ headC a = a - 240) := by
  unfold widC headC
  by_cases h1 : a < 128
  · rw [if_pos h1, if_pos h1]; left; exact ⟨h1, rfl, rfl⟩
  rw [if_neg h1, if_neg h1]
  by_cases h2 : a < 192
  · rw [if_pos h2, if_pos h2]; right; left; exact ⟨by omega, h2, rfl, rfl⟩
  rw [if_neg h2, if_neg h2]
  by_cases h3 : a < 224
  · rw [if_pos h3, if_pos h3]; right; right; left; exact ⟨by omega, h3, rfl, rfl⟩
  rw [if_neg h3, if_neg h3]
  by_cases h4 : a < 240
  · rw [if_pos h4, if_pos h4]; right; right; right; left; exact ⟨by omega, h4, rfl, rfl⟩
  rw [if_neg h4, if_neg h4]
  right; right; right; right; exact ⟨by omega, rfl, rfl⟩
theorem u8n_cases (c : Nat) : (c < 128 ∧ u8n c = 1) ∨ (128 ≤ c ∧ c < 2048 ∧ u8n c = 2) ∨ (2048 ≤ c ∧ c < 65536 ∧ u8n c = 3) ∨ (65536 ≤ c ∧ u8n c = 4) := by
  unfold u8n
  by_cases h1 : c < 128
  · rw [if_pos h1]; exact .inl ⟨h1, rfl⟩
  rw [if_neg h1]
  by_cases h2 : c < 2048
  · rw [if_pos h2]; exact .inr (.inl ⟨by omega, h2, rfl⟩)
  rw [if_neg h2]
  by_cases h3 : c < 65536
  · rw [if_pos h3]; exact .inr (.inr (.inl ⟨by omega, h3, rfl⟩))
  rw [if_neg h3]
  exact .inr (.inr (.inr ⟨by omega, rfl⟩))
theorem tl_2 {l : List UInt8} (h1 : tail8 l 1) : ∀ j, j < 2 → 0 < j → tail8 l j := fun j hj hj2 => by
  obtain rfl : j = 1 := by omega
  exact h1
theorem tl_3 {l : List UInt8} (h1 : tail8 l 1) (h2 : tail8 l 2) : ∀ j, j < 3 → 0 < j → tail8 l j := fun j hj hj2 => by
  obtain rfl | rfl : j = 1 ∨ j = 2 := by omega
  · exact h1
  · exact h2
theorem tl_4 {l : List UInt8} (h1 : tail8 l 1) (h2 : tail8 l 2) (h3 : tail8 l 3) : ∀ j, j < 4 → 0 < j → tail8 l j := fun j hj hj2 => by
  obtain rfl | rfl | rfl : j = 1 ∨ j = 2 ∨ j = 3 := by omega
  · exact h1
  · exact h2
  · exact h3
/-- what the model's decoder finds at a list's head -/
theorem decN_ch {l : List UInt8} (hne : l ≠ []) : Lib.decodeN l.length (at8 l 0) (at8 l 1) (at8 l 2) (at8 l 3) = match chAt l with
    | some x => x
    | none => (65533, 1) := by
  have hl := List.length_pos_iff.2 hne
  have b0 : at8 l 0 < 256 := UInt8.toNat_lt _
  have b1 : at8 l 1 < 256 := UInt8.toNat_lt _
  have b2 : at8 l 2 < 256 := UInt8.toNat_lt _
  have b3 : at8 l 3 < 256 := UInt8.toNat_lt _
  unfold chAt
  rcases widC_cases (at8 l 0) with ⟨h1, hw, hh⟩ | ⟨h1, h2, hw, hh⟩ | ⟨h1, h2, hw, hh⟩ | ⟨h1, h2, hw, hh⟩ | ⟨h1, hw, hh⟩
  · have hr : rawC l = at8 l 0 := by unfold rawC; rw [hw, hh]; rfl
    rw [hr, hw]
    rw [if_pos ⟨by decide, by omega, fun j hj hj2 => by omega, by unfold isCh; omega, by unfold u8n; rw [if_pos h1]⟩]
    unfold Lib.decodeN
    rw [if_pos h1]
  · rw [hw, if_neg (fun k => by have := k.pos; omega)]
    exact Lib.decodeN_bad _ _ _ _ _ (.inl ⟨h1, by omega⟩)
  · have hr : rawC l = 64 * (at8 l 0 - 192) + (at8 l 1 - 128) := by unfold rawC; rw [hw, hh]; exact acc1 _ _
    have hn := u8n_cases (rawC l)
    rw [hw]
    unfold Lib.decodeN
    rw [if_neg (by omega)]
    by_cases hk : ChOk l (rawC l) 2
    · rw [if_pos hk]
      obtain ⟨_, k2, k3, k4, k5⟩ := hk
      obtain ⟨t1, t2⟩ := k3 1 (by decide) (by decide)
      rw [if_pos (by omega), if_pos (by omega)]
      exact Prod.ext (by simp only; omega) rfl
    · rw [if_neg hk]
      by_cases hc : at8 l 0 / 32 = 6 ∧ 1 < l.length ∧ at8 l 1 / 64 = 2
      · rw [if_pos hc]
        by_cases hc2 : at8 l 0 % 32 * 64 + at8 l 1 % 64 ≥ 128
        · exact absurd ⟨by decide, by omega, tl_2 (by unfold tail8; omega), by unfold isCh; omega, by omega⟩ hk
        · rw [if_neg hc2]
      · rw [if_neg hc, if_neg (by omega), if_neg (by omega)]
  · have hr : rawC l = 64 * (64 * (at8 l 0 - 224) + (at8 l 1 - 128)) + (at8 l 2 - 128) := by unfold rawC; rw [hw, hh]; exact acc2 _ _
    have hn := u8n_cases (rawC l)
    rw [hw]
    unfold Lib.decodeN
    rw [if_neg (by omega), if_neg (by omega)]
    by_cases hk : ChOk l (rawC l) 3
    · rw [if_pos hk]
      obtain ⟨_, k2, k3, k4, k5⟩ := hk
      obtain ⟨t1, t2⟩ := k3 1 (by decide) (by decide)
      obtain ⟨t3, t4⟩ := k3 2 (by decide) (by decide)
      unfold isCh at k4
      rw [if_pos (by omega), if_pos (by omega)]
      exact Prod.ext (by simp only; omega) rfl
    · rw [if_neg hk]
      by_cases hc : at8 l 0 / 16 = 14 ∧ (1 < l.length ∧ at8 l 1 / 64 = 2) ∧ (2 < l.length ∧ at8 l 2 / 64 = 2)
      · rw [if_pos hc]
        by_cases hc2 : at8 l 0 % 16 * 4096 + at8 l 1 % 64 * 64 + at8 l 2 % 64 ≥ 2048 ∧ (at8 l 0 % 16 * 4096 + at8 l 1 % 64 * 64 + at8 l 2 % 64 < 55296 ∨ (57344 ≤ at8 l 0 % 16 * 4096 + at8 l 1 % 64 * 64 + at8 l 2 % 64 ∧ at8 l 0 % 16 * 4096 + at8 l 1 % 64 * 64 + at8 l 2 % 64 ≤ 1114111))
        · exact absurd ⟨by decide, by omega, tl_3 (by unfold tail8; omega) (by unfold tail8; omega), by unfold isCh; omega, by omega⟩ hk
        · rw [if_neg hc2]
      · rw [if_neg hc, if_neg (by omega)]
  · have hr : rawC l = 64 * (64 * (64 * (at8 l 0 - 240) + (at8 l 1 - 128)) + (at8 l 2 - 128)) + (at8 l 3 - 128) := by unfold rawC; rw [hw, hh]; exact acc3 _ _
    have hn := u8n_cases (rawC l)
    rw [hw]
    unfold Lib.decodeN
    rw [if_neg (by omega), if_neg (by omega), if_neg (by omega)]
    by_cases hk : ChOk l (rawC l) 4
    · rw [if_pos hk]
      obtain ⟨_, k2, k3, k4, k5⟩ := hk
      obtain ⟨t1, t2⟩ := k3 1 (by decide) (by decide)
      obtain ⟨t3, t4⟩ := k3 2 (by decide) (by decide)
      obtain ⟨t5, t6⟩ := k3 3 (by decide) (by decide)
      unfold isCh at k4
      rw [if_pos (by omega), if_pos (by omega)]
      exact Prod.ext (by simp only; omega) rfl
    · rw [if_neg hk]
      by_cases hc : at8 l 0 / 8 = 30 ∧ (1 < l.length ∧ at8 l 1 / 64 = 2) ∧ (2 < l.length ∧ at8 l 2 / 64 = 2) ∧ (3 < l.length ∧ at8 l 3 / 64 = 2)
      · rw [if_pos hc]
        by_cases hc2 : at8 l 0 % 8 * 262144 + at8 l 1 % 64 * 4096 + at8 l 2 % 64 * 64 + at8 l 3 % 64 ≥ 65536 ∧ (at8 l 0 % 8 * 262144 + at8 l 1 % 64 * 4096 + at8 l 2 % 64 * 64 + at8 l 3 % 64 < 55296 ∨ (57344 ≤ at8 l 0 % 8 * 262144 + at8 l 1 % 64 * 4096 + at8 l 2 % 64 * 64 + at8 l 3 % 64 ∧ at8 l 0 % 8 * 262144 + at8 l 1 % 64 * 4096 + at8 l 2 % 64 * 64 + at8 l 3 % 64 ≤ 1114111))
        · exact absurd ⟨by decide, by omega, tl_4 (by unfold tail8; omega) (by unfold tail8; omega) (by unfold tail8; omega), by unfold isCh; omega, by omega⟩ hk
        · rw [if_neg hc2]
      · rw [if_neg hc]
theorem getD_at8 (l : List UInt8) (i : Nat) : (l.getD i 0).toNat = at8 l i := by simp [at8, List.getD_eq_getElem?_getD]
theorem validD_chars : ∀ (n : Nat) {l : List UInt8}, l.length ≤ n → Lib.validD l = (chars l).isSome
  | 0, l, h => by
    have : l = [] := List.eq_nil_of_length_eq_zero (by omega)
    subst this
    rfl
  | n + 1, l, h => by
    by_cases hn : l = []
    · subst hn; rfl
    rw [Lib.validD_step l hn, Lib.decodeL_N, getD_at8, getD_at8, getD_at8, getD_at8, decN_ch hn, chars_step hn]
    cases hc : chAt l with
    | none => simp
    | some x =>
      obtain ⟨c, k⟩ := x
      obtain ⟨q0, q1, q2, _⟩ := chAt_some hc
      have hu := u8n_le c
      simp only
      have hneg : ¬ (c = 65533 ∧ k = 1) := fun ⟨e1, e2⟩ => by
        rw [e1] at q1
        rw [e2] at q1
        revert q1
        decide
      rw [if_neg hneg, validD_chars n (by rw [List.length_drop]; omega)]
      cases chars (l.drop k) <;> rfl
theorem str_list (l : List UInt8) : (⟨l.toArray⟩ : ByteArray).data.toList = l := by simp
theorem decode_str {l : List UInt8} {i c n : Nat} (h : chAt (l.drop i) = some (c, n)) : Utf8.decode ⟨l.toArray⟩ i = (c, n) := by
  have hne : l.drop i ≠ [] := by
    intro e
    rw [e] at h
    obtain ⟨_, q1, q2, _⟩ := chAt_some h
    have := u8n_le c
    simp at q2
    omega
  have key : ∀ k, ((⟨l.toArray⟩ : ByteArray).data.toList.getD (i + k) 0).toNat = at8 (l.drop i) k := fun k => by
    rw [str_list, getD_at8]
    simp [at8, List.getElem?_drop]
  have k0 := key 0
  rw [Nat.add_zero] at k0
  rw [Lib.decode_N, k0, key, key, key, str_list, ← List.length_drop, decN_ch hne, h]
end Go.Proofs.YtgnaojphgdaalaaDoor
