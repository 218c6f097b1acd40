/-
  Files of trees, the reference: Decimal, Hex, quoted, numberOf, unquoted, tokensOf.
-/
import Derived.Test.YtffaffojkfalhaaGreatDoorTreQ
import Derived.Test.YtffaffojkfalhaaGreatDoorTreF
import Derived.Test.YtffaffojkfalhaaGreatDoorTreG
namespace Go.Proofs.YtffaffojkfalhaaGreatDoor
open Go Go.RowKit

/-! ### numbers -/
theorem dec_len (u : Nat) (h : u < 18446744073709551616) : (Lib.decDigits u).length ≤ 30 := by
  by_cases h1 : u < 9223372036854775808
  · have := Lib.itoa_length_le (u : Int) (by omega) (by omega)
    have e : Lib.itoa (u : Int) = Lib.decDigits u := by unfold Lib.itoa; rw [if_neg (by omega), Int.toNat_natCast]
    rw [e] at this
    omega
  · rw [decDigits_step (by omega), List.length_append, List.length_singleton]
    have := Lib.itoa_length_le ((u / 10 : Nat) : Int) (by omega) (by omega)
    have e : Lib.itoa ((u / 10 : Nat) : Int) = Lib.decDigits (u / 10) := by unfold Lib.itoa; rw [if_neg (by omega), Int.toNat_natCast]
    rw [e] at this
    omega
/-- what is left, what is written -/
def DecI (u n : Nat) (s : List UInt8) : Prop := (s = [] ∧ n = u) ∨ (s ≠ [] ∧ n = 0 ∧ s = Lib.decDigits u) ∨ (s ≠ [] ∧ 0 < n ∧ Lib.decDigits u = Lib.decDigits n ++ s)
theorem DecI.step {u n : Nat} {s : List UInt8} (h : DecI u n s) (hc : s = [] ∨ 0 < n) : DecI u (n / 10) (UInt8.ofNat (48 + n % 10) :: s) := by
  have key : Lib.decDigits u = Lib.decDigits n ++ s := by
    rcases h with ⟨rfl, rfl⟩ | ⟨h1, h2, _⟩ | ⟨_, _, h⟩
    · simp
    · rcases hc with hc | hc
      · exact absurd hc h1
      · omega
    · exact h
  by_cases h10 : n < 10
  · refine .inr (.inl ⟨by simp, by omega, ?_⟩)
    rw [key, Lib.decDigits_one h10, show n % 10 = n by omega]
    rfl
  · refine .inr (.inr ⟨by simp, by omega, ?_⟩)
    rw [key, decDigits_step h10]
    simp
section
variable {V W : World}
set_option maxRecDepth 100000 in
theorem dec_nat (hV : Sub V W) {u : Nat} (hu : u < 9223372036854775808) : Ret Tryz.prog 57 [iv (u : Int)].toArray W fun v w' => v = str (Lib.decDigits u) ∧ Rel W V [] V w' := by
  have H := Rel.start hV
  have hdl := dec_len u (by omega)
  refine cal_of_vc tabOk Tryz.func57 rfl (by kernel_rfl) 29 rfl (by simp) [0, 2, 3, 5, 7, 17] ?_
  (first | (refine H.wg ?_; clear H; intros; rename_i w H; constructor) | refine wk ?_)
  refine loop_inv (S := Nat × List UInt8) tabOk [2, 5, 7] (fun k => [(0, iv (k.1 : Int)), (3, str k.2)]) (fun k w' => k.1 ≤ u ∧ DecI u k.1 k.2 ∧ Rel W V [] V w') (fun k _ => k.1 + (if k.2 = [] then 1 else 0)) (u, []) ?_
  (conv => whnf)
  refine ⟨(by repeat (first | exact trivial | refine ⟨rfl, ?_⟩)), ⟨Nat.le_refl _, .inl ⟨rfl, rfl⟩, H.sx⟩, ?_⟩
  clear H
  rintro ⟨n, s⟩ w ⟨hn, hI, H⟩
  dsimp only at hn hI H ⊢
  have hsl : s.length ≤ 30 := by
    rcases hI with ⟨rfl, _⟩ | ⟨_, _, rfl⟩ | ⟨_, _, h⟩
    · simp
    · exact hdl
    · have := congrArg List.length h
      rw [List.length_append] at this
      omega
  have fin : s ≠ [] → n = 0 → s = Lib.decDigits u := fun h1 h2 => by
    rcases hI with ⟨h, _⟩ | ⟨_, _, h⟩ | ⟨_, h, _⟩
    · exact absurd h h1
    · exact h
    · omega
  by_cases hend : s ≠ [] ∧ n = 0
  · obtain ⟨c, r, hcr⟩ : ∃ c r, s = c :: r := by
      cases s with
      | nil => exact absurd rfl hend.1
      | cons c r => exact ⟨c, r, rfl⟩
    have hs2 := fin hend.1 hend.2
    subst hcr
    (first | (refine H.wg ?_; clear H; intros; rename_i w H; constructor) | refine wk ?_)
    exact ⟨by rw [hs2], H.sx⟩
  have hst := hI.step (by
    by_cases h : s = []
    · exact .inl h
    · exact .inr (Nat.pos_of_ne_zero fun e => hend ⟨h, e⟩))
  have e0 : ((n : Int) / 10) = ((n / 10 : Nat) : Int) := by omega
  have e8 : Value.int .u8 (wr .u8 (48 + (n : Int) % 10)) = bv (UInt8.ofNat (48 + n % 10)) := by
    unfold bv
    rw [toNat_ofNat_lt (by omega)]
    congr 1
    show (48 + (n : Int) % 10) % 256 = _
    omega
  by_cases hs0 : s = []
  · subst hs0
    (first | (refine H.wh ?_; clear H; intros; rename_i w H; constructor) | refine wk ?_)
    ((first | refine Rel.nwD H ?_ | refine Rel.nw H ?_); clear H; intro w b22 H)
    (first | (refine H.wg ?_; clear H; intros; rename_i w H; constructor) | refine wk ?_)
    have hcl := (H.bk_0).cells
    rw [e8] at hcl
    refine ⟨[UInt8.ofNat (48 + n % 10)], rfl, hcl, ?_⟩
    (first | (refine H.wg ?_; clear H; intros; rename_i w H; constructor) | refine wk ?_)
    refine ⟨by simp only [List.length_cons, List.length_nil] at hsl ⊢; omega, ?_⟩
    (first | (refine H.wg ?_; clear H; intros; rename_i w H; constructor) | refine wk ?_)
    refine ⟨(by repeat (first | exact trivial | refine ⟨rfl, ?_⟩)), (n / 10, UInt8.ofNat (48 + n % 10) :: []), (by repeat (first | exact trivial | refine ⟨rfl, ?_⟩)), ⟨by dsimp only; omega, hst, H.sx⟩, ?_⟩
    dsimp only
    rw [if_pos rfl, if_neg (by simp)]
    omega
  · obtain ⟨c, r, hcr⟩ : ∃ c r, s = c :: r := by
      cases s with
      | nil => exact absurd rfl hs0
      | cons c r => exact ⟨c, r, rfl⟩
    have hn0 : n ≠ 0 := fun e => hend ⟨hs0, e⟩
    subst hcr
    (first | (refine H.wh ?_; clear H; intros; rename_i w H; constructor) | refine wk ?_)
    ((first | refine Rel.nwD H ?_ | refine Rel.nw H ?_); clear H; intro w b22 H)
    (first | (refine H.wg ?_; clear H; intros; rename_i w H; constructor) | refine wk ?_)
    have hcl := (H.bk_0).cells
    rw [e8] at hcl
    refine ⟨[UInt8.ofNat (48 + n % 10)], rfl, hcl, ?_⟩
    (first | (refine H.wg ?_; clear H; intros; rename_i w H; constructor) | refine wk ?_)
    refine ⟨by simp only [List.length_cons, List.length_nil] at hsl ⊢; omega, ?_⟩
    (first | (refine H.wg ?_; clear H; intros; rename_i w H; constructor) | refine wk ?_)
    refine ⟨(by repeat (first | exact trivial | refine ⟨rfl, ?_⟩)), (n / 10, UInt8.ofNat (48 + n % 10) :: (c :: r)), (by repeat (first | exact trivial | refine ⟨rfl, ?_⟩)), ⟨by dsimp only; omega, hst, H.sx⟩, ?_⟩
    dsimp only
    rw [if_neg (by simp), if_neg (by simp)]
    omega
theorem dec_min : Lib.decDigits 9223372036854775808 = [57, 50, 50, 51, 51, 55, 50, 48, 51, 54, 56, 53, 52, 55, 55, 53, 56, 48, 56] := by simp [Lib.decDigits]
set_option maxRecDepth 100000 in
theorem dec_ref (hV : Sub V W) {n : Int} (hn : I64 n) : Ret Tryz.prog 57 [iv n].toArray W fun v w' => v = str (Lib.itoa n) ∧ Rel W V [] V w' := by
  by_cases h0 : 0 ≤ n
  · obtain ⟨u, rfl⟩ : ∃ u : Nat, n = u := ⟨n.toNat, by omega⟩
    have e : Lib.itoa (u : Int) = Lib.decDigits u := by unfold Lib.itoa; rw [if_neg (by omega), Int.toNat_natCast]
    rw [e]
    exact dec_nat hV (by omega)
  have H := Rel.start hV
  have e : Lib.itoa n = 45 :: Lib.decDigits n.natAbs := by unfold Lib.itoa; rw [if_pos (by omega)]
  rw [e]
  refine cal_of_vc tabOk Tryz.func57 rfl (by kernel_rfl) 29 rfl (by simp) [0, 2, 3, 5, 7, 17] ?_
  by_cases h1 : n = -9223372036854775808
  · subst h1
    (first | (refine H.wg ?_; clear H; intros; rename_i w H; constructor) | refine wk ?_)
    refine ⟨?_, H.sx⟩
    rw [show (-9223372036854775808 : Int).natAbs = 9223372036854775808 from rfl, dec_min]
  obtain ⟨u, rfl⟩ : ∃ u : Nat, n = -(u : Int) := ⟨n.natAbs, by omega⟩
  have hul := dec_len u (by omega)
  rw [show (-(u : Int)).natAbs = u by omega]
  (first | (refine H.wg ?_; clear H; intros; rename_i w H; constructor) | refine wk ?_)
  rw [show 0 - -(u : Int) = (u : Int) by omega]
  refine (dec_nat H.data (u := u) (by omega)).use ?_
  rintro v w ⟨rfl, K⟩
  (have hKb := K.base; replace H := Rel.call H K)
  simp only [List.nil_append] at H
  (first | (refine H.wg ?_; clear H; intros; rename_i w H; constructor) | refine wk ?_)
  refine ⟨by simp only [List.length_cons, List.length_nil]; omega, ?_⟩
  (first | (refine H.wg ?_; clear H; intros; rename_i w H; constructor) | refine wk ?_)
  first | exact H.sx | exact ⟨rfl, H.sx⟩
/-! ### strings -/
theorem hexS_cut {n : Nat} (h : n < 16) : ((hexS.take (n + 1)).drop n) = [hexD n] := by
  have key : ∀ n : Fin 16, ((hexS.take (n.val + 1)).drop n.val) = [hexD n.val] := by decide
  exact key ⟨n, h⟩
set_option maxRecDepth 100000 in
theorem hexT_ref (hV : Sub V W) {n : Nat} (hn : n < 256) : Ret Tryz.prog 78 [iv (n : Int)].toArray W fun v w' => v = str [hexD (n / 16), hexD (n % 16)] ∧ Rel W V [] V w' := by
  have H := Rel.start hV
  have e1 : ((n : Int) / 16).toNat = n / 16 := by omega
  have e2 : ((n : Int) / 16 + 1).toNat = n / 16 + 1 := by omega
  have e3 : ((n : Int) % 16).toNat = n % 16 := by omega
  have e4 : ((n : Int) % 16 + 1).toNat = n % 16 + 1 := by omega
  refine cal_of_vc tabOk Tryz.func78 rfl (by kernel_rfl) 16 rfl (by simp) [0, 2] ?_
  (first | (refine H.wg ?_; clear H; intros; rename_i w H; constructor) | refine wk ?_)
  ((first | refine draw_vc (id := 1) tabOk mixed [] [0, 1, 2, 3, 4, 5, 6, 7, 8, 9, 10, 11, 12, 13] (by kernel_rfl) ?_); intro w hdw; replace H := Rel.ext H hdw.ext)
  (first | (refine H.wg ?_; clear H; intros; rename_i w H; constructor) | refine wk ?_)
  refine ⟨⟨by omega, by show _ ≤ (16 : Int); omega⟩, ?_⟩
  (first | (refine H.wg ?_; clear H; intros; rename_i w H; constructor) | refine wk ?_)
  refine ⟨⟨by omega, by show _ ≤ (16 : Int); omega⟩, ?_⟩
  (first | (refine H.wg ?_; clear H; intros; rename_i w H; constructor) | refine wk ?_)
  rw [e1, e2, e3, e4, hexS_cut (n := n / 16) (by omega), hexS_cut (n := n % 16) (by omega)]
  (first | (refine H.wg ?_; clear H; intros; rename_i w H; constructor) | refine wk ?_)
  refine ⟨by simp, ?_⟩
  (first | (refine H.wg ?_; clear H; intros; rename_i w H; constructor) | refine wk ?_)
  first | exact H.sx | exact ⟨rfl, H.sx⟩
theorem one_cut {l : List UInt8} {k : Nat} (h : k < l.length) : (l.take (k + 1)).drop k = [l[k]] := by
  rw [List.take_succ_eq_append_getElem h, List.drop_append_of_le_length (by rw [List.length_take]; omega), List.drop_take]
  simp
set_option maxRecDepth 100000 in
set_option maxHeartbeats 1000000 in
theorem quotedR_ref (hV : Sub V W) {s : Sl} {b : List UInt8} (hs : Byt V s b) (hl : b.length ≤ 100000000) : Ret Tryz.prog 58 [s.v].toArray W fun q w' => q = str (quoT b) ∧ Rel W V [] V w' := by
  have H := Rel.start hV
  have hlen := hs.len
  have hcap := hs.cap
  refine cal_of_vc tabOk Tryz.func58 rfl (by kernel_rfl) 49 rfl (by simp) [0, 2, 3, 4, 5, 9, 22, 33] ?_
  (first | (refine H.wg ?_; clear H; intros; rename_i w H; constructor) | refine wk ?_)
  refine loop_inv (S := Nat × List UInt8) tabOk [0, 2] (fun k => [(4, iv (k.1 : Int)), (3, str k.2)]) (fun k w' => k.1 ≤ b.length ∧ k.2 = 34 :: quoL (b.take k.1) ∧ Rel W V [] V w') (fun k _ => b.length - k.1) (0, [34]) ?_
  (conv => whnf)
  refine ⟨(by repeat (first | exact trivial | refine ⟨rfl, ?_⟩)), ⟨Nat.zero_le _, rfl, H.sx⟩, ?_⟩
  clear H
  rintro ⟨k, t⟩ w ⟨hk, ht, H⟩
  dsimp only at hk ht H ⊢
  have hql := quoL_len (b.take k)
  rw [List.length_take] at hql
  have htl : t.length ≤ 4 * b.length + 1 := by rw [ht, List.length_cons]; omega
  by_cases hlt : k < b.length
  rotate_left
  · rw [List.take_of_length_le (by omega)] at ht
    (first | (refine H.wg ?_; clear H; intros; rename_i w H; constructor) | refine wk ?_)
    refine ⟨by simp; omega, ?_⟩
    (first | (refine H.wg ?_; clear H; intros; rename_i w H; constructor) | refine wk ?_)
    exact ⟨by rw [ht]; rfl, H.sx⟩
  obtain ⟨p0, c0⟩ := hs.at1 (g := bv) (fun _ => rfl) hlt
  obtain ⟨c, hc⟩ : ∃ c, c = b[k] := ⟨_, rfl⟩
  rw [← hc] at c0
  have hc8 := c.toNat_lt
  have hsub := SlF.sub hs (n := 1) (fun _ => rfl) (a := k) (b := k + 1) (by omega) (by omega)
  rw [one_cut hlt, ← hc] at hsub
  have hnx := quoL_take hlt
  rw [← hc] at hnx
  by_cases h34 : c = 34
  · have hq : quoB c = [92, c] := quoB_esc (.inl h34)
    have h34' : c.toNat = 34 := by rw [h34]; rfl
    (first | (refine H.wg ?_; clear H; intros; rename_i w H; constructor) | refine wk ?_)
    refine ⟨by simp; omega, ?_⟩
    (first | (refine H.wg ?_; clear H; intros; rename_i w H; constructor) | refine wk ?_)
    refine ⟨[c], by simp, byC_map _ ▸ (hsub.up H.data).cells, ?_⟩
    (first | (refine H.wg ?_; clear H; intros; rename_i w H; constructor) | refine wk ?_)
    refine ⟨by simp; omega, ?_⟩
    (first | (refine H.wg ?_; clear H; intros; rename_i w H; constructor) | refine wk ?_)
    rw [ht]
    refine ⟨(by repeat (first | exact trivial | refine ⟨rfl, ?_⟩)), (k + 1, 34 :: quoL (b.take (k + 1))), ⟨rfl, by rw [hnx, hq]; simp [str]; rfl, trivial⟩, ⟨by dsimp only; omega, rfl, H.sx⟩, by dsimp only; omega⟩
  by_cases h92 : c = 92
  · have hq : quoB c = [92, c] := quoB_esc (.inr h92)
    have h92' : c.toNat = 92 := by rw [h92]; rfl
    (first | (refine H.wg ?_; clear H; intros; rename_i w H; constructor) | refine wk ?_)
    refine ⟨by simp; omega, ?_⟩
    (first | (refine H.wg ?_; clear H; intros; rename_i w H; constructor) | refine wk ?_)
    refine ⟨[c], by simp, byC_map _ ▸ (hsub.up H.data).cells, ?_⟩
    (first | (refine H.wg ?_; clear H; intros; rename_i w H; constructor) | refine wk ?_)
    refine ⟨by simp; omega, ?_⟩
    (first | (refine H.wg ?_; clear H; intros; rename_i w H; constructor) | refine wk ?_)
    rw [ht]
    refine ⟨(by repeat (first | exact trivial | refine ⟨rfl, ?_⟩)), (k + 1, 34 :: quoL (b.take (k + 1))), ⟨rfl, by rw [hnx, hq]; simp [str]; rfl, trivial⟩, ⟨by dsimp only; omega, rfl, H.sx⟩, by dsimp only; omega⟩
  have n34 : c.toNat ≠ 34 := fun e => h34 (UInt8.toNat_inj.1 e)
  have n92 : c.toNat ≠ 92 := fun e => h92 (UInt8.toNat_inj.1 e)
  have nq : ¬ (c = 34 ∨ c = 92) := by rintro (h | h); exact h34 h; exact h92 h
  (first | (refine H.wg ?_; clear H; intros; rename_i w H; constructor) | refine wk ?_)
  refine (in_ref (c.toNat : Int) 32 126 _).use ?_
  rintro q w' ⟨rfl, rfl⟩
  by_cases hsp : 32 ≤ c.toNat ∧ c.toNat ≤ 126
  · have hq : quoB c = [c] := quoB_plain nq (by simp [spcB]; omega)
    rw [decide_eq_true (by omega)]
    (first | (refine H.wg ?_; clear H; intros; rename_i w H; constructor) | refine wk ?_)
    refine ⟨[c], by simp, byC_map _ ▸ (hsub.up H.data).cells, ?_⟩
    (first | (refine H.wg ?_; clear H; intros; rename_i w H; constructor) | refine wk ?_)
    refine ⟨by simp; omega, ?_⟩
    (first | (refine H.wg ?_; clear H; intros; rename_i w H; constructor) | refine wk ?_)
    rw [ht]
    refine ⟨(by repeat (first | exact trivial | refine ⟨rfl, ?_⟩)), (k + 1, 34 :: quoL (b.take (k + 1))), ⟨rfl, by rw [hnx, hq]; simp [str]; rfl, trivial⟩, ⟨by dsimp only; omega, rfl, H.sx⟩, by dsimp only; omega⟩
  · have hq : quoB c = [92, 120, hexD (c.toNat / 16), hexD (c.toNat % 16)] := quoB_spc (by simp [spcB]; omega)
    rw [decide_eq_false (by omega)]
    (first | (refine H.wg ?_; clear H; intros; rename_i w H; constructor) | refine wk ?_)
    refine ⟨by simp; omega, ?_⟩
    (first | (refine H.wg ?_; clear H; intros; rename_i w H; constructor) | refine wk ?_)
    refine (hexT_ref H.data (n := c.toNat) (by omega)).use ?_
    rintro v w ⟨rfl, K⟩
    (have hKb := K.base; replace H := H.call0 K)
    (first | (refine H.wg ?_; clear H; intros; rename_i w H; constructor) | refine wk ?_)
    refine ⟨by simp; omega, ?_⟩
    (first | (refine H.wg ?_; clear H; intros; rename_i w H; constructor) | refine wk ?_)
    rw [ht]
    refine ⟨(by repeat (first | exact trivial | refine ⟨rfl, ?_⟩)), (k + 1, 34 :: quoL (b.take (k + 1))), ⟨rfl, by rw [hnx, hq]; simp [str]; rfl, trivial⟩, ⟨by dsimp only; omega, rfl, H.sx⟩, by dsimp only; omega⟩
end
end Go.Proofs.YtffaffojkfalhaaGreatDoor
namespace Go.Proofs.YtffaffojkfalhaaGreatDoor
open Go Go.RowKit

section
variable {V W : World}
theorem wrap_hi {x : Int} (h1 : 9223372036854775808 ≤ x) (h2 : x < 18446744073709551616) : IntKind.i64.wrap x = x - 18446744073709551616 := by
  have key : ∀ m p : Int, m = 18446744073709551616 → p = 9223372036854775808 → (if (true && decide (x % m ≥ p)) = true then x % m - m else x % m) = x - 18446744073709551616 := by
    rintro m p rfl rfl
    simp only [Bool.true_and, ge_iff_le, decide_eq_true_eq]
    split <;> omega
  exact key (2 ^ 64) (2 ^ 63) (by decide) (by decide)
set_option maxRecDepth 100000 in
set_option maxHeartbeats 1000000 in
theorem numberOf_ref (hV : Sub V W) {s : List UInt8} (hl : s.length ≤ 1000000) : Ret Tryz.prog 55 [str s].toArray W fun q w' => ∃ (n : Int) (k : Bool), q = .tuple #[iv n, .bool k] ∧ I64 n ∧ trNum s = (if k = true then some n else none) ∧ Rel W V [] V w' := by
  have H := Rel.start hV
  have hsz : (ByteArray.mk s.toArray).size = s.length := rfl
  refine cal_of_vc tabOk Tryz.func55 rfl (by kernel_rfl) 60 rfl (by simp) [0, 2, 3, 4, 5, 6, 10, 20, 31, 33, 51] ?_
  (first | (refine H.wg ?_; clear H; intros; rename_i w H; constructor) | refine wk ?_)
  refine SemC.cut 0 (fun u : Nat => [(0, str s), (4, .int .u64 (u : Int))]) (fun u w' => u = dvN s ∧ u ≤ 9223372036854775809 ∧ Rel W V [] V w') ?_ ?_
  · refine loop_inv (S := Nat × Nat) tabOk [0, 6, 51] (fun k => [(4, .int .u64 (k.2 : Int)), (5, iv (k.1 : Int))]) (fun k w' => k.1 ≤ s.length ∧ k.2 = dvN (s.take k.1) ∧ k.2 ≤ 9223372036854775809 ∧ Rel W V [] V w') (fun k _ => s.length - k.1) (0, 0) ?_
    (conv => whnf)
    refine ⟨(by repeat (first | exact trivial | refine ⟨rfl, ?_⟩)), ⟨Nat.zero_le _, rfl, by decide, H.sx⟩, ?_⟩
    clear H
    rintro ⟨i, u⟩ w ⟨hi, hu, hu9, H⟩
    dsimp only at hi hu hu9 H ⊢
    by_cases hlt : i < s.length
    rotate_left
    · rw [List.take_of_length_le (by omega)] at hu
      (first | (refine H.wg ?_; clear H; intros; rename_i w H; constructor) | refine wk ?_)
      exact ⟨u, (by repeat (first | exact trivial | refine ⟨rfl, ?_⟩)), hu, hu9, H.sx⟩
    have hsi : s[((i : Nat) : Int).toNat]? = some s[i] := by simp [hlt]
    obtain ⟨c, hc⟩ : ∃ c, c = s[i] := ⟨_, rfl⟩
    rw [← hc] at hsi
    have hc8 := c.toNat_lt
    have hstep := dv_take hlt
    rw [← hu, ← hc] at hstep
    by_cases h45 : c = 45
    · have h45' : c.toNat = 45 := by rw [h45]; rfl
      by_cases h0 : i = 0
      · have e : dvS u c = u := by unfold dvS; rw [if_pos h45]
        rw [e] at hstep
        (first | (refine H.wg ?_; clear H; intros; rename_i w H; constructor) | refine wk ?_)
        exact ⟨(by repeat (first | exact trivial | refine ⟨rfl, ?_⟩)), (i + 1, u), (by repeat (first | exact trivial | refine ⟨rfl, ?_⟩)), ⟨by dsimp only; omega, hstep.symm, hu9, H.sx⟩, by dsimp only; omega⟩
      · have hno := num_byte hlt (fun h => h0 h.1) (by rw [← hc, h45]; decide)
        (first | (refine H.wg ?_; clear H; intros; rename_i w H; constructor) | refine wk ?_)
        refine (in_ref (c.toNat : Int) 48 57 _).use ?_
        rintro q w' ⟨rfl, rfl⟩
        rw [decide_eq_false (by omega)]
        (first | (refine H.wg ?_; clear H; intros; rename_i w H; constructor) | refine wk ?_)
        exact ⟨0, false, rfl, ⟨by decide, by decide⟩, by rw [hno]; rfl, H.sx⟩
    have n45 : c.toNat ≠ 45 := fun e => h45 (UInt8.toNat_inj.1 e)
    (first | (refine H.wg ?_; clear H; intros; rename_i w H; constructor) | refine wk ?_)
    refine (in_ref (c.toNat : Int) 48 57 _).use ?_
    rintro q w' ⟨rfl, rfl⟩
    by_cases hd : 48 ≤ c.toNat ∧ c.toNat ≤ 57
    rotate_left
    · have hno := num_byte hlt (fun h => h45 (by rw [hc]; exact h.2)) (by rw [← hc]; simp only [isDg]; simp; omega)
      rw [decide_eq_false (by omega)]
      (first | (refine H.wg ?_; clear H; intros; rename_i w H; constructor) | refine wk ?_)
      exact ⟨0, false, rfl, ⟨by decide, by decide⟩, by rw [hno]; rfl, H.sx⟩
    rw [decide_eq_true (by omega)]
    have hdg : isDg c = true := by simp [isDg, hd]
    by_cases hlong : 20 < s.length
    · have hno := num_long hlong
      (first | (refine H.wg ?_; clear H; intros; rename_i w H; constructor) | refine wk ?_)
      exact ⟨0, false, rfl, ⟨by decide, by decide⟩, by rw [hno]; rfl, H.sx⟩
    by_cases hbig : 922337203685477580 < u
    · have hno := num_big hlt (by rw [← hc]; exact hdg) (by rw [← hu]; exact hbig)
      (first | (refine H.wg ?_; clear H; intros; rename_i w H; constructor) | refine wk ?_)
      exact ⟨0, false, rfl, ⟨by decide, by decide⟩, by rw [hno]; rfl, H.sx⟩
    rw [dvS_dg hdg] at hstep
    (first | (refine H.wg ?_; clear H; intros; rename_i w H; constructor) | refine wk ?_)
    have hw : wr .u64 (wr .u64 (10 * (u : Int)) + wr .u64 (wr .u8 ((c.toNat : Int) - 48))) = ((10 * u + (c.toNat - 48) : Nat) : Int) := by
      show ((10 * (u : Int)) % 18446744073709551616 + (((c.toNat : Int) - 48) % 256) % 18446744073709551616) % 18446744073709551616 = _
      omega
    exact ⟨(by repeat (first | exact trivial | refine ⟨rfl, ?_⟩)), (i + 1, 10 * u + (c.toNat - 48)), ⟨congrArg (fun z => some (Value.int .u64 z)) hw, rfl, trivial⟩, ⟨by dsimp only; omega, hstep.symm, by dsimp only; omega, H.sx⟩, by dsimp only; omega⟩
  clear H
  rintro u w ⟨hu, hu9, H⟩
  cases s with
  | nil =>
    have hu0 : u = 0 := hu
    (first | (refine H.wg ?_; clear H; intros; rename_i w H; constructor) | refine wk ?_)
    refine (dec_ref H.data ⟨by omega, by omega⟩).use ?_
    rintro v w ⟨rfl, K⟩
    (have hKb := K.base; replace H := H.call0 K)
    (first | (refine H.wg ?_; clear H; intros; rename_i w H; constructor) | refine wk ?_)
    refine ⟨_, _, rfl, ⟨by omega, by omega⟩, ?_, H.sx⟩
    exact num_endB ⟨by omega, by omega⟩ (fun h => by cases h) (fun _ _ => by rw [← hu])
  | cons c r =>
    have hc0 : (c :: r)[(0 : Int).toNat]? = some c := rfl
    have hl0 : (c :: r).length = r.length + 1 := rfl
    have hc8 := c.toNat_lt
    by_cases h45 : c = 45
    · have h45' : c.toNat = 45 := by rw [h45]; rfl
      have hh : (c :: r).head? = some 45 := by rw [h45]; rfl
      by_cases hb : u ≤ 9223372036854775807
      · (first | (refine H.wg ?_; clear H; intros; rename_i w H; constructor) | refine wk ?_)
        refine (dec_ref H.data ⟨by omega, by omega⟩).use ?_
        rintro v w ⟨rfl, K⟩
        (have hKb := K.base; replace H := H.call0 K)
        (first | (refine H.wg ?_; clear H; intros; rename_i w H; constructor) | refine wk ?_)
        refine ⟨_, _, rfl, ⟨by omega, by omega⟩, ?_, H.sx⟩
        exact num_endB ⟨by omega, by omega⟩ (fun _ _ => by rw [← hu]; omega) (fun h _ => absurd hh h)
      · by_cases hb2 : u = 9223372036854775808
        · (first | (refine H.wg ?_; clear H; intros; rename_i w H; constructor) | refine wk ?_)
          refine .inr ?_
          rw [wrap_hi (by omega) (by omega)]
          (first | (refine H.wg ?_; clear H; intros; rename_i w H; constructor) | refine wk ?_)
          refine .inr ?_
          rw [wrap_hi (by omega) (by omega)]
          (first | (refine H.wg ?_; clear H; intros; rename_i w H; constructor) | refine wk ?_)
          refine .inr ?_
          rw [wrap_hi (by omega) (by omega)]
          (first | (refine H.wg ?_; clear H; intros; rename_i w H; constructor) | refine wk ?_)
          refine (dec_ref H.data ⟨by omega, by omega⟩).use ?_
          rintro v w ⟨rfl, K⟩
          (have hKb := K.base; replace H := H.call0 K)
          (first | (refine H.wg ?_; clear H; intros; rename_i w H; constructor) | refine wk ?_)
          refine ⟨_, _, rfl, ⟨by omega, by omega⟩, ?_, H.sx⟩
          exact num_endB ⟨by omega, by omega⟩ (fun _ _ => by rw [← hu]; omega) (fun h _ => absurd hh h)
        · (first | (refine H.wg ?_; clear H; intros; rename_i w H; constructor) | refine wk ?_)
          refine .inr ?_
          rw [wrap_hi (by omega) (by omega)]
          (first | (refine H.wg ?_; clear H; intros; rename_i w H; constructor) | refine wk ?_)
          refine .inr ?_
          rw [wrap_hi (by omega) (by omega)]
          (first | (refine H.wg ?_; clear H; intros; rename_i w H; constructor) | refine wk ?_)
          refine (dec_ref H.data ⟨by omega, by omega⟩).use ?_
          rintro v w ⟨rfl, K⟩
          (have hKb := K.base; replace H := H.call0 K)
          (first | (refine H.wg ?_; clear H; intros; rename_i w H; constructor) | refine wk ?_)
          refine ⟨_, _, rfl, ⟨by omega, by omega⟩, ?_, H.sx⟩
          exact num_endB ⟨by omega, by omega⟩ (fun _ h => by rw [← hu] at h; omega) (fun h _ => absurd hh h)
    · have n45 : c.toNat ≠ 45 := fun e => h45 (UInt8.toNat_inj.1 e)
      have hh : (c :: r).head? ≠ some 45 := fun e => h45 (by simpa using e)
      by_cases hb : u ≤ 9223372036854775807
      · (first | (refine H.wg ?_; clear H; intros; rename_i w H; constructor) | refine wk ?_)
        refine (dec_ref H.data ⟨by omega, by omega⟩).use ?_
        rintro v w ⟨rfl, K⟩
        (have hKb := K.base; replace H := H.call0 K)
        (first | (refine H.wg ?_; clear H; intros; rename_i w H; constructor) | refine wk ?_)
        refine ⟨_, _, rfl, ⟨by omega, by omega⟩, ?_, H.sx⟩
        exact num_endB ⟨by omega, by omega⟩ (fun h _ => absurd h hh) (fun _ _ => by rw [← hu])
      · (first | (refine H.wg ?_; clear H; intros; rename_i w H; constructor) | refine wk ?_)
        refine .inr ?_
        rw [wrap_hi (by omega) (by omega)]
        (first | (refine H.wg ?_; clear H; intros; rename_i w H; constructor) | refine wk ?_)
        refine (dec_ref H.data ⟨by omega, by omega⟩).use ?_
        rintro v w ⟨rfl, K⟩
        (have hKb := K.base; replace H := H.call0 K)
        (first | (refine H.wg ?_; clear H; intros; rename_i w H; constructor) | refine wk ?_)
        refine ⟨_, _, rfl, ⟨by omega, by omega⟩, ?_, H.sx⟩
        exact num_endB ⟨by omega, by omega⟩ (fun h _ => absurd h hh) (fun _ h => by rw [← hu] at h; omega)
/-- what unquoted returns -/
structure UnqR (W V : World) (s : List UInt8) (q : Value) (w' : World) : Prop where
  ex : ∃ (V' : World) (r : Sl) (b : List UInt8) (k : Bool), Sub V V' ∧ Rel W V [] V' w' ∧ q = .tuple #[r.v, .bool k] ∧ Byt V' r b ∧ b.length ≤ 2000000 ∧ unqT s = (if k = true then some b else none)
set_option maxRecDepth 100000 in
set_option maxHeartbeats 2000000 in
theorem unquoted_ref (hV : Sub V W) {s : List UInt8} (hl : s.length ≤ 1000000) : Ret Tryz.prog 54 [str s].toArray W (UnqR W V s) := by
  have H := Rel.start hV
  have hsz : (ByteArray.mk s.toArray).size = s.length := rfl
  refine cal_of_vc tabOk Tryz.func54 rfl (by kernel_rfl) 68 rfl (by simp) [0, 2, 3, 4, 5, 6, 11, 17, 29, 37, 55] ?_
  (first | (refine H.wg ?_; clear H; intros; rename_i w H; constructor) | refine wk ?_)
  replace H := H.rowNil 5 1
  refine SemC.cut 0 (fun z : Sl × List UInt8 => [(0, str s), (4, z.1.v)]) (fun z w' => unqR s.tail = z.2 ∧ z.2.length ≤ 2000000 ∧ Rel W V [.row z.1 5 1 (z.2.flatMap byC)] V w') ?_ ?_
  · refine loop_inv (S := Nat × Sl × List UInt8) tabOk [0, 2, 3] (fun k => [(4, k.2.1.v), (5, iv (k.1 : Int))]) (fun k w' => 1 ≤ k.1 ∧ k.1 ≤ s.length + 10 ∧ k.2.2.length ≤ k.1 ∧ unqR s.tail = k.2.2 ++ unqR (s.drop k.1) ∧ Rel W V [.row k.2.1 5 1 (k.2.2.flatMap byC)] V w') (fun k _ => s.length + 10 - k.1) (1, ⟨none, 0, 0⟩, []) ?_
    (conv => whnf)
    refine ⟨(by repeat (first | exact trivial | refine ⟨rfl, ?_⟩)), ⟨Nat.le_refl _, by dsimp only; omega, Nat.zero_le _, by dsimp only; rw [List.nil_append, List.drop_one], H⟩, ?_⟩
    clear H
    rintro ⟨i, r4, out⟩ w ⟨hi1, hi2, hol, hu, H⟩
    dsimp only at hi1 hi2 hol hu H ⊢
    by_cases hlt : i + 1 < s.length
    rotate_left
    · have e : unqR (s.drop i) = [] := unqR_short (by rw [List.length_drop]; omega)
      rw [e, List.append_nil] at hu
      (first | (refine H.wg ?_; clear H; intros; rename_i w H; constructor) | refine wk ?_)
      exact ⟨(r4, out), (by repeat (first | exact trivial | refine ⟨rfl, ?_⟩)), hu, by dsimp only; omega, H⟩
    obtain ⟨c, hc⟩ : ∃ c, c = s[i] := ⟨_, rfl⟩
    obtain ⟨d, hd⟩ : ∃ d, d = s[i + 1] := ⟨_, rfl⟩
    have hsi : s[((i : Nat) : Int).toNat]? = some c := by simp [hc, show i < s.length by omega]
    have hsj : s[(((i : Nat) : Int) + 1).toNat]? = some d := by rw [show (((i : Nat) : Int) + 1).toNat = i + 1 by omega]; simp [hd, hlt]
    have hdr : s.drop i = c :: d :: s.drop (i + 2) := by rw [List.drop_eq_getElem_cons (show i < s.length by omega), List.drop_eq_getElem_cons hlt, hc, hd]
    have hc8 := c.toNat_lt
    have hd8 := d.toNat_lt
    by_cases h92 : c = 92
    rotate_left
    · have n92 : c.toNat ≠ 92 := fun e => h92 (UInt8.toNat_inj.1 e)
      have hn : unqR s.tail = (out ++ [c]) ++ unqR (s.drop (i + 1)) := by
        rw [hu, hdr, unqR_plain h92, List.append_assoc, List.drop_eq_getElem_cons hlt, ← hd]
        rfl
      (first | (refine H.wh ?_; clear H; intros; rename_i w H; constructor) | refine wk ?_)
      ((first | refine Rel.nwD H ?_ | refine Rel.nw H ?_); clear H; intro w b22 H)
      (first | (refine H.wg ?_; clear H; intros; rename_i w H; constructor) | refine wk ?_)
      refine Rel.app1_0 (f := byC) (s := r4) (l := out) (x := c) tabOk rfl rfl rfl rfl rfl (by decide) (fun _ => rfl) (by simp [Value.oneCell']) H (by show (out.length + 1) * 1 ≤ _; omega) (by omega) ?_
      clear H
      intro r5 w H
      (first | (refine H.wg ?_; clear H; intros; rename_i w H; constructor) | refine wk ?_)
      exact ⟨(by repeat (first | exact trivial | refine ⟨rfl, ?_⟩)), (i + 1, r5, out ++ [c]), (by repeat (first | exact trivial | refine ⟨rfl, ?_⟩)), ⟨by dsimp only; omega, by dsimp only; omega, by simp; omega, hn, H⟩, by dsimp only; omega⟩
    have h92' : c.toNat = 92 := by rw [h92]; rfl
    by_cases h120 : d = 120
    rotate_left
    · have n120 : d.toNat ≠ 120 := fun e => h120 (UInt8.toNat_inj.1 e)
      have hn : unqR s.tail = (out ++ [d]) ++ unqR (s.drop (i + 2)) := by
        rw [hu, hdr, h92, unqR_esc h120, List.append_assoc]
        rfl
      (first | (refine H.wh ?_; clear H; intros; rename_i w H; constructor) | refine wk ?_)
      ((first | refine Rel.nwD H ?_ | refine Rel.nw H ?_); clear H; intro w b34 H)
      (first | (refine H.wg ?_; clear H; intros; rename_i w H; constructor) | refine wk ?_)
      refine Rel.app1_0 (f := byC) (s := r4) (l := out) (x := d) tabOk rfl rfl rfl rfl rfl (by decide) (fun _ => rfl) (by simp [Value.oneCell']) H (by show (out.length + 1) * 1 ≤ _; omega) (by omega) ?_
      clear H
      intro r5 w H
      (first | (refine H.wg ?_; clear H; intros; rename_i w H; constructor) | refine wk ?_)
      exact ⟨(by repeat (first | exact trivial | refine ⟨rfl, ?_⟩)), (i + 2, r5, out ++ [d]), (by repeat (first | exact trivial | refine ⟨rfl, ?_⟩)), ⟨by dsimp only; omega, by dsimp only; omega, by simp; omega, hn, H⟩, by dsimp only; omega⟩
    have h120' : d.toNat = 120 := by rw [h120]; rfl
    (first | (refine H.wg ?_; clear H; intros; rename_i w H; constructor) | refine wk ?_)
    obtain ⟨G, hG0, hGs, hG⟩ : ∃ G : Nat → List UInt8, G 0 = [] ∧ (∀ n, n < 256 → G (n + 1) = G n ++ (if i + 4 < s.length ∧ [hexD (n / 16), hexD (n % 16)] = (s.take (i + 4)).drop (i + 2) then [UInt8.ofNat n] else [])) ∧ unqR s.tail = (out ++ G 256) ++ unqR (s.drop (i + 4)) ∧ ∀ n, (G n).length ≤ 1 := by
      by_cases h4 : i + 4 < s.length
      · refine ⟨hexU s[i + 2] s[i + 3], hexU_zero _ _, fun n hn => ?_, ?_, hexU_len _ _⟩
        · have e : (s.take (i + 4)).drop (i + 2) = [s[i + 2], s[i + 3]] := by
            rw [List.take_succ_eq_append_getElem (show i + 3 < s.length by omega), List.take_succ_eq_append_getElem (show i + 2 < s.length by omega), List.append_assoc, List.drop_left' (by rw [List.length_take]; omega)]
            rfl
          rw [hexU_step _ _ hn, e]
          simp [h4]
        · have hd2 : s.drop (i + 2) = s[i + 2] :: s[i + 3] :: s[i + 4] :: s.drop (i + 5) := by rw [List.drop_eq_getElem_cons (show i + 2 < s.length by omega), List.drop_eq_getElem_cons (show i + 3 < s.length by omega), List.drop_eq_getElem_cons h4]
          rw [hu, hdr, h92, h120, hd2, unqR_hex, hexU_end, List.drop_eq_getElem_cons h4, List.append_assoc]
      · refine ⟨fun _ => [], rfl, fun n _ => ?_, ?_, fun _ => Nat.zero_le _⟩
        · rw [if_neg (fun h => h4 h.1)]
          rfl
        · have hl1 := congrArg List.length hdr
          rw [List.length_drop, List.length_cons, List.length_cons] at hl1
          rw [hu, unqR_cut (l := s.drop i) (by rw [List.length_drop]; omega) (by rw [List.length_drop]; omega) (by rw [hdr, h92, h120]; rfl), unqR_short (l := s.drop (i + 4)) (by rw [List.length_drop]; omega)]
          simp
    obtain ⟨hG, hGl⟩ := hG
    refine SemC.cut 2 (fun z : Sl => [(0, str s), (2, .slice none 0 0), (3, .bool false), (4, z.v), (5, iv ((i : Int) + 1))]) (fun z w' => Rel W V [.row z 5 1 ((out ++ G 256).flatMap byC)] V w') ?_ ?_
    · refine loop_inv (S := Nat × Sl) tabOk [0, 2, 3, 5, 11, 17, 29] (fun k => [(4, k.2.v), (6, iv (k.1 : Int))]) (fun k w' => k.1 ≤ 256 ∧ Rel W V [.row k.2 5 1 ((out ++ G k.1).flatMap byC)] V w') (fun k _ => 256 - k.1) (0, r4) ?_
      (conv => whnf)
      refine ⟨(by repeat (first | exact trivial | refine ⟨rfl, ?_⟩)), ⟨Nat.zero_le _, by rw [hG0, List.append_nil]; exact H⟩, ?_⟩
      clear H
      rintro ⟨n, r4⟩ w ⟨hn, H⟩
      dsimp only at hn H ⊢
      by_cases h256 : n < 256
      rotate_left
      · obtain rfl : n = 256 := by omega
        (first | (refine H.wg ?_; clear H; intros; rename_i w H; constructor) | refine wk ?_)
        exact ⟨r4, (by repeat (first | exact trivial | refine ⟨rfl, ?_⟩)), H⟩
      have hst := hGs n h256
      have hgl := hGl n
      by_cases h4 : i + 4 < s.length
      rotate_left
      · rw [if_neg (fun h => h4 h.1), List.append_nil] at hst
        (first | (refine H.wg ?_; clear H; intros; rename_i w H; constructor) | refine wk ?_)
        ((first | refine draw_vc (id := 13) tabOk mixed [] [0, 1, 2, 3, 4, 5, 6, 8, 9, 10, 11, 12, 13, 7, 14, 15] (by kernel_rfl) ?_); intro w hdw; replace H := Rel.ext H hdw.ext)
        (first | (refine H.wg ?_; clear H; intros; rename_i w H; constructor) | refine wk ?_)
        exact ⟨(by repeat (first | exact trivial | refine ⟨rfl, ?_⟩)), (n + 1, r4), (by repeat (first | exact trivial | refine ⟨rfl, ?_⟩)), ⟨by dsimp only; omega, by dsimp only; rw [hst]; exact H⟩, by dsimp only; omega⟩
      (first | (refine H.wg ?_; clear H; intros; rename_i w H; constructor) | refine wk ?_)
      ((first | refine draw_vc (id := 13) tabOk mixed [] [0, 1, 2, 3, 4, 5, 6, 8, 9, 10, 11, 12, 13, 7, 14, 15] (by kernel_rfl) ?_); intro w hdw; replace H := Rel.ext H hdw.ext)
      (first | (refine H.wg ?_; clear H; intros; rename_i w H; constructor) | refine wk ?_)
      refine (hexT_ref H.data (n := n) h256).use ?_
      rintro v w ⟨rfl, K⟩
      (have hKb := K.base; replace H := Rel.call H K)
      simp only [List.nil_append] at H
      (first | (refine H.wg ?_; clear H; intros; rename_i w H; constructor) | refine wk ?_)
      rw [show (((i : Nat) : Int) + 1 + 1).toNat = i + 2 by omega, show (((i : Nat) : Int) + 1 + 3).toNat = i + 4 by omega]
      by_cases he : [hexD (n / 16), hexD (n % 16)] = (s.take (i + 4)).drop (i + 2)
      · rw [if_pos ⟨h4, he⟩] at hst
        refine condG_true (decide_eq_true he) ?_
        (first | (refine H.wh ?_; clear H; intros; rename_i w H; constructor) | refine wk ?_)
        ((first | refine Rel.nwD H ?_ | refine Rel.nw H ?_); clear H; intro w b59 H)
        rw [show Value.int .u8 (wr .u8 ((n : Nat) : Int)) = bv (UInt8.ofNat n) by
          unfold bv
          rw [toNat_ofNat_lt h256]
          congr 1
          show ((n : Nat) : Int) % 256 = _
          omega] at H
        (first | (refine H.wg ?_; clear H; intros; rename_i w H; constructor) | refine wk ?_)
        refine Rel.app1_0 (f := byC) (s := r4) (l := out ++ G n) (x := UInt8.ofNat n) tabOk rfl rfl rfl rfl rfl (by decide) (fun _ => rfl) (by simp [Value.oneCell']) H (by show ((out ++ G n).length + 1) * 1 ≤ _; rw [List.length_append]; omega) (by rw [List.length_append]; omega) ?_
        clear H
        intro r5 w H
        (first | (refine H.wg ?_; clear H; intros; rename_i w H; constructor) | refine wk ?_)
        exact ⟨(by repeat (first | exact trivial | refine ⟨rfl, ?_⟩)), (n + 1, r5), (by repeat (first | exact trivial | refine ⟨rfl, ?_⟩)), ⟨by dsimp only; omega, by dsimp only; rw [hst, ← List.append_assoc]; exact H⟩, by dsimp only; omega⟩
      · rw [if_neg (fun h => he h.2), List.append_nil] at hst
        refine condG_false (decide_eq_false he) ?_
        (first | (refine H.wg ?_; clear H; intros; rename_i w H; constructor) | refine wk ?_)
        exact ⟨(by repeat (first | exact trivial | refine ⟨rfl, ?_⟩)), (n + 1, r4), (by repeat (first | exact trivial | refine ⟨rfl, ?_⟩)), ⟨by dsimp only; omega, by dsimp only; rw [hst]; exact H⟩, by dsimp only; omega⟩
    clear H
    rintro r5 w H
    have hgl := hGl 256
    (first | (refine H.wg ?_; clear H; intros; rename_i w H; constructor) | refine wk ?_)
    exact ⟨(by repeat (first | exact trivial | refine ⟨rfl, ?_⟩)), (i + 4, r5, out ++ G 256), ⟨rfl, congrArg (fun z => some (Value.int .i64 z)) (show ((i : Nat) : Int) + 1 + 2 + 1 = ((i + 4 : Nat) : Int) by omega), trivial⟩, ⟨by dsimp only; omega, by dsimp only; omega, by dsimp only; rw [List.length_append]; omega, hG, H⟩, by dsimp only; omega⟩
  clear H
  rintro ⟨r4, out⟩ w ⟨hu, hol, H⟩
  dsimp only at hu hol H ⊢
  obtain ⟨V1, hV1, H, hr⟩ := Rel.freezeF H (fun _ => rfl) (by decide)
  (first | (refine H.wg ?_; clear H; intros; rename_i w H; constructor) | refine wk ?_)
  refine (quotedR_ref H.data hr (by omega)).use ?_
  rintro v w ⟨rfl, K⟩
  (have hKb := K.base; replace H := Rel.call H K)
  simp only [List.nil_append] at H
  (first | (refine H.wg ?_; clear H; intros; rename_i w H; constructor) | refine wk ?_)
  refine ⟨V1, r4, out, _, hV1, H.sx, rfl, hr, hol, ?_⟩
  unfold unqT
  rw [hu]
  simp only [decide_eq_true_eq]
end
end Go.Proofs.YtffaffojkfalhaaGreatDoor
namespace Go.Proofs.YtffaffojkfalhaaGreatDoor
open Go Go.RowKit

section
variable {w0 V0 V w : World} {own : List Res}
theorem str_one (ys : List (List UInt8)) : ∀ u ∈ ys.flatMap strC, u.oneCell' = true := by
  intro u hu
  obtain ⟨x, _, hx⟩ := List.mem_flatMap.1 hu
  rw [List.mem_singleton.1 hx]
  rfl
/-- a row of strings grows by what is only read -/
theorem Rel.appS {i : Nat} {s x : Sl} {xs ys : List (List UInt8)} (H : Rel w0 V0 own V w) (hi : own[i]? = some (.row s 9 1 (xs.flatMap strC))) (hx : SlF strC V x ys) (hb : xs.length + ys.length ≤ 1000000000000) {ty : TypeId} {k : Value → World → Prop}
    (hk : ∀ s' w', Rel w0 V0 (own.set i (.row s' 9 1 ((xs ++ ys).flatMap strC))) V w' → k s'.v w') : SemOk Tryz.prog (Builtin.append_ #[24, 24] ty #[s.v, x.v]) w k := by
  have hl := H.rowLen hi (fun _ => rfl) (by decide)
  have hxl := hx.len
  refine Rel.appAt tabOk rfl rfl rfl rfl rfl (by decide) H hi (hx.up H.data).cells (by rw [flat_len (n := 1) (fun _ => rfl), hxl]) (str_one ys) (by rw [hl, hxl]; show (xs.length + ys.length) * 16 ≤ _; omega) (by rw [hl, hxl]; omega) ?_
  intro s' w' H' _
  refine hk s' w' ?_
  rw [List.flatMap_append]
  exact H'
/-- and by a block -/
theorem Rel.appSB {i b n : Nat} {t' : TypeId} {s : Sl} {xs : List (List UInt8)} (ys : List (List UInt8)) (H : Rel w0 V0 (.blk b (ys.flatMap strC) t' :: own) V w) (hi : own[i]? = some (.row s 9 1 (xs.flatMap strC))) (hn : ys.length = n) (hb : xs.length + ys.length ≤ 1000000000000) {ty : TypeId} {k : Value → World → Prop}
    (hk : ∀ s' w', Rel w0 V0 (own.set i (.row s' 9 1 ((xs ++ ys).flatMap strC))) V w' → k s'.v w') : SemOk Tryz.prog (Builtin.append_ #[24, 24] ty #[s.v, .slice (some ⟨b, 0, none⟩) n n]) w k := by
  subst hn
  have hx : Cells w (some ⟨b, 0, none⟩) (ys.flatMap strC) := (H.bk_0).cells
  have hl := H.drop1.rowLen hi (fun _ => rfl) (by decide)
  refine Rel.appAt (x := ⟨some ⟨b, 0, none⟩, ys.length, ys.length⟩) tabOk rfl rfl rfl rfl rfl (by decide) H (i := i + 1) (by simpa using hi) hx (by rw [flat_len (n := 1) (fun _ => rfl)]) (str_one ys) (by rw [hl]; show (xs.length + ys.length) * 16 ≤ _; omega) (by rw [hl]; show xs.length + ys.length ≤ _; omega) ?_
  intro s' w' H' _
  refine hk s' w' ?_
  rw [List.flatMap_append]
  exact Rel.drop1 (by simpa using H')
end
/-- what tokensOf returns -/
structure TokR (W V : World) (ts bs : List (List UInt8)) (q : Value) (w' : World) : Prop where
  ex : ∃ (V' : World) (x y : Sl), Sub V V' ∧ Rel W V [.row x 9 1 (ts.flatMap strC), .row y 9 1 (bs.flatMap strC)] V' w' ∧ q = .tuple #[x.v, y.v]
theorem tokE_len {k : Int} {s : List (List UInt8)} {i : Nat} {p : Val} : (tokE k s i p).length = (if i = 0 then 0 else 1) + ((if k = 4 then 2 else 0) + (tokV p).length) := by
  unfold tokE
  rw [List.length_append, List.length_append]
  congr 1
  · split <;> rfl
  · congr 1
    split <;> rfl
set_option maxRecDepth 100000 in
set_option maxHeartbeats 2000000 in
theorem tokensOf_ref : ∀ (N : Nat) {V W : World}, Sub V W → ∀ {h : VH} {v : Val} (sp : Bool), SizeOf.sizeOf v < N → ValAt V h v → VB 1048576 v → WfV v → (tokV v).length ≤ 1000000 →
    Ret Tryz.prog 31 [valV h, str (wantB sp)].toArray W (TokR W V (tokV v) (wants sp (tokV v))) := by
  intro N
  induction N with
  | zero => intro V W _ h v sp hz; omega
  | succ N ih =>
    intro V W hV h v sp hz hv hB hw hM
    have H := Rel.start hV
    have l3 := hv.plen
    have hpl := hB.parts
    have hns := hv.names
    have hn64 := hB.num
    have hbl := hB.bytes
    have he := tokV_eq v
    have e1 := hv.kind
    have e2 := hv.num
    obtain ⟨hk, hn, bs, ss, pl⟩ := h
    have l2 := hns.len
    dsimp only at e1 e2 l2 l3 hns
    subst e1 e2
    have hbs := hv.bytes
    change Ret Tryz.prog 31 [.agg [iv v.kind, iv v.num, bs.v, ss.v, pl.v].toArray, str (wantB sp)].toArray W _
    refine cal_of_vc tabOk Tryz.func31 rfl (by kernel_rfl) 92 rfl (by simp) [0, 1, 2, 4, 5, 6, 7, 8, 9, 10, 11, 12, 13, 16, 25, 34, 43, 47, 56] ?_
    (first | (refine H.wh ?_; clear H; intros; rename_i w H; constructor) | refine wk ?_)
    ((first | refine Rel.nwD H ?_ | refine Rel.nw H ?_); clear H; intro w b2 H)
    obtain ⟨V1, hV1, H, hb2⟩ := H.freezeBlk
    have c0 : V1.cell? ⟨b2, 0, none⟩ = some (iv v.kind) := hb2.cel rfl
    have c1 : V1.cell? ⟨b2, 1, none⟩ = some (iv v.num) := hb2.cel rfl
    have c2 : V1.cell? ⟨b2, 2, none⟩ = some bs.v := hb2.cel rfl
    have c3 : V1.cell? ⟨b2, 3, none⟩ = some ss.v := hb2.cel rfl
    have c4 : V1.cell? ⟨b2, 4, none⟩ = some pl.v := hb2.cel rfl
    replace hv := hv.up hV1
    replace hns := hns.up hV1
    replace hbs := hbs.up hV1
    by_cases k1 : v.kind = 1
    · rw [if_pos k1] at he
      rw [he]
      (first | (refine H.wg ?_; clear H; intros; rename_i w H; constructor) | refine wk ?_)
      refine (dec_ref H.data hn64).use ?_
      rintro q w ⟨rfl, K⟩
      (have hKb := K.base; replace H := Rel.call H K)
      simp only [List.nil_append] at H
      (first | (refine H.wh ?_; clear H; intros; rename_i w H; constructor) | refine wk ?_)
      ((first | refine Rel.nwD H ?_ | refine Rel.nw H ?_); clear H; intro w b20 H)
      (first | (refine H.wh ?_; clear H; intros; rename_i w H; constructor) | refine wk ?_)
      ((first | refine Rel.nwD H ?_ | refine Rel.nw H ?_); clear H; intro w b22 H)
      (first | (refine H.wg ?_; clear H; intros; rename_i w H; constructor) | refine wk ?_)
      have H2 : Rel W V [.row ⟨some ⟨b22, 0, none⟩, 1, 1⟩ 9 1 ([wantB sp].flatMap strC), .blk b20 [str (Lib.itoa v.num)] 9] V1 w := Rel.toRow (l := [wantB sp].flatMap strC) H.sx rfl (by decide)
      have H3 := H2.perm (List.Perm.swap _ _ _)
      have H4 : Rel W V [.row ⟨some ⟨b20, 0, none⟩, 1, 1⟩ 9 1 ([Lib.itoa v.num].flatMap strC), .row ⟨some ⟨b22, 0, none⟩, 1, 1⟩ 9 1 ([wantB sp].flatMap strC)] V1 w := Rel.toRow (l := [Lib.itoa v.num].flatMap strC) H3 rfl (by decide)
      exact ⟨V1, _, _, hV1, H4, rfl⟩
    rw [if_neg k1] at he
    by_cases k2 : v.kind = 2
    · rw [if_pos k2] at he
      rw [he]
      (first | (refine H.wg ?_; clear H; intros; rename_i w H; constructor) | refine wk ?_)
      refine (quotedR_ref H.data hbs (by omega)).use ?_
      rintro q w ⟨rfl, K⟩
      (have hKb := K.base; replace H := Rel.call H K)
      simp only [List.nil_append] at H
      (first | (refine H.wh ?_; clear H; intros; rename_i w H; constructor) | refine wk ?_)
      ((first | refine Rel.nwD H ?_ | refine Rel.nw H ?_); clear H; intro w b29 H)
      (first | (refine H.wh ?_; clear H; intros; rename_i w H; constructor) | refine wk ?_)
      ((first | refine Rel.nwD H ?_ | refine Rel.nw H ?_); clear H; intro w b31 H)
      (first | (refine H.wg ?_; clear H; intros; rename_i w H; constructor) | refine wk ?_)
      have H2 : Rel W V [.row ⟨some ⟨b31, 0, none⟩, 1, 1⟩ 9 1 ([wantB sp].flatMap strC), .blk b29 [str (quoT v.bytes)] 9] V1 w := Rel.toRow (l := [wantB sp].flatMap strC) H.sx rfl (by decide)
      have H3 := H2.perm (List.Perm.swap _ _ _)
      have H4 : Rel W V [.row ⟨some ⟨b29, 0, none⟩, 1, 1⟩ 9 1 ([quoT v.bytes].flatMap strC), .row ⟨some ⟨b31, 0, none⟩, 1, 1⟩ 9 1 ([wantB sp].flatMap strC)] V1 w := Rel.toRow (l := [quoT v.bytes].flatMap strC) H3 rfl (by decide)
      exact ⟨V1, _, _, hV1, H4, rfl⟩
    rw [if_neg k2] at he
    rw [he] at hM ⊢
    rw [List.length_cons, List.length_append, List.length_singleton] at hM
    have hwp := hw.part
    by_cases k4 : v.kind = 4
    · have eo : opT v.kind = [123] := by rw [opT, if_pos k4]
      have ee : enT v.kind = [125] := by rw [enT, if_pos k4]
      obtain ⟨hnl, hna⟩ : v.names.length = v.parts.length ∧ ∀ x ∈ v.names, nameOk x = true := by
        cases hw with
        | num _ => exact absurd k4 (show ¬ (1 : Int) = 4 by decide)
        | byt _ => exact absurd k4 (show ¬ (2 : Int) = 4 by decide)
        | lst _ => exact absurd k4 (show ¬ (3 : Int) = 4 by decide)
        | rcd h1 h2 _ => exact ⟨h2, h1⟩
      rw [eo, ee]
      (first | (refine H.wh ?_; clear H; intros; rename_i w H; constructor) | refine wk ?_)
      ((first | refine Rel.nwD H ?_ | refine Rel.nw H ?_); clear H; intro w b36 H)
      (first | (refine H.wh ?_; clear H; intros; rename_i w H; constructor) | refine wk ?_)
      ((first | refine Rel.nwD H ?_ | refine Rel.nw H ?_); clear H; intro w b38 H)
      (first | (refine H.wg ?_; clear H; intros; rename_i w H; constructor) | refine wk ?_)
      have H2 : Rel W V [.row ⟨some ⟨b38, 0, none⟩, 1, 1⟩ 9 1 ([wantB sp].flatMap strC), .blk b36 [str [123]] 9] V1 w := Rel.toRow (l := [wantB sp].flatMap strC) H.sx rfl (by decide)
      have H3 := H2.perm (List.Perm.swap _ _ _)
      have H4 : Rel W V [.row ⟨some ⟨b36, 0, none⟩, 1, 1⟩ 9 1 ([[123]].flatMap strC), .row ⟨some ⟨b38, 0, none⟩, 1, 1⟩ 9 1 ([wantB sp].flatMap strC)] V1 w := Rel.toRow (l := [[123]].flatMap strC) H3 rfl (by decide)
      clear H H2 H3
      refine loop_inv (S := Nat × Sl × Sl) tabOk [0, 1, 2, 4, 5, 6, 7, 16, 25, 34] (fun k => [(8, k.2.1.v), (9, k.2.2.v), (10, iv (k.1 : Int))]) (fun k w' => k.1 ≤ v.parts.length ∧ ∃ V', Sub V1 V' ∧ Rel W V [.row k.2.1 9 1 (([123] :: tokL v.kind v.names (v.parts.take k.1)).flatMap strC), .row k.2.2 9 1 ((wants sp ([123] :: tokL v.kind v.names (v.parts.take k.1))).flatMap strC)] V' w') (fun k _ => v.parts.length - k.1) (0, ⟨some ⟨b36, 0, none⟩, 1, 1⟩, ⟨some ⟨b38, 0, none⟩, 1, 1⟩) ?_
      (conv => whnf)
      refine ⟨(by repeat (first | exact trivial | refine ⟨rfl, ?_⟩)), ⟨Nat.zero_le _, V1, Sub.refl _, by dsimp only; rw [List.take_zero, tokL_nil]; exact H4⟩, ?_⟩
      clear H4
      rintro ⟨k, r8, r9⟩ w ⟨hk, V2, hV2, H⟩
      dsimp only at hk H ⊢
      obtain ⟨T, hT⟩ : ∃ T, T = [123] :: tokL v.kind v.names (v.parts.take k) := ⟨_, rfl⟩
      obtain ⟨B, hBw⟩ : ∃ B, B = wants sp T := ⟨_, rfl⟩
      rw [← hT, ← hBw] at H
      have hBl : B.length = T.length := by rw [hBw, wants_len]
      have d0 := hV2.cell c0
      have d3 := hV2.cell c3
      have d4 := hV2.cell c4
      by_cases hlt : k < v.parts.length
      rotate_left
      · rw [List.take_of_length_le (by omega)] at hT
        have hTl := congrArg List.length hT
        rw [List.length_cons] at hTl
        (first | (refine H.wh ?_; clear H; intros; rename_i w H; constructor) | refine wk ?_)
        ((first | refine Rel.nwD H ?_ | refine Rel.nw H ?_); clear H; intro w b87 H)
        (first | (refine H.wg ?_; clear H; intros; rename_i w H; constructor) | refine wk ?_)
        refine Rel.appSB (i := 0) (s := r8) (xs := T) [[125]] H rfl rfl (by simp only [List.length_append, List.length_cons, List.length_nil]; omega) ?_
        clear H
        intro r8 w H
        simp only [List.set_cons_zero, List.set_cons_succ] at H
        (first | (refine H.wh ?_; clear H; intros; rename_i w H; constructor) | refine wk ?_)
        ((first | refine Rel.nwD H ?_ | refine Rel.nw H ?_); clear H; intro w b90 H)
        (first | (refine H.wg ?_; clear H; intros; rename_i w H; constructor) | refine wk ?_)
        refine Rel.appSB (i := 1) (s := r9) (xs := B) [[]] H rfl rfl (by simp only [List.length_append, List.length_cons, List.length_nil]; omega) ?_
        clear H
        intro r9 w H
        simp only [List.set_cons_zero, List.set_cons_succ] at H
        (first | (refine H.wg ?_; clear H; intros; rename_i w H; constructor) | refine wk ?_)
        have ew := wants_end v.kind v.names sp v.parts
        rw [eo, ee, ← hT, ← hBw] at ew
        refine ⟨V2, r8, r9, hV1.trans hV2, ?_, rfl⟩
        rw [ew, ← List.cons_append, ← hT]
        exact H
      obtain ⟨R, hsp⟩ := part_split hlt
      obtain ⟨hq, x, hx, q0, q1, q2, q3, q4⟩ := (hv.up hV2).part5 hlt
      have hmem := List.getElem_mem hlt
      have et : tokE v.kind v.names k v.parts[k] = (if k = 0 then [] else [[44]]) ++ ((if v.kind = 4 then [v.names.getD k [], [58]] else []) ++ tokV v.parts[k]) := rfl
      have eb := wants_part v.kind v.names k v.parts[k] (fun h4 => by
        rw [List.getD, List.getElem?_eq_getElem (show k < v.names.length by omega)]; exact hna _ (List.getElem_mem _))
      have hn1 := tokL_snoc v.kind v.names (v.parts.take k) v.parts[k]
      have hn2 := wants_snoc v.kind v.names sp (v.parts.take k) v.parts[k]
      rw [← List.take_succ_eq_append_getElem hlt, List.length_take, show min k v.parts.length = k by omega] at hn1 hn2
      rw [eo, ← hT, ← hBw] at hn2
      replace hn1 : [123] :: tokL v.kind v.names (v.parts.take (k + 1)) = T ++ tokE v.kind v.names k v.parts[k] := by rw [hn1, hT]; rfl
      have hTl := congrArg List.length hT
      have hspl := congrArg List.length hsp
      have htl := tokE_len (k := v.kind) (s := v.names) (i := k) (p := v.parts[k])
      rw [List.length_cons] at hTl
      rw [List.length_append, List.length_append] at hspl
      have hsl := Val.part_lt hmem
      have hpB := hB.part _ hmem
      have hpw := hwp _ hmem
      obtain ⟨p, hpe⟩ : ∃ p, p = v.parts[k] := ⟨_, rfl⟩
      rw [← hpe] at et eb hn1 hn2 hx hspl htl hsl hpB hpw
      have hM2 : T.length + (tokV p).length + 10 ≤ 1000100 := by omega
      have hpM : (tokV p).length ≤ 1000000 := by omega
      rw [if_pos k4] at et eb
      have hkn : k < v.names.length := by omega
      have hgd : v.names.getD k [] = v.names[k] := by simp [List.getD, hkn]
      rw [hgd] at et
      obtain ⟨hp', hq'⟩ := (hns.up hV2).get1 (g := str) (fun _ => rfl) hkn
      have hdk : (decide (k ≠ 0) || decide (v.kind = 4)) = true := by rw [decide_eq_true k4]; simp
      rw [hdk] at eb
      by_cases h0 : k = 0
      · rw [if_pos h0] at et eb
        rw [show decide (k ≠ 0) = false by simp [h0], show wantB false = [] from rfl] at eb
        (first | (refine H.wh ?_; clear H; intros; rename_i w H; constructor) | refine wk ?_)
        ((first | refine Rel.nwD H ?_ | refine Rel.nw H ?_); clear H; intro w b63 H)
        (first | (refine H.wg ?_; clear H; intros; rename_i w H; constructor) | refine wk ?_)
        refine Rel.appSB (i := 0) (s := r8) (xs := T) [v.names[k], [58]] H rfl rfl (by simp only [List.length_append, List.length_cons, List.length_nil]; omega) ?_
        clear H
        intro r8 w H
        simp only [List.set_cons_zero, List.set_cons_succ] at H
        (first | (refine H.wh ?_; clear H; intros; rename_i w H; constructor) | refine wk ?_)
        ((first | refine Rel.nwD H ?_ | refine Rel.nw H ?_); clear H; intro w b67 H)
        (first | (refine H.wg ?_; clear H; intros; rename_i w H; constructor) | refine wk ?_)
        refine Rel.appSB (i := 1) (s := r9) (xs := B) [[], []] H rfl rfl (by simp only [List.length_append, List.length_cons, List.length_nil]; omega) ?_
        clear H
        intro r9 w H
        simp only [List.set_cons_zero, List.set_cons_succ] at H
        (first | (refine H.wg ?_; clear H; intros; rename_i w H; constructor) | refine wk ?_)
        refine (ih H.data (h := x) (v := p) true (by omega) hx hpB hpw hpM).use ?_
        rintro q w ⟨V5, x5, y5, hV5, K, rfl⟩
        (have hKb := K.base; replace H := Rel.call H K)
        simp only [List.cons_append, List.nil_append] at H
        obtain ⟨V6, hV6, H, hx5⟩ := Rel.freezeF H (fun _ => rfl) (by decide)
        obtain ⟨V7, hV7, H, hy5⟩ := Rel.freezeF H (fun _ => rfl) (by decide)
        replace hx5 := hx5.up hV7
        have hV27 := ((hV2.trans hV5).trans hV6).trans hV7
        have hy5l : (wants true (tokV p)).length = (tokV p).length := wants_len _ _
        (first | (refine H.wg ?_; clear H; intros; rename_i w H; constructor) | refine wk ?_)
        refine Rel.appS (i := 0) (s := r8) (x := x5) (xs := (T ++ [v.names[k], [58]])) H rfl hx5 (by first | omega | (simp only [List.length_append, List.length_cons, List.length_nil]; omega)) ?_
        clear H
        intro r8 w H
        simp only [List.set_cons_zero, List.set_cons_succ] at H
        (first | (refine H.wg ?_; clear H; intros; rename_i w H; constructor) | refine wk ?_)
        refine Rel.appS (i := 1) (s := r9) (x := y5) (xs := (B ++ [[], []])) H rfl hy5 (by first | omega | (simp only [List.length_append, List.length_cons, List.length_nil]; omega)) ?_
        clear H
        intro r9 w H
        simp only [List.set_cons_zero, List.set_cons_succ] at H
        (first | (refine H.wg ?_; clear H; intros; rename_i w H; constructor) | refine wk ?_)
        refine ⟨(by repeat (first | exact trivial | refine ⟨rfl, ?_⟩)), (k + 1, r8, r9), (by repeat (first | exact trivial | refine ⟨rfl, ?_⟩)), ⟨by dsimp only; omega, V7, hV27, ?_⟩, by dsimp only; omega⟩
        dsimp only
        rw [hn2, hn1, eb, et]
        simpa only [List.append_assoc, List.nil_append] using H
      · rw [if_neg h0] at et eb
        rw [show decide (k ≠ 0) = true by simp [h0], show wantB true = [32] from rfl] at eb
        (first | (refine H.wh ?_; clear H; intros; rename_i w H; constructor) | refine wk ?_)
        ((first | refine Rel.nwD H ?_ | refine Rel.nw H ?_); clear H; intro w b49 H)
        (first | (refine H.wg ?_; clear H; intros; rename_i w H; constructor) | refine wk ?_)
        refine Rel.appSB (i := 0) (s := r8) (xs := T) [[44]] H rfl rfl (by simp only [List.length_append, List.length_cons, List.length_nil]; omega) ?_
        clear H
        intro r8 w H
        simp only [List.set_cons_zero, List.set_cons_succ] at H
        (first | (refine H.wh ?_; clear H; intros; rename_i w H; constructor) | refine wk ?_)
        ((first | refine Rel.nwD H ?_ | refine Rel.nw H ?_); clear H; intro w b52 H)
        (first | (refine H.wg ?_; clear H; intros; rename_i w H; constructor) | refine wk ?_)
        refine Rel.appSB (i := 1) (s := r9) (xs := B) [[]] H rfl rfl (by simp only [List.length_append, List.length_cons, List.length_nil]; omega) ?_
        clear H
        intro r9 w H
        simp only [List.set_cons_zero, List.set_cons_succ] at H
        (first | (refine H.wh ?_; clear H; intros; rename_i w H; constructor) | refine wk ?_)
        ((first | refine Rel.nwD H ?_ | refine Rel.nw H ?_); clear H; intro w b63 H)
        (first | (refine H.wg ?_; clear H; intros; rename_i w H; constructor) | refine wk ?_)
        refine Rel.appSB (i := 0) (s := r8) (xs := (T ++ [[44]])) [v.names[k], [58]] H rfl rfl (by simp only [List.length_append, List.length_cons, List.length_nil]; omega) ?_
        clear H
        intro r8 w H
        simp only [List.set_cons_zero, List.set_cons_succ] at H
        (first | (refine H.wh ?_; clear H; intros; rename_i w H; constructor) | refine wk ?_)
        ((first | refine Rel.nwD H ?_ | refine Rel.nw H ?_); clear H; intro w b67 H)
        (first | (refine H.wg ?_; clear H; intros; rename_i w H; constructor) | refine wk ?_)
        refine Rel.appSB (i := 1) (s := r9) (xs := (B ++ [[]])) [[32], []] H rfl rfl (by simp only [List.length_append, List.length_cons, List.length_nil]; omega) ?_
        clear H
        intro r9 w H
        simp only [List.set_cons_zero, List.set_cons_succ] at H
        (first | (refine H.wg ?_; clear H; intros; rename_i w H; constructor) | refine wk ?_)
        refine (ih H.data (h := x) (v := p) true (by omega) hx hpB hpw hpM).use ?_
        rintro q w ⟨V5, x5, y5, hV5, K, rfl⟩
        (have hKb := K.base; replace H := Rel.call H K)
        simp only [List.cons_append, List.nil_append] at H
        obtain ⟨V6, hV6, H, hx5⟩ := Rel.freezeF H (fun _ => rfl) (by decide)
        obtain ⟨V7, hV7, H, hy5⟩ := Rel.freezeF H (fun _ => rfl) (by decide)
        replace hx5 := hx5.up hV7
        have hV27 := ((hV2.trans hV5).trans hV6).trans hV7
        have hy5l : (wants true (tokV p)).length = (tokV p).length := wants_len _ _
        (first | (refine H.wg ?_; clear H; intros; rename_i w H; constructor) | refine wk ?_)
        refine Rel.appS (i := 0) (s := r8) (x := x5) (xs := (T ++ [[44]] ++ [v.names[k], [58]])) H rfl hx5 (by first | omega | (simp only [List.length_append, List.length_cons, List.length_nil]; omega)) ?_
        clear H
        intro r8 w H
        simp only [List.set_cons_zero, List.set_cons_succ] at H
        (first | (refine H.wg ?_; clear H; intros; rename_i w H; constructor) | refine wk ?_)
        refine Rel.appS (i := 1) (s := r9) (x := y5) (xs := (B ++ [[]] ++ [[32], []])) H rfl hy5 (by first | omega | (simp only [List.length_append, List.length_cons, List.length_nil]; omega)) ?_
        clear H
        intro r9 w H
        simp only [List.set_cons_zero, List.set_cons_succ] at H
        (first | (refine H.wg ?_; clear H; intros; rename_i w H; constructor) | refine wk ?_)
        refine ⟨(by repeat (first | exact trivial | refine ⟨rfl, ?_⟩)), (k + 1, r8, r9), (by repeat (first | exact trivial | refine ⟨rfl, ?_⟩)), ⟨by dsimp only; omega, V7, hV27, ?_⟩, by dsimp only; omega⟩
        dsimp only
        rw [hn2, hn1, eb, et]
        simpa only [List.append_assoc, List.nil_append] using H
    · have eo : opT v.kind = [91] := by rw [opT, if_neg k4]
      have ee : enT v.kind = [93] := by rw [enT, if_neg k4]
      rw [eo, ee]
      (first | (refine H.wh ?_; clear H; intros; rename_i w H; constructor) | refine wk ?_)
      ((first | refine Rel.nwD H ?_ | refine Rel.nw H ?_); clear H; intro w b36 H)
      (first | (refine H.wh ?_; clear H; intros; rename_i w H; constructor) | refine wk ?_)
      ((first | refine Rel.nwD H ?_ | refine Rel.nw H ?_); clear H; intro w b38 H)
      (first | (refine H.wg ?_; clear H; intros; rename_i w H; constructor) | refine wk ?_)
      have H2 : Rel W V [.row ⟨some ⟨b38, 0, none⟩, 1, 1⟩ 9 1 ([wantB sp].flatMap strC), .blk b36 [str [91]] 9] V1 w := Rel.toRow (l := [wantB sp].flatMap strC) H.sx rfl (by decide)
      have H3 := H2.perm (List.Perm.swap _ _ _)
      have H4 : Rel W V [.row ⟨some ⟨b36, 0, none⟩, 1, 1⟩ 9 1 ([[91]].flatMap strC), .row ⟨some ⟨b38, 0, none⟩, 1, 1⟩ 9 1 ([wantB sp].flatMap strC)] V1 w := Rel.toRow (l := [[91]].flatMap strC) H3 rfl (by decide)
      clear H H2 H3
      refine loop_inv (S := Nat × Sl × Sl) tabOk [0, 1, 2, 4, 5, 6, 7, 16, 25, 34] (fun k => [(8, k.2.1.v), (9, k.2.2.v), (10, iv (k.1 : Int))]) (fun k w' => k.1 ≤ v.parts.length ∧ ∃ V', Sub V1 V' ∧ Rel W V [.row k.2.1 9 1 (([91] :: tokL v.kind v.names (v.parts.take k.1)).flatMap strC), .row k.2.2 9 1 ((wants sp ([91] :: tokL v.kind v.names (v.parts.take k.1))).flatMap strC)] V' w') (fun k _ => v.parts.length - k.1) (0, ⟨some ⟨b36, 0, none⟩, 1, 1⟩, ⟨some ⟨b38, 0, none⟩, 1, 1⟩) ?_
      (conv => whnf)
      refine ⟨(by repeat (first | exact trivial | refine ⟨rfl, ?_⟩)), ⟨Nat.zero_le _, V1, Sub.refl _, by dsimp only; rw [List.take_zero, tokL_nil]; exact H4⟩, ?_⟩
      clear H4
      rintro ⟨k, r8, r9⟩ w ⟨hk, V2, hV2, H⟩
      dsimp only at hk H ⊢
      obtain ⟨T, hT⟩ : ∃ T, T = [91] :: tokL v.kind v.names (v.parts.take k) := ⟨_, rfl⟩
      obtain ⟨B, hBw⟩ : ∃ B, B = wants sp T := ⟨_, rfl⟩
      rw [← hT, ← hBw] at H
      have hBl : B.length = T.length := by rw [hBw, wants_len]
      have d0 := hV2.cell c0
      have d3 := hV2.cell c3
      have d4 := hV2.cell c4
      by_cases hlt : k < v.parts.length
      rotate_left
      · rw [List.take_of_length_le (by omega)] at hT
        have hTl := congrArg List.length hT
        rw [List.length_cons] at hTl
        (first | (refine H.wh ?_; clear H; intros; rename_i w H; constructor) | refine wk ?_)
        ((first | refine Rel.nwD H ?_ | refine Rel.nw H ?_); clear H; intro w b87 H)
        (first | (refine H.wg ?_; clear H; intros; rename_i w H; constructor) | refine wk ?_)
        refine Rel.appSB (i := 0) (s := r8) (xs := T) [[93]] H rfl rfl (by simp only [List.length_append, List.length_cons, List.length_nil]; omega) ?_
        clear H
        intro r8 w H
        simp only [List.set_cons_zero, List.set_cons_succ] at H
        (first | (refine H.wh ?_; clear H; intros; rename_i w H; constructor) | refine wk ?_)
        ((first | refine Rel.nwD H ?_ | refine Rel.nw H ?_); clear H; intro w b90 H)
        (first | (refine H.wg ?_; clear H; intros; rename_i w H; constructor) | refine wk ?_)
        refine Rel.appSB (i := 1) (s := r9) (xs := B) [[]] H rfl rfl (by simp only [List.length_append, List.length_cons, List.length_nil]; omega) ?_
        clear H
        intro r9 w H
        simp only [List.set_cons_zero, List.set_cons_succ] at H
        (first | (refine H.wg ?_; clear H; intros; rename_i w H; constructor) | refine wk ?_)
        have ew := wants_end v.kind v.names sp v.parts
        rw [eo, ee, ← hT, ← hBw] at ew
        refine ⟨V2, r8, r9, hV1.trans hV2, ?_, rfl⟩
        rw [ew, ← List.cons_append, ← hT]
        exact H
      obtain ⟨R, hsp⟩ := part_split hlt
      obtain ⟨hq, x, hx, q0, q1, q2, q3, q4⟩ := (hv.up hV2).part5 hlt
      have hmem := List.getElem_mem hlt
      have et : tokE v.kind v.names k v.parts[k] = (if k = 0 then [] else [[44]]) ++ ((if v.kind = 4 then [v.names.getD k [], [58]] else []) ++ tokV v.parts[k]) := rfl
      have eb := wants_part v.kind v.names k v.parts[k] (fun h4 => by
        exact absurd h4 k4)
      have hn1 := tokL_snoc v.kind v.names (v.parts.take k) v.parts[k]
      have hn2 := wants_snoc v.kind v.names sp (v.parts.take k) v.parts[k]
      rw [← List.take_succ_eq_append_getElem hlt, List.length_take, show min k v.parts.length = k by omega] at hn1 hn2
      rw [eo, ← hT, ← hBw] at hn2
      replace hn1 : [91] :: tokL v.kind v.names (v.parts.take (k + 1)) = T ++ tokE v.kind v.names k v.parts[k] := by rw [hn1, hT]; rfl
      have hTl := congrArg List.length hT
      have hspl := congrArg List.length hsp
      have htl := tokE_len (k := v.kind) (s := v.names) (i := k) (p := v.parts[k])
      rw [List.length_cons] at hTl
      rw [List.length_append, List.length_append] at hspl
      have hsl := Val.part_lt hmem
      have hpB := hB.part _ hmem
      have hpw := hwp _ hmem
      obtain ⟨p, hpe⟩ : ∃ p, p = v.parts[k] := ⟨_, rfl⟩
      rw [← hpe] at et eb hn1 hn2 hx hspl htl hsl hpB hpw
      have hM2 : T.length + (tokV p).length + 10 ≤ 1000100 := by omega
      have hpM : (tokV p).length ≤ 1000000 := by omega
      rw [if_neg k4] at et eb
      by_cases h0 : k = 0
      · rw [if_pos h0] at et eb
        rw [show (decide (k ≠ 0) || decide (v.kind = 4)) = false by rw [decide_eq_false k4]; simp [h0]] at eb
        (first | (refine H.wg ?_; clear H; intros; rename_i w H; constructor) | refine wk ?_)
        refine (ih H.data (h := x) (v := p) false (by omega) hx hpB hpw hpM).use ?_
        rintro q w ⟨V5, x5, y5, hV5, K, rfl⟩
        (have hKb := K.base; replace H := Rel.call H K)
        simp only [List.cons_append, List.nil_append] at H
        obtain ⟨V6, hV6, H, hx5⟩ := Rel.freezeF H (fun _ => rfl) (by decide)
        obtain ⟨V7, hV7, H, hy5⟩ := Rel.freezeF H (fun _ => rfl) (by decide)
        replace hx5 := hx5.up hV7
        have hV27 := ((hV2.trans hV5).trans hV6).trans hV7
        have hy5l : (wants false (tokV p)).length = (tokV p).length := wants_len _ _
        (first | (refine H.wg ?_; clear H; intros; rename_i w H; constructor) | refine wk ?_)
        refine Rel.appS (i := 0) (s := r8) (x := x5) (xs := T) H rfl hx5 (by first | omega | (simp only [List.length_append, List.length_cons, List.length_nil]; omega)) ?_
        clear H
        intro r8 w H
        simp only [List.set_cons_zero, List.set_cons_succ] at H
        (first | (refine H.wg ?_; clear H; intros; rename_i w H; constructor) | refine wk ?_)
        refine Rel.appS (i := 1) (s := r9) (x := y5) (xs := B) H rfl hy5 (by first | omega | (simp only [List.length_append, List.length_cons, List.length_nil]; omega)) ?_
        clear H
        intro r9 w H
        simp only [List.set_cons_zero, List.set_cons_succ] at H
        (first | (refine H.wg ?_; clear H; intros; rename_i w H; constructor) | refine wk ?_)
        refine ⟨(by repeat (first | exact trivial | refine ⟨rfl, ?_⟩)), (k + 1, r8, r9), (by repeat (first | exact trivial | refine ⟨rfl, ?_⟩)), ⟨by dsimp only; omega, V7, hV27, ?_⟩, by dsimp only; omega⟩
        dsimp only
        rw [hn2, hn1, eb, et]
        simpa only [List.append_assoc, List.nil_append] using H
      · rw [if_neg h0] at et eb
        rw [show (decide (k ≠ 0) || decide (v.kind = 4)) = true by simp [h0]] at eb
        (first | (refine H.wh ?_; clear H; intros; rename_i w H; constructor) | refine wk ?_)
        ((first | refine Rel.nwD H ?_ | refine Rel.nw H ?_); clear H; intro w b49 H)
        (first | (refine H.wg ?_; clear H; intros; rename_i w H; constructor) | refine wk ?_)
        refine Rel.appSB (i := 0) (s := r8) (xs := T) [[44]] H rfl rfl (by simp only [List.length_append, List.length_cons, List.length_nil]; omega) ?_
        clear H
        intro r8 w H
        simp only [List.set_cons_zero, List.set_cons_succ] at H
        (first | (refine H.wh ?_; clear H; intros; rename_i w H; constructor) | refine wk ?_)
        ((first | refine Rel.nwD H ?_ | refine Rel.nw H ?_); clear H; intro w b52 H)
        (first | (refine H.wg ?_; clear H; intros; rename_i w H; constructor) | refine wk ?_)
        refine Rel.appSB (i := 1) (s := r9) (xs := B) [[]] H rfl rfl (by simp only [List.length_append, List.length_cons, List.length_nil]; omega) ?_
        clear H
        intro r9 w H
        simp only [List.set_cons_zero, List.set_cons_succ] at H
        (first | (refine H.wg ?_; clear H; intros; rename_i w H; constructor) | refine wk ?_)
        refine (ih H.data (h := x) (v := p) true (by omega) hx hpB hpw hpM).use ?_
        rintro q w ⟨V5, x5, y5, hV5, K, rfl⟩
        (have hKb := K.base; replace H := Rel.call H K)
        simp only [List.cons_append, List.nil_append] at H
        obtain ⟨V6, hV6, H, hx5⟩ := Rel.freezeF H (fun _ => rfl) (by decide)
        obtain ⟨V7, hV7, H, hy5⟩ := Rel.freezeF H (fun _ => rfl) (by decide)
        replace hx5 := hx5.up hV7
        have hV27 := ((hV2.trans hV5).trans hV6).trans hV7
        have hy5l : (wants true (tokV p)).length = (tokV p).length := wants_len _ _
        (first | (refine H.wg ?_; clear H; intros; rename_i w H; constructor) | refine wk ?_)
        refine Rel.appS (i := 0) (s := r8) (x := x5) (xs := (T ++ [[44]])) H rfl hx5 (by first | omega | (simp only [List.length_append, List.length_cons, List.length_nil]; omega)) ?_
        clear H
        intro r8 w H
        simp only [List.set_cons_zero, List.set_cons_succ] at H
        (first | (refine H.wg ?_; clear H; intros; rename_i w H; constructor) | refine wk ?_)
        refine Rel.appS (i := 1) (s := r9) (x := y5) (xs := (B ++ [[]])) H rfl hy5 (by first | omega | (simp only [List.length_append, List.length_cons, List.length_nil]; omega)) ?_
        clear H
        intro r9 w H
        simp only [List.set_cons_zero, List.set_cons_succ] at H
        (first | (refine H.wg ?_; clear H; intros; rename_i w H; constructor) | refine wk ?_)
        refine ⟨(by repeat (first | exact trivial | refine ⟨rfl, ?_⟩)), (k + 1, r8, r9), (by repeat (first | exact trivial | refine ⟨rfl, ?_⟩)), ⟨by dsimp only; omega, V7, hV27, ?_⟩, by dsimp only; omega⟩
        dsimp only
        rw [hn2, hn1, eb, et]
        simpa only [List.append_assoc, List.nil_append] using H
end Go.Proofs.YtffaffojkfalhaaGreatDoor
