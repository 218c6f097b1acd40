/-
  Pictures, the reference: pixels.
-/
import Derived.Test.YtgnaojphgdaalaaPicW
import Derived.Test.YtgnaojphgdaalaaPicX
namespace Go.Proofs.Ytgnaojphgdaalaa
open Go Go.RowKit

theorem one_shl {sh : Nat} {y : Int} (hy : y = sh) (h : sh ≤ 64) : (1 : Int) * 2 ^ min y.toNat IntKind.i64.bits = ((2 ^ sh : Nat) : Int) := by
  have := shl_n (x := 1) hy h
  rw [Nat.one_mul] at this
  exact this
theorem u8_is {z : Int} {u : UInt8} (h : z % 256 = (u.toNat : Int)) : Value.int .u8 (wr .u8 z) = bv u := congrArg (Value.int .u8) h
section
variable {V W : World}
set_option maxRecDepth 100000 in
theorem fieldOf_ref (hV : Sub V W) {s : Sl} {row : List UInt8} (hs : Byt V s row) (hr : row.length ≤ 10000) {a m : Nat} (hm : m ≤ 24) (hb : a + m ≤ 8 * row.length) : Ret Try.prog 35 [s.v, iv (a : Int), iv (m : Int)].toArray W fun v w' => v = iv ((fieldN row a m : Nat) : Int) ∧ Rel W V [] V w' := by
  have H := Rel.start hV
  have hlen := hs.len
  refine cal_of_vc tabOk Try.func35 rfl (by kernel_rfl) 34 rfl (by simp) [0, 1, 2, 6, 7, 8, 14] ?_
  (first | (refine H.wg ?_; clear H; intros; rename_i w H; constructor) | refine wk ?_)
  refine loop_inv (S := Nat) tabOk [0, 1, 2, 6] (fun k => [(7, iv ((fieldN row a k : Nat) : Int)), (8, iv ((a + k : Nat) : Int))]) (fun k w' => k ≤ m ∧ Rel W V [] V w') (fun k _ => m - k) 0 ?_
  (conv => whnf)
  refine ⟨(by repeat (first | exact trivial | refine ⟨rfl, ?_⟩)), ⟨by omega, H⟩, ?_⟩
  clear H
  rintro k w ⟨hk, H⟩
  dsimp only at hk H ⊢
  have hlt2 := fieldN_lt row a k
  have hp24 : 2 ^ k ≤ 2 ^ 24 := Nat.pow_le_pow_right (by decide) (by omega)
  simp only [Nat.reducePow] at hp24
  by_cases hlt : k < m
  · obtain ⟨p0, c0⟩ := z8_cell hs (i := (a + k) / 8) (by omega)
    have hb2 := bitAt_lt row (a + k)
    obtain ⟨P, hP⟩ : ∃ P, P = 2 ^ (7 - (a + k) % 8) := ⟨_, rfl⟩
    have hP1 : 1 ≤ P := by rw [hP]; exact Nat.two_pow_pos _
    have hP2 : P ≤ 2 ^ 7 := by rw [hP]; exact Nat.pow_le_pow_right (by decide) (by omega)
    simp only [Nat.reducePow] at hP2
    obtain ⟨z, hz⟩ : ∃ z, z = (z8 row ((a + k) / 8)).toNat := ⟨_, rfl⟩
    have hz256 : z < 256 := by rw [hz]; exact UInt8.toNat_lt _
    have hzc : bv (z8 row ((a + k) / 8)) = .int .u8 (z : Int) := by rw [hz]
    rw [hzc] at c0
    obtain ⟨D, hD⟩ : ∃ D, D = z / P := ⟨_, rfl⟩
    have hDle : D ≤ z := by rw [hD]; exact Nat.div_le_self _ _
    have hq0 : (z : Int) / (P : Int) = (D : Int) := by rw [hD]; rfl
    have hb3 : D % 2 = bitAt row (a + k) := by rw [hD, hz, hP]
    have hu : wr .u64 (7 - ((a + k : Nat) : Int) % 8) = ((7 - (a + k) % 8 : Nat) : Int) := by
      show (7 - ((a + k : Nat) : Int) % 8) % 18446744073709551616 = _
      omega
    (first | (refine H.wg ?_; clear H; intros; rename_i w H; constructor) | refine wk ?_)
    rw [hu, one_shl (sh := 7 - (a + k) % 8) rfl (by omega), ← hP]
    (first | (refine H.wg ?_; clear H; intros; rename_i w H; constructor) | refine wk ?_)
    rw [hq0]
    (first | (refine H.wg ?_; clear H; intros; rename_i w H; constructor) | refine wk ?_)
    refine ⟨(by repeat (first | exact trivial | refine ⟨rfl, ?_⟩)), k + 1, ⟨congrArg (fun z => some (iv z)) (by show _ = ((2 * fieldN row a k + bitAt row (a + k) : Nat) : Int); omega), congrArg (fun z => some (iv z)) (by omega), trivial⟩, ⟨by omega, H⟩, by omega⟩
  · obtain rfl : k = m := by omega
    (first | (refine H.wg ?_; clear H; intros; rename_i w H; constructor) | refine wk ?_)
    exact H
structure ColG (W V : World) (o : Option (List UInt8)) (v : Value) (w' : World) : Prop where
  ex : ∃ (V' : World) (r : Sl), Sub V V' ∧ Rel W V [] V' w' ∧ (match o with
    | none => v = .tuple #[.slice none 0 0, .bool false]
    | some x => v = .tuple #[r.v, .bool true] ∧ Byt V' r x)
set_option maxRecDepth 100000 in
set_option maxHeartbeats 1000000 in
theorem colorOf_ref (hV : Sub V W) {f : Nat} (hf : f < 64) {p : Sl} {pal : List Col} (hpo : PalOk f pal) (hp : Byt V p (styB f pal)) {wd : Nat} (hw : wd ≤ 64) (ht : Int) {s : Sl} {row : List UInt8} (hs : Byt V s row) (hl : row.length = rowOf f wd) {x : Nat} (hx : x < wd) :
    Ret Try.prog 33 [.agg (picC f wd ht p).toArray, s.v, iv (x : Int)].toArray W (ColG W V (colG f pal row x)) := by
  have H := Rel.start hV
  have hb := bitsOf_le f
  have hm : x * bitsOf f ≤ 63 * 24 := Nat.mul_le_mul (by omega) hb.2
  have hm2 : wd * bitsOf f ≤ 64 * 24 := Nat.mul_le_mul hw hb.2
  have hrl : row.length ≤ 10000 := by rw [hl]; unfold rowOf; omega
  have hfit : x * bitsOf f + bitsOf f ≤ 8 * row.length := by
    rw [hl]
    unfold rowOf
    have : (x + 1) * bitsOf f ≤ wd * bitsOf f := Nat.mul_le_mul_right _ hx
    rw [Nat.add_mul, Nat.one_mul] at this
    omega
  have hmi : (x : Int) * ((bitsOf f : Nat) : Int) = ((x * bitsOf f : Nat) : Int) := (Int.natCast_mul _ _).symm
  have hpl := hp.len
  have hpc := hp.cap
  refine cal_of_vc tabOk Try.func33 rfl (by kernel_rfl) 57 rfl (by simp) [0, 1, 2, 3, 6, 7, 8, 9, 20, 33, 47] ?_
  (first | (refine H.wh ?_; clear H; intros; rename_i w H; constructor) | refine wk ?_)
  ((first | refine Rel.nwD H ?_ | refine Rel.nw H ?_); clear H; intro w b3 H)
  (first | (refine H.wg ?_; clear H; intros; rename_i w H; constructor) | refine wk ?_)
  refine (pixelBits_ref H.data hf).use ?_
  rintro q w ⟨rfl, K⟩
  (have hKb := K.base; replace H := H.call0 K)
  (first | (refine H.wg ?_; clear H; intros; rename_i w H; constructor) | refine wk ?_)
  rw [hmi]
  refine (fieldOf_ref H.data hs hrl hb.2 hfit).use ?_
  rintro q w ⟨rfl, K⟩
  (have hKb := K.base; replace H := H.call0 K)
  unfold colG
  by_cases h3 : f / 16 = 3
  · have e := bits_3 h3
    rw [e, fieldN_24, if_pos h3]
    have z0 := (z8 row (3 * x)).toNat_lt
    have z1 := (z8 row (3 * x + 1)).toNat_lt
    have z2 := (z8 row (3 * x + 2)).toNat_lt
    (first | (refine H.wh ?_; clear H; intros; rename_i w H; constructor) | refine wk ?_)
    ((first | refine Rel.nwD H ?_ | refine Rel.nw H ?_); clear H; intro w b31 H)
    replace H := H.blkEq (c' := [z8 row (3 * x), z8 row (3 * x + 1), z8 row (3 * x + 2)].flatMap byC) (by
      simp only [List.flatMap_cons, List.flatMap_nil, byC, List.cons_append, List.nil_append, List.append_nil]
      rw [u8_is (u := z8 row (3 * x)) (by omega), u8_is (u := z8 row (3 * x + 1)) (by omega), u8_is (u := z8 row (3 * x + 2)) (by omega)])
    obtain ⟨V2, hV2, H, hb31⟩ := H.freezeBlk
    (first | (refine H.wg ?_; clear H; intros; rename_i w H; constructor) | refine wk ?_)
    exact ⟨V2, ⟨some ⟨b31, 0, none⟩, 3, 3⟩, hV2, H.sx, rfl, ⟨rfl, Nat.le_refl _, hb31.cells⟩⟩
  rw [if_neg h3]
  by_cases h2 : f / 16 = 2
  · have e := bits_2 h2
    rw [e, show x * 8 = 8 * x by omega, fieldN_8, if_pos h2]
    have z0 := (z8 row x).toNat_lt
    (first | (refine H.wh ?_; clear H; intros; rename_i w H; constructor) | refine wk ?_)
    ((first | refine Rel.nwD H ?_ | refine Rel.nw H ?_); clear H; intro w b31 H)
    replace H := H.blkEq (c' := [z8 row x, z8 row x, z8 row x].flatMap byC) (by
      simp only [List.flatMap_cons, List.flatMap_nil, byC, List.cons_append, List.nil_append, List.append_nil]
      rw [u8_is (u := z8 row x) (by omega)])
    obtain ⟨V2, hV2, H, hb31⟩ := H.freezeBlk
    (first | (refine H.wg ?_; clear H; intros; rename_i w H; constructor) | refine wk ?_)
    exact ⟨V2, ⟨some ⟨b31, 0, none⟩, 3, 3⟩, hV2, H.sx, rfl, ⟨rfl, Nat.le_refl _, hb31.cells⟩⟩
  rw [if_neg h2]
  obtain ⟨hn, h32, hmm⟩ := bits_small hf h3 h2
  have hfe : fieldN row (x * bitsOf f) (bitsOf f) = fieldAt (bitsOf f) row x := by
    rcases hn with e | e <;> rw [e]
    · exact fieldN_1 row x
    · exact fieldN_4 row x
  rw [hfe]
  have hfl := fieldAt_lt (bitsOf f) row x
  have hf16 : fieldAt (bitsOf f) row x < 16 := by
    rcases hn with e | e <;> rw [e] at hfl ⊢ <;> omega
  have hb24 : bitsOf f ≠ 24 ∧ bitsOf f ≠ 8 := by rcases hn with e | e <;> rw [e] <;> decide
  obtain ⟨n, hnn⟩ : ∃ n, n = fieldAt (bitsOf f) row x := ⟨_, rfl⟩
  have hstl : (styB f pal).length = 3 * pal.length + 1 := by unfold styB palB; rw [if_pos h32, List.length_cons, colsL_len]
  rw [hstl] at hpl
  unfold pixAt
  rw [← hnn] at hf16 ⊢
  by_cases hlt : n < pal.length
  rotate_left
  · rw [if_neg hlt]
    (first | (refine H.wg ?_; clear H; intros; rename_i w H; constructor) | refine wk ?_)
    exact ⟨V, ⟨none, 0, 0⟩, Sub.refl _, H.sx, rfl⟩
  rw [if_pos hlt]
  have ta := SlF.sub hp (n := 1) (fun _ => rfl) (a := 3 * n + 1) (b := 3 * n + 4) (by omega) (by omega)
  have hcol : ((styB f pal).take (3 * n + 4)).drop (3 * n + 1) = colL (colN pal n) := by
    unfold styB palB
    rw [if_pos h32, sub_col (by rw [colsL_len]; omega), z8_colsL pal n hlt]
    simp [colN, hlt]
  rw [hcol] at ta
  (first | (refine H.wg ?_; clear H; intros; rename_i w H; constructor) | refine wk ?_)
  refine ⟨V, _, Sub.refl _, H.sx, ?_, ta⟩
  have e1 : ((1 : Int) + 3 * (n : Int)).toNat = 3 * n + 1 := by omega
  have e2 : ((4 : Int) + 3 * (n : Int)).toNat = 3 * n + 4 := by omega
  rw [e1, e2]
end
end Go.Proofs.Ytgnaojphgdaalaa
