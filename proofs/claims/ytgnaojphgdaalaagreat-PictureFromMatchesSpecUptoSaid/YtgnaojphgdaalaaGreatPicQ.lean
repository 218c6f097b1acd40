/-
  Pictures: writing a row.
-/
import Derived.Test.YtgnaojphgdaalaaGreatPicO
namespace Go.Proofs.YtgnaojphgdaalaaGreat
open Go Go.RowKit

theorem or_u8_1 : ∀ a : Nat, a < 256 → ∀ s : Nat, s < 8 → ∀ p : Nat, p < 2 → a % 2 ^ (s + 1) = 0 → bitsI .or .u8 (a : Int) ((p * 2 ^ s : Nat) : Int) = ((a + p * 2 ^ s : Nat) : Int) := by decide +kernel
theorem or_u8_4 : ∀ a : Nat, a < 256 → ∀ s : Nat, s < 5 → ∀ p : Nat, p < 16 → a % 2 ^ (s + 4) = 0 → bitsI .or .u8 (a : Int) ((p * 2 ^ s : Nat) : Int) = ((a + p * 2 ^ s : Nat) : Int) := by decide +kernel
/-- the first i fields -/
def cutQ (q : Nat → Nat) (i : Nat) : Nat → Nat := fun j => if j < i then q j else 0
theorem cutQ_lt {q : Nat → Nat} {m : Nat} (hm : 0 < m) (hq : ∀ i, q i < m) (i j : Nat) : cutQ q i j < m := by
  unfold cutQ
  split
  · exact hq j
  · exact hm
theorem packRow_zero (n size : Nat) (q : Nat → Nat) : (packRow n size (cutQ q 0)).flatMap byC = List.replicate size (Value.int .u8 0) := by
  rw [byC_map]
  have : packRow n size (cutQ q 0) = List.replicate size 0 := by
    refine List.eq_replicate_iff.2 ⟨packRow_len .., fun b hb => ?_⟩
    obtain ⟨k, _, rfl⟩ := List.mem_map.1 hb
    simp [byteOf, cutQ]
  rw [this, List.map_replicate]
  rfl
theorem byte_step {n : Nat} (hn : n = 1 ∨ n = 4) (q : Nat → Nat) (i : Nat) : byteOf n (cutQ q (i + 1)) (i * n / 8) = byteOf n (cutQ q i) (i * n / 8) + q i * 2 ^ (8 - n - i * n % 8) ∧ byteOf n (cutQ q i) (i * n / 8) % 2 ^ (8 - n - i * n % 8 + n) = 0 ∧ ∀ k, k ≠ i * n / 8 → byteOf n (cutQ q (i + 1)) k = byteOf n (cutQ q i) k := by
  have out : ∀ j, j ≠ i → cutQ q (i + 1) j = cutQ q i j := by
    intro j hj
    unfold cutQ
    by_cases h : j < i
    · rw [if_pos h, if_pos (by omega)]
    · rw [if_neg h, if_neg (by omega)]
  have at1 : cutQ q (i + 1) i = q i := by unfold cutQ; rw [if_pos (by omega)]
  have zer : ∀ j, i ≤ j → cutQ q i j = 0 := fun j hj => by unfold cutQ; rw [if_neg (by omega)]
  rcases hn with rfl | rfl
  · refine ⟨?_, ?_, fun k hk => ?_⟩
    · unfold byteOf
      rw [if_neg (by decide), if_neg (by decide), Nat.mul_one]
      obtain ⟨k, hk⟩ : ∃ k, k = i / 8 := ⟨_, rfl⟩
      rw [← hk]
      have hc : i % 8 = 0 ∨ i % 8 = 1 ∨ i % 8 = 2 ∨ i % 8 = 3 ∨ i % 8 = 4 ∨ i % 8 = 5 ∨ i % 8 = 6 ∨ i % 8 = 7 := by omega
      rcases hc with h | h | h | h | h | h | h | h <;> rw [h]
      · obtain rfl : i = 8 * k := by omega
        rw [at1, out (8 * k + 1) (by omega), out (8 * k + 2) (by omega), out (8 * k + 3) (by omega), out (8 * k + 4) (by omega), out (8 * k + 5) (by omega), out (8 * k + 6) (by omega), out (8 * k + 7) (by omega), zer (8 * k) (by omega)]
        simp only [Nat.reducePow, Nat.reduceSub]; omega
      · obtain rfl : i = 8 * k + 1 := by omega
        rw [at1, out (8 * k) (by omega), out (8 * k + 2) (by omega), out (8 * k + 3) (by omega), out (8 * k + 4) (by omega), out (8 * k + 5) (by omega), out (8 * k + 6) (by omega), out (8 * k + 7) (by omega), zer (8 * k + 1) (by omega)]
        simp only [Nat.reducePow, Nat.reduceSub]; omega
      · obtain rfl : i = 8 * k + 2 := by omega
        rw [at1, out (8 * k) (by omega), out (8 * k + 1) (by omega), out (8 * k + 3) (by omega), out (8 * k + 4) (by omega), out (8 * k + 5) (by omega), out (8 * k + 6) (by omega), out (8 * k + 7) (by omega), zer (8 * k + 2) (by omega)]
        simp only [Nat.reducePow, Nat.reduceSub]; omega
      · obtain rfl : i = 8 * k + 3 := by omega
        rw [at1, out (8 * k) (by omega), out (8 * k + 1) (by omega), out (8 * k + 2) (by omega), out (8 * k + 4) (by omega), out (8 * k + 5) (by omega), out (8 * k + 6) (by omega), out (8 * k + 7) (by omega), zer (8 * k + 3) (by omega)]
        simp only [Nat.reducePow, Nat.reduceSub]; omega
      · obtain rfl : i = 8 * k + 4 := by omega
        rw [at1, out (8 * k) (by omega), out (8 * k + 1) (by omega), out (8 * k + 2) (by omega), out (8 * k + 3) (by omega), out (8 * k + 5) (by omega), out (8 * k + 6) (by omega), out (8 * k + 7) (by omega), zer (8 * k + 4) (by omega)]
        simp only [Nat.reducePow, Nat.reduceSub]; omega
      · obtain rfl : i = 8 * k + 5 := by omega
        rw [at1, out (8 * k) (by omega), out (8 * k + 1) (by omega), out (8 * k + 2) (by omega), out (8 * k + 3) (by omega), out (8 * k + 4) (by omega), out (8 * k + 6) (by omega), out (8 * k + 7) (by omega), zer (8 * k + 5) (by omega)]
        simp only [Nat.reducePow, Nat.reduceSub]; omega
      · obtain rfl : i = 8 * k + 6 := by omega
        rw [at1, out (8 * k) (by omega), out (8 * k + 1) (by omega), out (8 * k + 2) (by omega), out (8 * k + 3) (by omega), out (8 * k + 4) (by omega), out (8 * k + 5) (by omega), out (8 * k + 7) (by omega), zer (8 * k + 6) (by omega)]
        simp only [Nat.reducePow, Nat.reduceSub]; omega
      · obtain rfl : i = 8 * k + 7 := by omega
        rw [at1, out (8 * k) (by omega), out (8 * k + 1) (by omega), out (8 * k + 2) (by omega), out (8 * k + 3) (by omega), out (8 * k + 4) (by omega), out (8 * k + 5) (by omega), out (8 * k + 6) (by omega), zer (8 * k + 7) (by omega)]
        simp only [Nat.reducePow, Nat.reduceSub]; omega
    · unfold byteOf
      rw [if_neg (by decide), Nat.mul_one]
      obtain ⟨k, hk⟩ : ∃ k, k = i / 8 := ⟨_, rfl⟩
      rw [← hk]
      have hc : i % 8 = 0 ∨ i % 8 = 1 ∨ i % 8 = 2 ∨ i % 8 = 3 ∨ i % 8 = 4 ∨ i % 8 = 5 ∨ i % 8 = 6 ∨ i % 8 = 7 := by omega
      rcases hc with h | h | h | h | h | h | h | h <;> rw [h]
      · rw [zer (8 * k) (by omega), zer (8 * k + 1) (by omega), zer (8 * k + 2) (by omega), zer (8 * k + 3) (by omega), zer (8 * k + 4) (by omega), zer (8 * k + 5) (by omega), zer (8 * k + 6) (by omega), zer (8 * k + 7) (by omega)]
      · rw [zer (8 * k + 1) (by omega), zer (8 * k + 2) (by omega), zer (8 * k + 3) (by omega), zer (8 * k + 4) (by omega), zer (8 * k + 5) (by omega), zer (8 * k + 6) (by omega), zer (8 * k + 7) (by omega)]
        simp only [Nat.reducePow, Nat.reduceSub, Nat.reduceAdd]; omega
      · rw [zer (8 * k + 2) (by omega), zer (8 * k + 3) (by omega), zer (8 * k + 4) (by omega), zer (8 * k + 5) (by omega), zer (8 * k + 6) (by omega), zer (8 * k + 7) (by omega)]
        simp only [Nat.reducePow, Nat.reduceSub, Nat.reduceAdd]; omega
      · rw [zer (8 * k + 3) (by omega), zer (8 * k + 4) (by omega), zer (8 * k + 5) (by omega), zer (8 * k + 6) (by omega), zer (8 * k + 7) (by omega)]
        simp only [Nat.reducePow, Nat.reduceSub, Nat.reduceAdd]; omega
      · rw [zer (8 * k + 4) (by omega), zer (8 * k + 5) (by omega), zer (8 * k + 6) (by omega), zer (8 * k + 7) (by omega)]
        simp only [Nat.reducePow, Nat.reduceSub, Nat.reduceAdd]; omega
      · rw [zer (8 * k + 5) (by omega), zer (8 * k + 6) (by omega), zer (8 * k + 7) (by omega)]
        simp only [Nat.reducePow, Nat.reduceSub, Nat.reduceAdd]; omega
      · rw [zer (8 * k + 6) (by omega), zer (8 * k + 7) (by omega)]
        simp only [Nat.reducePow, Nat.reduceSub, Nat.reduceAdd]; omega
      · rw [zer (8 * k + 7) (by omega)]
        simp only [Nat.reducePow, Nat.reduceSub, Nat.reduceAdd]; omega
    · rw [Nat.mul_one] at hk
      unfold byteOf
      rw [if_neg (by decide), if_neg (by decide), out (8 * k) (by omega), out (8 * k + 1) (by omega), out (8 * k + 2) (by omega), out (8 * k + 3) (by omega), out (8 * k + 4) (by omega), out (8 * k + 5) (by omega), out (8 * k + 6) (by omega), out (8 * k + 7) (by omega)]
  · refine ⟨?_, ?_, fun k hk => ?_⟩
    · unfold byteOf
      rw [if_pos rfl, if_pos rfl]
      obtain ⟨k, hk⟩ : ∃ k, k = i * 4 / 8 := ⟨_, rfl⟩
      rw [← hk]
      have hc : i * 4 % 8 = 0 ∨ i * 4 % 8 = 4 := by omega
      rcases hc with h | h <;> rw [h]
      · obtain rfl : i = 2 * k := by omega
        rw [at1, out (2 * k + 1) (by omega), zer (2 * k) (by omega)]
        simp only [Nat.reducePow, Nat.reduceSub]; omega
      · obtain rfl : i = 2 * k + 1 := by omega
        rw [at1, out (2 * k) (by omega), zer (2 * k + 1) (by omega)]
        simp only [Nat.reducePow, Nat.reduceSub]; omega
    · unfold byteOf
      rw [if_pos rfl]
      obtain ⟨k, hk⟩ : ∃ k, k = i * 4 / 8 := ⟨_, rfl⟩
      rw [← hk]
      have hc : i * 4 % 8 = 0 ∨ i * 4 % 8 = 4 := by omega
      rcases hc with h | h <;> rw [h]
      · rw [zer (2 * k) (by omega), zer (2 * k + 1) (by omega)]
      · rw [zer (2 * k + 1) (by omega)]
        simp only [Nat.reducePow, Nat.reduceSub, Nat.reduceAdd]; omega
    · unfold byteOf
      rw [if_pos rfl, if_pos rfl, out (2 * k) (by omega), out (2 * k + 1) (by omega)]
theorem packRow_step {n size : Nat} (hn : n = 1 ∨ n = 4) (q : Nat → Nat) {i : Nat} (hi : i * n / 8 < size) : packRow n size (cutQ q (i + 1)) = (packRow n size (cutQ q i)).set (i * n / 8) (UInt8.ofNat (byteOf n (cutQ q i) (i * n / 8) + q i * 2 ^ (8 - n - i * n % 8))) := by
  obtain ⟨h1, _, h3⟩ := byte_step hn q i
  refine List.ext_getElem? fun k => ?_
  rw [List.getElem?_set, packRow_len]
  by_cases hk : i * n / 8 = k
  · rw [if_pos hk, if_pos (by omega)]
    unfold packRow
    rw [List.getElem?_map, List.getElem?_range (by omega), ← hk]
    simp only [Option.map_some]
    rw [h1]
  · rw [if_neg hk]
    by_cases hs : k < size
    · unfold packRow
      rw [List.getElem?_map, List.getElem?_map, List.getElem?_range hs]
      simp only [Option.map_some]
      rw [h3 k (fun e => hk e.symm)]
    · rw [List.getElem?_eq_none (by rw [packRow_len]; omega), List.getElem?_eq_none (by rw [packRow_len]; omega)]
section
variable {V W : World}
theorem shl_n {x sh : Nat} {y : Int} (hy : y = sh) (h : sh ≤ 64) : (x : Int) * 2 ^ min y.toNat IntKind.i64.bits = ((x * 2 ^ sh : Nat) : Int) := by
  have e : min y.toNat IntKind.i64.bits = sh := by
    rw [hy, Int.toNat_natCast]
    show min sh 64 = sh
    omega
  rw [e, Int.natCast_mul, Int.natCast_pow]
  rfl
theorem bv_nat {n : Nat} (h : n < 256) : bv (UInt8.ofNat n) = Value.int .u8 (n : Int) := by
  simp only [bv]
  rw [UInt8.toNat_ofNat', Nat.mod_eq_of_lt h]
theorem byC_set (l : List UInt8) (j : Nat) (x : UInt8) : (l.flatMap byC).set j (bv x) = (l.set j x).flatMap byC := by
  rw [byC_map, byC_map, List.map_set]
set_option maxRecDepth 100000 in
set_option maxHeartbeats 1000000 in
theorem writeRow_spec (hV : Sub V W) {f : Nat} (hf : f < 64) {ps : Sl} {pal : List Col} (hp : Cols V ps pal) (hpo : PalOk f pal) {s : Sl} {px : List UInt8} (hs : Byt V s px) {wd : Nat} (hw : wd ≤ 64) (hl : px.length = 3 * wd) : Ret Tryz.prog 47 [.agg (styC f ps).toArray, s.v].toArray W (RowP W V (wrRow f pal wd px)) := by
  have H := Rel.start hV
  have hlen := hs.len
  have hcap := hs.cap
  refine cal_of_vc tabOk Tryz.func47 rfl (by kernel_rfl) 81 rfl (by simp) [0, 1, 2, 4, 5, 6, 7, 8, 9, 10, 11, 13, 14, 17, 22, 42, 43, 44, 59] ?_
  (first | (refine H.wh ?_; clear H; intros; rename_i w H; constructor) | refine wk ?_)
  ((first | refine Rel.nwD H ?_ | refine Rel.nw H ?_); clear H; intro w b2 H)
  (first | (refine H.wg ?_; clear H; intros; rename_i w H; constructor) | refine wk ?_)
  refine (depth_spec H.data (by omega) ps).use ?_
  rintro q w ⟨rfl, K⟩
  (have hKb := K.base; replace H := H.call0 K)
  unfold wrRow
  by_cases h3 : f / 16 = 3
  · rw [if_pos h3]
    (first | (refine H.wg ?_; clear H; intros; rename_i w H; constructor) | refine wk ?_)
    exact ⟨V, s, Sub.refl _, H.sx, rfl, hs⟩
  rw [if_neg h3]
  by_cases h2 : f / 16 = 2
  · rw [if_pos h2]
    (first | (refine H.wg ?_; clear H; intros; rename_i w H; constructor) | refine wk ?_)
    replace H := H.rowNil 5 1
    refine loop_inv (S := Nat × Sl) tabOk [0, 1, 2, 4, 5, 8, 9, 10, 11, 13, 14, 17, 42, 43, 44, 59] (fun k => [(6, k.2.v), (7, iv ((3 * k.1 : Nat) : Int))]) (fun k w' => k.1 ≤ wd ∧ Rel W V [.row k.2 5 1 (((List.range k.1).map fun i => z8 px (3 * i)).flatMap byC)] V w') (fun k _ => wd - k.1) (0, ⟨none, 0, 0⟩) ?_
    (conv => whnf)
    refine ⟨(by repeat (first | exact trivial | refine ⟨rfl, ?_⟩)), ⟨by omega, H.sx⟩, ?_⟩
    clear H
    rintro ⟨k, r⟩ w ⟨hk, H⟩
    dsimp only at hk H ⊢
    by_cases hlt : k < wd
    · obtain ⟨q0, d0⟩ := z8_cell hs (i := 3 * k) (by omega)
      (first | (refine H.wg ?_; clear H; intros; rename_i w H; constructor) | refine wk ?_)
      refine Rel.app1_0 (f := byC) (l := (List.range k).map fun i => z8 px (3 * i)) (x := z8 px (3 * k)) tabOk rfl rfl rfl rfl rfl (by decide) (fun _ => rfl) (by simp [Value.oneCell', bv]) H (by rw [List.length_map, List.length_range]; show (k + 1) * 1 ≤ _; omega) (by rw [List.length_map, List.length_range]; omega) ?_
      clear H
      intro r1 w H
      rw [show ((List.range k).map fun i => z8 px (3 * i)) ++ [z8 px (3 * k)] = (List.range (k + 1)).map fun i => z8 px (3 * i) by rw [List.range_succ, List.map_append]; rfl] at H
      (first | (refine H.wg ?_; clear H; intros; rename_i w H; constructor) | refine wk ?_)
      exact ⟨(by repeat (first | exact trivial | refine ⟨rfl, ?_⟩)), (k + 1, r1), ⟨rfl, congrArg (fun z => some (iv z)) (by omega), trivial⟩, ⟨by dsimp only; omega, H.sx⟩, by dsimp only; omega⟩
    · obtain rfl : k = wd := by omega
      obtain ⟨V2, hV2, H, hr⟩ := Rel.freezeF H (fun _ => rfl) (by decide)
      (first | (refine H.wg ?_; clear H; intros; rename_i w H; constructor) | refine wk ?_)
      exact ⟨V2, r, hV2, H.sx, rfl, hr⟩
  rw [if_neg h2]
  obtain ⟨hn, h32, hm⟩ := bits_small hf h3 h2
  obtain ⟨pp1, pp2, pp3⟩ := hpo.ind h32
  have hpl := hp.len
  have hm2 := mostP_le f
  have hsz : rowOf f wd = (wd * bitsOf f + 7) / 8 := rfl
  have hb64 : wd * bitsOf f ≤ 64 * 24 := Nat.mul_le_mul hw (bitsOf_le f).2
  have hu : pal.length ≤ 2 ^ bitsOf f := by omega
  (first | (refine H.wg ?_; clear H; intros; rename_i w H; constructor) | refine wk ?_)
  rcases hn with e | e
  · rw [e] at hsz hu hb64
    rw [show ((s.len : Nat) : Int) / 3 = (wd : Int) by omega]
    refine (rowSize_spec H.data hf ps hw).use ?_
    rintro q w ⟨rfl, K⟩
    (have hKb := K.base; replace H := H.call0 K)
    (first | (refine H.wg ?_; clear H; intros; rename_i w H; constructor) | refine wk ?_)
    refine sem_make tabOk rfl rfl rfl rfl rfl rfl (by omega) (by simp; omega) (by omega) fun w b6 hnb => ?_
    replace H := H.newBlk hnb
    clear hnb
    simp only [Int.toNat_natCast] at H ⊢
    rw [← packRow_zero 1 (rowOf f wd) (posAt pal wd px)] at H
    replace H := H.toRow (n := rowOf f wd) (e := 5) (sz := 1) (by simp [byC_map, packRow_len]) (by simp only [maxLen]; omega)
    (first | (refine H.wg ?_; clear H; intros; rename_i w H; constructor) | refine wk ?_)
    refine (bits_spec H.data hf ps).use ?_
    rintro q w ⟨rfl, K⟩
    (have hKb := K.base; replace H := H.call0 K)
    rw [e]
    (first | (refine H.wg ?_; clear H; intros; rename_i w H; constructor) | refine wk ?_)
    refine loop_inv (S := Nat) tabOk [0, 1, 2, 6, 7, 8, 9, 13, 14, 17, 22, 42] (fun i => [(43, iv i)]) (fun i w' => i ≤ wd ∧ (∀ j, j < i → colAt px j ∈ pal) ∧ Rel W V [.row ⟨some ⟨b6, 0, none⟩, rowOf f wd, rowOf f wd⟩ 5 1 ((packRow 1 (rowOf f wd) (cutQ (posAt pal wd px) i)).flatMap byC), .blk b2 (styC f ps) 53] V w') (fun i _ => wd - i) 0 ?_
    (conv => whnf)
    refine ⟨(by repeat (first | exact trivial | refine ⟨rfl, ?_⟩)), ⟨by omega, fun j hj => by omega, H⟩, ?_⟩
    clear H
    rintro i w ⟨hi, hA, H⟩
    dsimp only at hi hA H ⊢
    by_cases hlt : i < wd
    · obtain ⟨q0, d0⟩ := z8_cell hs (i := 3 * i) (by omega)
      obtain ⟨_, d1⟩ := z8_cell hs (i := 3 * i + 1) (by omega)
      obtain ⟨_, d2⟩ := z8_cell hs (i := 3 * i + 2) (by omega)
      (first | (refine H.wg ?_; clear H; intros; rename_i w H; constructor) | refine wk ?_)
      ((first | refine draw_vc (id := 17) tabOk mixed [9] [0, 1, 2, 3, 4, 5, 6, 7, 8, 9, 10, 11, 12] (by kernel_rfl) ?_ | refine draw_vc (id := 20) tabOk mixed [] [0, 1, 2, 3, 4, 5, 6, 7, 8, 9, 10, 11, 12, 13, 14, 15, 16, 17, 18, 19] (by kernel_rfl) ?_); intro w hdw; replace H := Rel.ext H hdw.ext)
      (first | (refine H.wg ?_; clear H; intros; rename_i w H; constructor) | refine wk ?_)
      refine sem_arr (n := 3) (e := 5) (by kernel_rfl) (by omega) ?_
      rw [subA_eq q0 (by omega), show (3 * (i : Int)).toNat * 1 = 3 * i by omega]
      refine ⟨Ext.refl _, ?_⟩
      (first | (refine H.wg ?_; clear H; intros; rename_i w H; constructor) | refine wk ?_)
      refine (index_cols H.data hp (by omega) (colAt px i)).use ?_
      rintro q w ⟨rfl, K⟩
      (have hKb := K.base; replace H := H.call0 K)
      by_cases hc : colAt px i ∈ pal
      rotate_left
      · rw [if_neg hc, if_neg (fun h => hc (h i hlt))]
        (first | (refine H.wg ?_; clear H; intros; rename_i w H; constructor) | refine wk ?_)
        exact ⟨V, ⟨none, 0, 0⟩, Sub.refl _, H.sx, rfl⟩
      rw [if_pos hc]
      have hpk : posAt pal wd px i = posC pal (colAt px i) := by unfold posAt; rw [if_pos hlt]
      obtain ⟨k, hk⟩ : ∃ k, k = posC pal (colAt px i) := ⟨_, rfl⟩
      have hkl := (posC_le (colAt px i) pal).2.2 hc
      rw [← hk] at hkl ⊢
      have hkq : k < 2 ^ 1 := by omega
      have hA2 : ∀ j, j < i + 1 → colAt px j ∈ pal := fun j hj => by
        by_cases e2 : j = i
        · rw [e2]; exact hc
        · exact hA j (by omega)
      have hcq : ∀ m, m ≤ i + 1 → ∀ j, cutQ (posAt pal wd px) m j < 2 ^ 1 := fun m hm1 j => by
        unfold cutQ
        split
        · rename_i hj
          have := (posC_le (colAt px j) pal).2.2 (hA2 j (by omega))
          unfold posAt
          split
          · omega
          · decide
        · decide
      have hbi : i * 1 / 8 < rowOf f wd := by omega
      obtain ⟨hy, hz, _⟩ := byte_step (n := 1) (by decide) (posAt pal wd px) i
      have hlow := byteOf_lt (n := 1) (by decide) (hcq i (by omega)) (i * 1 / 8)
      have hlow2 := byteOf_lt (n := 1) (by decide) (hcq (i + 1) (by omega)) (i * 1 / 8)
      have hstep := packRow_step (n := 1) (by decide) (posAt pal wd px) hbi
      rw [hpk, ← hk] at hstep
      have hor := or_u8_1 _ hlow (8 - 1 - i * 1 % 8) (by omega) k hkq hz
      have hp2 : k * 2 ^ (8 - 1 - i * 1 % 8) < 256 := Nat.lt_of_le_of_lt (Nat.mul_le_mul (show k ≤ 1 by omega) (Nat.pow_le_pow_right (by decide) (show 8 - 1 - i * 1 % 8 ≤ 7 by omega))) (by decide)
      have hw8 : wr .u8 ((k * 2 ^ (8 - 1 - i * 1 % 8) : Nat) : Int) = ((k * 2 ^ (8 - 1 - i * 1 % 8) : Nat) : Int) := by
        show ((k * 2 ^ (8 - 1 - i * 1 % 8) : Nat) : Int) % 256 = _
        omega
      (first | (refine H.wg ?_; clear H; intros; rename_i w H; constructor) | refine wk ?_)
      ((first | refine draw_vc (id := 17) tabOk mixed [9] [0, 1, 2, 3, 4, 5, 6, 7, 8, 9, 10, 11, 12] (by kernel_rfl) ?_ | refine draw_vc (id := 20) tabOk mixed [] [0, 1, 2, 3, 4, 5, 6, 7, 8, 9, 10, 11, 12, 13, 14, 15, 16, 17, 18, 19] (by kernel_rfl) ?_); intro w hdw; replace H := Rel.ext H hdw.ext)
      have S5 := H.slfAt (i := 0) rfl (fun _ => rfl) (by decide)
      obtain ⟨p9, c9⟩ := z8_cell S5 (i := i * 1 / 8) (by rw [packRow_len]; exact hbi)
      rw [packRow_get hbi, bv_nat hlow] at c9
      (first | (refine H.wg ?_; clear H; intros; rename_i w H; constructor) | refine wk ?_)
      rw [shl_n (sh := 8 - 1 - i * 1 % 8) (by omega) (by omega)]
      (first | (refine H.wg ?_; clear H; intros; rename_i w H; constructor) | refine wk ?_)
      rw [hw8, hor]
      refine Rel.stRow (i := 0) H rfl (i * 1 / 8) hbi rfl (by
        rw [show ((i : Int) * ((1 : Nat) : Int) / 8).toNat = i * 1 / 8 by omega]
        rfl) ?_
      clear H
      intro w H
      simp only [List.set_cons_zero] at H
      rw [hpk, ← hk] at hy
      rw [← bv_nat (by rw [← hy]; exact hlow2), byC_set, ← hstep] at H
      (first | (refine H.wg ?_; clear H; intros; rename_i w H; constructor) | refine wk ?_)
      exact ⟨(by repeat (first | exact trivial | refine ⟨rfl, ?_⟩)), i + 1, (by repeat (first | exact trivial | refine ⟨rfl, ?_⟩)), ⟨by omega, hA2, H⟩, by omega⟩
    · obtain rfl : i = wd := by omega
      rw [if_pos (fun j hj => hA j hj)]
      have hcc : packRow 1 (rowOf f i) (cutQ (posAt pal i px) i) = packRow 1 (rowOf f i) (posAt pal i px) := by
        congr 1
        funext j
        unfold cutQ posAt
        split <;> rfl
      rw [hcc] at H
      obtain ⟨V2, hV2, H, hr⟩ := Rel.freezeF H (fun _ => rfl) (by decide)
      (first | (refine H.wg ?_; clear H; intros; rename_i w H; constructor) | refine wk ?_)
      exact ⟨V2, _, hV2, H.sx, rfl, hr⟩
  · rw [e] at hsz hu hb64
    rw [show ((s.len : Nat) : Int) / 3 = (wd : Int) by omega]
    refine (rowSize_spec H.data hf ps hw).use ?_
    rintro q w ⟨rfl, K⟩
    (have hKb := K.base; replace H := H.call0 K)
    (first | (refine H.wg ?_; clear H; intros; rename_i w H; constructor) | refine wk ?_)
    refine sem_make tabOk rfl rfl rfl rfl rfl rfl (by omega) (by simp; omega) (by omega) fun w b6 hnb => ?_
    replace H := H.newBlk hnb
    clear hnb
    simp only [Int.toNat_natCast] at H ⊢
    rw [← packRow_zero 4 (rowOf f wd) (posAt pal wd px)] at H
    replace H := H.toRow (n := rowOf f wd) (e := 5) (sz := 1) (by simp [byC_map, packRow_len]) (by simp only [maxLen]; omega)
    (first | (refine H.wg ?_; clear H; intros; rename_i w H; constructor) | refine wk ?_)
    refine (bits_spec H.data hf ps).use ?_
    rintro q w ⟨rfl, K⟩
    (have hKb := K.base; replace H := H.call0 K)
    rw [e]
    (first | (refine H.wg ?_; clear H; intros; rename_i w H; constructor) | refine wk ?_)
    refine loop_inv (S := Nat) tabOk [0, 1, 2, 6, 7, 8, 9, 13, 14, 17, 22, 42] (fun i => [(43, iv i)]) (fun i w' => i ≤ wd ∧ (∀ j, j < i → colAt px j ∈ pal) ∧ Rel W V [.row ⟨some ⟨b6, 0, none⟩, rowOf f wd, rowOf f wd⟩ 5 1 ((packRow 4 (rowOf f wd) (cutQ (posAt pal wd px) i)).flatMap byC), .blk b2 (styC f ps) 53] V w') (fun i _ => wd - i) 0 ?_
    (conv => whnf)
    refine ⟨(by repeat (first | exact trivial | refine ⟨rfl, ?_⟩)), ⟨by omega, fun j hj => by omega, H⟩, ?_⟩
    clear H
    rintro i w ⟨hi, hA, H⟩
    dsimp only at hi hA H ⊢
    by_cases hlt : i < wd
    · obtain ⟨q0, d0⟩ := z8_cell hs (i := 3 * i) (by omega)
      obtain ⟨_, d1⟩ := z8_cell hs (i := 3 * i + 1) (by omega)
      obtain ⟨_, d2⟩ := z8_cell hs (i := 3 * i + 2) (by omega)
      (first | (refine H.wg ?_; clear H; intros; rename_i w H; constructor) | refine wk ?_)
      ((first | refine draw_vc (id := 17) tabOk mixed [9] [0, 1, 2, 3, 4, 5, 6, 7, 8, 9, 10, 11, 12] (by kernel_rfl) ?_ | refine draw_vc (id := 20) tabOk mixed [] [0, 1, 2, 3, 4, 5, 6, 7, 8, 9, 10, 11, 12, 13, 14, 15, 16, 17, 18, 19] (by kernel_rfl) ?_); intro w hdw; replace H := Rel.ext H hdw.ext)
      (first | (refine H.wg ?_; clear H; intros; rename_i w H; constructor) | refine wk ?_)
      refine sem_arr (n := 3) (e := 5) (by kernel_rfl) (by omega) ?_
      rw [subA_eq q0 (by omega), show (3 * (i : Int)).toNat * 1 = 3 * i by omega]
      refine ⟨Ext.refl _, ?_⟩
      (first | (refine H.wg ?_; clear H; intros; rename_i w H; constructor) | refine wk ?_)
      refine (index_cols H.data hp (by omega) (colAt px i)).use ?_
      rintro q w ⟨rfl, K⟩
      (have hKb := K.base; replace H := H.call0 K)
      by_cases hc : colAt px i ∈ pal
      rotate_left
      · rw [if_neg hc, if_neg (fun h => hc (h i hlt))]
        (first | (refine H.wg ?_; clear H; intros; rename_i w H; constructor) | refine wk ?_)
        exact ⟨V, ⟨none, 0, 0⟩, Sub.refl _, H.sx, rfl⟩
      rw [if_pos hc]
      have hpk : posAt pal wd px i = posC pal (colAt px i) := by unfold posAt; rw [if_pos hlt]
      obtain ⟨k, hk⟩ : ∃ k, k = posC pal (colAt px i) := ⟨_, rfl⟩
      have hkl := (posC_le (colAt px i) pal).2.2 hc
      rw [← hk] at hkl ⊢
      have hkq : k < 2 ^ 4 := by omega
      have hA2 : ∀ j, j < i + 1 → colAt px j ∈ pal := fun j hj => by
        by_cases e2 : j = i
        · rw [e2]; exact hc
        · exact hA j (by omega)
      have hcq : ∀ m, m ≤ i + 1 → ∀ j, cutQ (posAt pal wd px) m j < 2 ^ 4 := fun m hm1 j => by
        unfold cutQ
        split
        · rename_i hj
          have := (posC_le (colAt px j) pal).2.2 (hA2 j (by omega))
          unfold posAt
          split
          · omega
          · decide
        · decide
      have hbi : i * 4 / 8 < rowOf f wd := by omega
      obtain ⟨hy, hz, _⟩ := byte_step (n := 4) (by decide) (posAt pal wd px) i
      have hlow := byteOf_lt (n := 4) (by decide) (hcq i (by omega)) (i * 4 / 8)
      have hlow2 := byteOf_lt (n := 4) (by decide) (hcq (i + 1) (by omega)) (i * 4 / 8)
      have hstep := packRow_step (n := 4) (by decide) (posAt pal wd px) hbi
      rw [hpk, ← hk] at hstep
      have hor := or_u8_4 _ hlow (8 - 4 - i * 4 % 8) (by omega) k hkq hz
      have hp2 : k * 2 ^ (8 - 4 - i * 4 % 8) < 256 := Nat.lt_of_le_of_lt (Nat.mul_le_mul (show k ≤ 15 by omega) (Nat.pow_le_pow_right (by decide) (show 8 - 4 - i * 4 % 8 ≤ 4 by omega))) (by decide)
      have hw8 : wr .u8 ((k * 2 ^ (8 - 4 - i * 4 % 8) : Nat) : Int) = ((k * 2 ^ (8 - 4 - i * 4 % 8) : Nat) : Int) := by
        show ((k * 2 ^ (8 - 4 - i * 4 % 8) : Nat) : Int) % 256 = _
        omega
      (first | (refine H.wg ?_; clear H; intros; rename_i w H; constructor) | refine wk ?_)
      ((first | refine draw_vc (id := 17) tabOk mixed [9] [0, 1, 2, 3, 4, 5, 6, 7, 8, 9, 10, 11, 12] (by kernel_rfl) ?_ | refine draw_vc (id := 20) tabOk mixed [] [0, 1, 2, 3, 4, 5, 6, 7, 8, 9, 10, 11, 12, 13, 14, 15, 16, 17, 18, 19] (by kernel_rfl) ?_); intro w hdw; replace H := Rel.ext H hdw.ext)
      have S5 := H.slfAt (i := 0) rfl (fun _ => rfl) (by decide)
      obtain ⟨p9, c9⟩ := z8_cell S5 (i := i * 4 / 8) (by rw [packRow_len]; exact hbi)
      rw [packRow_get hbi, bv_nat hlow] at c9
      (first | (refine H.wg ?_; clear H; intros; rename_i w H; constructor) | refine wk ?_)
      rw [shl_n (sh := 8 - 4 - i * 4 % 8) (by omega) (by omega)]
      (first | (refine H.wg ?_; clear H; intros; rename_i w H; constructor) | refine wk ?_)
      rw [hw8, hor]
      refine Rel.stRow (i := 0) H rfl (i * 4 / 8) hbi rfl (by
        rw [show ((i : Int) * ((4 : Nat) : Int) / 8).toNat = i * 4 / 8 by omega]
        rfl) ?_
      clear H
      intro w H
      simp only [List.set_cons_zero] at H
      rw [hpk, ← hk] at hy
      rw [← bv_nat (by rw [← hy]; exact hlow2), byC_set, ← hstep] at H
      (first | (refine H.wg ?_; clear H; intros; rename_i w H; constructor) | refine wk ?_)
      exact ⟨(by repeat (first | exact trivial | refine ⟨rfl, ?_⟩)), i + 1, (by repeat (first | exact trivial | refine ⟨rfl, ?_⟩)), ⟨by omega, hA2, H⟩, by omega⟩
    · obtain rfl : i = wd := by omega
      rw [if_pos (fun j hj => hA j hj)]
      have hcc : packRow 4 (rowOf f i) (cutQ (posAt pal i px) i) = packRow 4 (rowOf f i) (posAt pal i px) := by
        congr 1
        funext j
        unfold cutQ posAt
        split <;> rfl
      rw [hcc] at H
      obtain ⟨V2, hV2, H, hr⟩ := Rel.freezeF H (fun _ => rfl) (by decide)
      (first | (refine H.wg ?_; clear H; intros; rename_i w H; constructor) | refine wk ?_)
      exact ⟨V2, _, hV2, H.sx, rfl, hr⟩
end
end Go.Proofs.YtgnaojphgdaalaaGreat
