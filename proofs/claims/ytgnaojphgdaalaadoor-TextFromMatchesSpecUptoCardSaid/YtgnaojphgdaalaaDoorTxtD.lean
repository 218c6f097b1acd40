/-
  Text files: utf8.Valid.
-/
import Derived.Test.YtgnaojphgdaalaaDoorTxtB
namespace Go.Proofs.YtgnaojphgdaalaaDoor
open Go Go.RowKit

theorem wsh {x : Nat} (hx : x < 256) {p : Int} (q : Nat) (hp : p = (q : Int)) (hq : q ≤ 72057594037927936) : wr .u64 (wr .u64 (x : Int) * p) = ((x * q : Nat) : Int) := by
  subst hp
  have : x * q ≤ 255 * 72057594037927936 := Nat.mul_le_mul (by omega) hq
  show ((x : Int) % 18446744073709551616 * q) % 18446744073709551616 = _
  rw [show (x : Int) % 18446744073709551616 = x by omega, ← Int.natCast_mul]
  omega
theorem wr64 {x : Nat} (hx : x < 18446744073709551616) : wr .u64 (x : Int) = x := by show (x : Int) % 18446744073709551616 = _; omega
theorem and_7 : ∀ x : Nat, x < 256 → bitsI .and .u8 (x : Int) 7 = ((x % 8 : Nat) : Int) := by decide +kernel
/-- .. as pairsOk, the cheap test first -/
def pairsOkQ (T : List TD) (ops : List Oper) (xs ys : List Nat) : List Nat → Bool
  | [] => true
  | x :: r => (match ops[x]? with
    | some ox => r.all fun i => (match ops[i]? with
      | some oi => before1 T ops.toArray xs ys x ox i oi
      | none => false) || (ancs ops ops.length i).contains x
    | none => false) && pairsOkQ T ops xs ys r
theorem pairsOkQ_eq (T : List TD) (ops : List Oper) (xs ys : List Nat) : ∀ r, pairsOkQ T ops xs ys r = pairsOk T ops xs ys r
  | [] => rfl
  | x :: r => by
    unfold pairsOkQ pairsOk
    rw [pairsOkQ_eq T ops xs ys r]
    congr 1
    cases ops[x]? with
    | none => rfl
    | some ox =>
      simp only
      congr 1
      funext i
      exact Bool.or_comm _ _
def orderOkQ (T : List TD) (ops : List Oper) (xs ys π : List Nat) : Bool :=
  topoOk ops π && pairsOkQ T ops xs ys π && ((List.range ops.length).all fun i => π.contains i) && decide (π.length = ops.length) && decide π.Nodup && π.all fun i => decide (i < ops.length)
theorem orderOkQ_eq (T : List TD) (ops : List Oper) (xs ys π : List Nat) : orderOkQ T ops xs ys π = orderOk T ops xs ys π := by
  unfold orderOkQ orderOk
  rw [pairsOkQ_eq]
theorem draw_vcQ {C : Cx} (hT : TabOk C.P C.T) (hm : C.P.follows .mixedOrders = true) {id : Nat} {ops : Array Oper} {env : Env} {ds : List Deferred} {w : World} {Q : Post} (xs π : List Nat)
    (hok : orderOkQ C.T ops.toList xs π π = true)
    (h : ∀ w1, Drew w w1 → vcOpsD C ops.toList xs π env w1 (fun env' w' => pruneK env' C.live fun e' => Q .normal e' ds w') (fun ch w' => Q (.panic ch) [] ds w')) :
    SemC C (.region id ops true) env ds w Q := draw_vc hT hm xs π (by rw [← orderOkQ_eq]; exact hok) h
structure WordR (W V : World) (n : Nat) (v : Value) (w' : World) : Prop where
  v : v = .int .u64 (n : Int)
  rel : Rel W V [] V w'
section
variable {V W : World}
set_option maxRecDepth 100000 in
theorem word_spec (hV : Sub V W) {s : Sl} {l : List UInt8} (hs : Byt V s l) (h8 : 8 ≤ l.length) : Ret Tryd.prog 65 [s.v].toArray W (WordR W V (Lib.leNat (l.take 8))) := by
  have H := Rel.start hV
  have hlen := hs.len
  obtain ⟨a0, a1, a2, a3, a4, a5, a6, a7, r, rfl⟩ : ∃ a0 a1 a2 a3 a4 a5 a6 a7 r, l = a0 :: a1 :: a2 :: a3 :: a4 :: a5 :: a6 :: a7 :: r := by
    match l, h8 with
    | a0 :: a1 :: a2 :: a3 :: a4 :: a5 :: a6 :: a7 :: r, _ => exact ⟨_, _, _, _, _, _, _, _, _, rfl⟩
  obtain ⟨p0, c0⟩ := hs.at1 (g := bv) (i := 0) (fun _ => rfl) (by omega)
  obtain ⟨_, c1⟩ := hs.at1 (g := bv) (i := 1) (fun _ => rfl) (by omega)
  obtain ⟨_, c2⟩ := hs.at1 (g := bv) (i := 2) (fun _ => rfl) (by omega)
  obtain ⟨_, c3⟩ := hs.at1 (g := bv) (i := 3) (fun _ => rfl) (by omega)
  obtain ⟨_, c4⟩ := hs.at1 (g := bv) (i := 4) (fun _ => rfl) (by omega)
  obtain ⟨_, c5⟩ := hs.at1 (g := bv) (i := 5) (fun _ => rfl) (by omega)
  obtain ⟨_, c6⟩ := hs.at1 (g := bv) (i := 6) (fun _ => rfl) (by omega)
  obtain ⟨_, c7⟩ := hs.at1 (g := bv) (i := 7) (fun _ => rfl) (by omega)
  simp only [List.getElem_cons_zero, List.getElem_cons_succ] at c0 c1 c2 c3 c4 c5 c6 c7
  have z0 := a0.toNat_lt
  have z1 := a1.toNat_lt
  have z2 := a2.toNat_lt
  have z3 := a3.toNat_lt
  have z4 := a4.toNat_lt
  have z5 := a5.toNat_lt
  have z6 := a6.toNat_lt
  have z7 := a7.toNat_lt
  refine cal_of_vc tabOk Tryd.func65 rfl (by kernel_rfl) 71 rfl (by simp) [0, 2] ?_
  (first | (refine H.wg ?_; clear H; intros; rename_i w H; constructor) | refine wk ?_)
  ((first | refine draw_vc (id := 1) tabOk mixed [] [0, 1, 2, 3, 4, 5, 6, 7, 8, 9, 10, 11, 12, 13, 14, 15, 16, 17, 18, 19, 20, 21, 22] (by kernel_rfl) ?_ | refine draw_vc (id := 2) tabOk mixed [] [0, 1, 2, 3, 4, 5, 6, 7, 8, 9, 10, 11, 12, 13, 14, 15, 16, 17, 18, 19, 20, 21, 22, 23, 24, 25, 26, 27, 28, 29, 30, 31, 32, 33, 34, 35, 36, 37, 38, 39, 40, 41, 42, 43, 44, 45, 46] (by kernel_rfl) ?_); intro w hdw; replace H := Rel.ext H hdw.ext)
  (first | (refine H.wg ?_; clear H; intros; rename_i w H; constructor) | refine wk ?_)
  have w1 := wsh z1 (p := 2 ^ min (Int.toNat 8) IntKind.u64.bits) 256 (by decide) (by decide)
  have w2 := wsh z2 (p := 2 ^ min (Int.toNat 16) IntKind.u64.bits) 65536 (by decide) (by decide)
  have w3 := wsh z3 (p := 2 ^ min (Int.toNat 24) IntKind.u64.bits) 16777216 (by decide) (by decide)
  have w4 := wsh z4 (p := 2 ^ min (Int.toNat 32) IntKind.u64.bits) 4294967296 (by decide) (by decide)
  have w5 := wsh z5 (p := 2 ^ min (Int.toNat 40) IntKind.u64.bits) 1099511627776 (by decide) (by decide)
  have w6 := wsh z6 (p := 2 ^ min (Int.toNat 48) IntKind.u64.bits) 281474976710656 (by decide) (by decide)
  have w7 := wsh z7 (p := 2 ^ min (Int.toNat 56) IntKind.u64.bits) 72057594037927936 (by decide) (by decide)
  rw [wr64 (show a0.toNat < 18446744073709551616 by omega), w1, w2, w3, w4, w5, w6, w7]
  have o1 := or_shift (u := a0.toNat) (x := a1.toNat) (j := 8) (by simp only [Nat.reducePow]; omega) (by simp only [Nat.reducePow]; omega) (by omega)
  have o2 := or_shift (u := a0.toNat + a1.toNat * 256) (x := a2.toNat) (j := 16) (by simp only [Nat.reducePow]; omega) (by simp only [Nat.reducePow]; omega) (by omega)
  have o3 := or_shift (u := a0.toNat + a1.toNat * 256 + a2.toNat * 65536) (x := a3.toNat) (j := 24) (by simp only [Nat.reducePow]; omega) (by simp only [Nat.reducePow]; omega) (by omega)
  have o4 := or_shift (u := a0.toNat + a1.toNat * 256 + a2.toNat * 65536 + a3.toNat * 16777216) (x := a4.toNat) (j := 32) (by simp only [Nat.reducePow]; omega) (by simp only [Nat.reducePow]; omega) (by omega)
  have o5 := or_shift (u := a0.toNat + a1.toNat * 256 + a2.toNat * 65536 + a3.toNat * 16777216 + a4.toNat * 4294967296) (x := a5.toNat) (j := 40) (by simp only [Nat.reducePow]; omega) (by simp only [Nat.reducePow]; omega) (by omega)
  have o6 := or_shift (u := a0.toNat + a1.toNat * 256 + a2.toNat * 65536 + a3.toNat * 16777216 + a4.toNat * 4294967296 + a5.toNat * 1099511627776) (x := a6.toNat) (j := 48) (by simp only [Nat.reducePow]; omega) (by simp only [Nat.reducePow]; omega) (by omega)
  have o7 := or_shift (u := a0.toNat + a1.toNat * 256 + a2.toNat * 65536 + a3.toNat * 16777216 + a4.toNat * 4294967296 + a5.toNat * 1099511627776 + a6.toNat * 281474976710656) (x := a7.toNat) (j := 56) (by simp only [Nat.reducePow]; omega) (by simp only [Nat.reducePow]; omega) (by omega)
  simp only [Nat.reducePow] at o1 o2 o3 o4 o5 o6 o7
  rw [o1, o2, o3, o4, o5, o6, o7]
  refine ⟨congrArg (fun z : Nat => Value.int .u64 (z : Int)) ?_, H⟩
  simp only [List.take_succ_cons, List.take_zero, Lib.leNat]
  omega
theorem byt8 {s : Sl} {l : List UInt8} (h : Byt V s l) {i : Nat} (hi : i < l.length) : Plain s.a ∧ V.cell? ⟨ablk s.a, aoff s.a + i, none⟩ = some (.int .u8 (at8 l i : Nat)) := by
  obtain ⟨p, c⟩ := h.at1 (g := bv) (fun _ => rfl) hi
  rw [at8_get hi]
  exact ⟨p, c⟩
/-- s[:len(s):len(s)] -/
theorem Byt.full {s : Sl} {l : List UInt8} (h : Byt V s l) : Byt V ⟨subA s.a 0 s.len 1, s.len, s.len⟩ l := by
  refine ⟨h.len, Nat.le_refl _, fun hne => ?_, fun j v hj => ?_⟩
  · have hp : Plain s.a := h.cells.1 hne
    exact (subA_plain hp : Plain (subA s.a 0 s.len 1))
  · have hp : Plain s.a := h.cells.1 (fun e => by rw [e] at hj; simp at hj)
    have hc := h.cells.2 j v hj
    have ho : aoff (subA s.a 0 s.len 1) = aoff s.a := by
      by_cases hz : s.len = 0
      · unfold subA; rw [if_pos hz]
      · rw [subA_off hp hz, Nat.zero_mul, Nat.add_zero]
    show V.cell? ⟨ablk (subA s.a 0 s.len 1), aoff (subA s.a 0 s.len 1) + j, none⟩ = some v
    rw [subA_blk, ho]
    exact hc
theorem chars_asc : ∀ (n : Nat) {L : List UInt8}, n ≤ L.length → (∀ b ∈ L.take n, b.toNat < 128) → (chars L).isSome = (chars (L.drop n)).isSome := fun n L _ h => by
  rw [← validD_chars _ (Nat.le_refl _), ← validD_chars _ (Nat.le_refl _)]
  exact Lib.validD_ascii n L h
theorem word_asc {L : List UInt8} (h8 : 8 ≤ L.length) (hz : Lib.leNat (L.take 8) &&& 9259542123273814144 = 0) : ∀ b ∈ L.take 8, b.toNat < 128 := by
  have := Lib.leNat_mask (L.take 8)
  rw [List.length_take, Nat.min_eq_left h8, Lib.maskN8] at this
  exact this.1 hz
theorem word_lt (L : List UInt8) : Lib.leNat (L.take 8) < 18446744073709551616 := by
  have h := Lib.leNat_lt (L.take 8)
  have : (L.take 8).length ≤ 8 := by rw [List.length_take]; omega
  have h2 : 256 ^ (L.take 8).length ≤ 256 ^ 8 := Nat.pow_le_pow_right (by decide) this
  simp only [Nat.reducePow] at h2
  omega
abbrev hiB : Nat := 9259542123273814144
theorem and_hi {a : Nat} (h : a < 18446744073709551616) : bitsI .and .u64 (a : Int) 9259542123273814144 = ((a &&& hiB : Nat) : Int) := u64_and_nat a hiB h (by decide)
theorem or_two {a b : Nat} (h : a < 18446744073709551616) (k : b < 18446744073709551616) : bitsI .or .u64 (a : Int) (b : Int) = ((a ||| b : Nat) : Int) := u64_or_nat a b h k
theorem or_lt {a b : Nat} (h : a < 18446744073709551616) (k : b < 18446744073709551616) : a ||| b < 18446744073709551616 := Nat.or_lt_two_pow (n := 64) h k
theorem asc_more {L : List UInt8} {m n : Nat} (h : ∀ b ∈ L.take m, b.toNat < 128) (k : ∀ b ∈ (L.drop m).take n, b.toNat < 128) : ∀ b ∈ L.take (m + n), b.toNat < 128 := by
  rw [List.take_add]
  intro b hb
  rcases List.mem_append.1 hb with hb | hb
  · exact h b hb
  · exact k b hb
/-- what the loops keep -/
structure VldI (V : World) (l : List UInt8) (p : Sl) (L : List UInt8) : Prop where
  byt : Byt V p L
  le : L.length ≤ l.length
  same : (chars l).isSome = (chars L).isSome
theorem VldI.rest {l L : List UInt8} {p : Sl} (h : VldI V l p L) {n : Nat} (hn : n ≤ L.length) (ha : ∀ b ∈ L.take n, b.toNat < 128) : VldI V l ⟨subA p.a n p.cap 1, p.len - n, p.cap - n⟩ (L.drop n) := by
  have h1 := h.byt.len
  have h2 := h.byt.cap
  refine ⟨?_, by rw [List.length_drop]; have := h.le; omega, by rw [h.same, chars_asc n hn ha]⟩
  have := h.byt.sub (n := 1) (fun _ => rfl) (a := n) (b := p.len) (by omega) (by omega)
  rw [h1, List.take_length] at this
  rw [h1]
  exact this
set_option maxRecDepth 100000 in
set_option maxHeartbeats 2000000 in
theorem valid_spec (hV : Sub V W) (hT : Lib.Utf8Tabs 0 1 V) {s : Sl} {l : List UInt8} (hs : Byt V s l) (hl : l.length ≤ 1000000000) : Ret Tryd.prog 36 [s.v].toArray W fun v w' => v = .bool (chars l).isSome ∧ Rel W V [] V w' := by
  have H := Rel.start hV
  have hlen := hs.len
  have hcap := hs.cap
  refine cal_of_vc tabOk Tryd.func36 rfl (by kernel_rfl) 188 rfl (by simp) [0, 2, 3, 4, 5, 6, 15, 20, 31, 46, 69, 82, 83, 103, 106, 138, 141, 185] ?_
  (first | (refine H.wg ?_; clear H; intros; rename_i w H; constructor) | refine wk ?_)
  refine loop_inv (S := Sl × List UInt8) tabOk [] (fun q => [(0, q.1.v)]) (fun q w' => VldI V l q.1 q.2 ∧ Rel W V [] V w') (fun q _ => q.2.length) (⟨subA s.a 0 s.len 1, s.len, s.len⟩, l) ?_
  (conv => whnf)
  refine ⟨(by repeat (first | exact trivial | refine ⟨rfl, ?_⟩)), ⟨⟨hs.full, Nat.le_refl _, rfl⟩, H⟩, ?_⟩
  clear H
  rintro ⟨p, L⟩ w ⟨hI, H⟩
  dsimp only at hI H ⊢
  have hp := hI.byt
  have hpl := hp.len
  have hpc := hp.cap
  have hle := hI.le
  by_cases hn : L = []
  · subst hn
    rw [List.length_nil] at hpl
    rw [hI.same]
    (first | (refine H.wg ?_; clear H; intros; rename_i w H; constructor) | refine wk ?_)
    exact H.sx
  have hpos := List.length_pos_iff.2 hn
  obtain ⟨q0, c0⟩ := byt8 hp (i := 0) hpos
  have z0 : at8 L 0 < 256 := UInt8.toNat_lt _
  (first | (refine H.wg ?_; clear H; intros; rename_i w H; constructor) | refine wk ?_)
  by_cases hasc : at8 L 0 < 128
  · have hI1 := hI.rest (n := 1) (by omega) (by
      cases L with
      | nil => simp
      | cons a r =>
        intro b hb
        simp at hb
        rw [hb]
        exact hasc)
    obtain ⟨L1, hL1⟩ : ∃ L1, L1 = L.drop 1 := ⟨_, rfl⟩
    have hL1l : L1.length + 1 = L.length := by rw [hL1, List.length_drop]; omega
    rw [← hL1] at hI1
    have b1 := hI1.byt
    have b1l := b1.len
    have b1c := b1.cap
    dsimp only at b1l b1c
    (first | (refine H.wg ?_; clear H; intros; rename_i w H; constructor) | refine wk ?_)
    by_cases h8 : 8 < L1.length
    rotate_left
    · (first | (refine H.wg ?_; clear H; intros; rename_i w H; constructor) | refine wk ?_)
      exact ⟨(by repeat (first | exact trivial | refine ⟨rfl, ?_⟩)), (⟨subA p.a 1 p.cap 1, p.len - 1, p.cap - 1⟩, L1), (by repeat (first | exact trivial | refine ⟨rfl, ?_⟩)), ⟨hI1, H.sx⟩, by dsimp only; omega⟩
    (first | (refine H.wg ?_; clear H; intros; rename_i w H; constructor) | refine wk ?_)
    refine (word_spec H.data b1 (by omega)).use ?_
    rintro v w ⟨rfl, K⟩
    (have hKb := K.base; replace H := H.call0 K)
    obtain ⟨N1, hN1⟩ : ∃ N, N = Lib.leNat (L1.take 8) := ⟨_, rfl⟩
    have hN1l := word_lt L1
    rw [← hN1] at hN1l ⊢
    (first | (refine H.wg ?_; clear H; intros; rename_i w H; constructor) | refine wk ?_)
    rw [and_hi hN1l]
    (first | (refine H.wg ?_; clear H; intros; rename_i w H; constructor) | refine wk ?_)
    by_cases hz1 : N1 &&& hiB = 0
    rotate_left
    · (first | (refine H.wg ?_; clear H; intros; rename_i w H; constructor) | refine wk ?_)
      exact ⟨(by repeat (first | exact trivial | refine ⟨rfl, ?_⟩)), (⟨subA p.a 1 p.cap 1, p.len - 1, p.cap - 1⟩, L1), (by repeat (first | exact trivial | refine ⟨rfl, ?_⟩)), ⟨hI1, H.sx⟩, by dsimp only; omega⟩
    have hI2 := hI1.rest (n := 8) (by omega) (word_asc (by omega) (by rw [← hN1]; exact hz1))
    obtain ⟨L2, hL2⟩ : ∃ L2, L2 = L1.drop 8 := ⟨_, rfl⟩
    have hL2l : L2.length + 8 = L1.length := by rw [hL2, List.length_drop]; omega
    rw [← hL2] at hI2
    have b2 := hI2.byt
    have b2l := b2.len
    have b2c := b2.cap
    dsimp only at hI2 b2 b2l b2c
    (first | (refine H.wg ?_; clear H; intros; rename_i w H; constructor) | refine wk ?_)
    have hb8 : 8 ≤ L2.length → Byt V ⟨subA (subA (subA p.a 1 p.cap 1) 8 (p.cap - 1) 1) 8 (p.cap - 1 - 8) 1, (p.len - 1 - 8) - 8, (p.cap - 1 - 8) - 8⟩ (L2.drop 8) := fun h => by
      have := b2.sub (n := 1) (fun _ => rfl) (a := 8) (b := L2.length) (by omega) (by omega)
      rw [List.take_length] at this
      rw [b2l]
      exact this
    obtain ⟨B, hB⟩ : ∃ B : Bool, B = (decide (16 < L2.length) && decide ((Lib.leNat (L2.take 8) ||| Lib.leNat ((L2.drop 8).take 8)) &&& hiB = 0)) := ⟨_, rfl⟩
    refine SemC.cutN (fun _ : Unit => [(0, .slice (subA (subA p.a 1 p.cap 1) 8 (p.cap - 1) 1) (p.len - 1 - 8) (p.cap - 1 - 8)), (46, .bool B)]) (fun _ w' => Rel W V [] V w') ?_ ?_
    · ((first | refine draw_vcTX (id := 8) tabOk mixed (Kv V) Kv.trans [] [] [0, 1, 2, 3, 4, 6, 7, 5, 8, 9, 10, 11, 12] [(5, []), (8, [5])] (by kernel_rfl) ?_ | refine draw_vcTX (id := 10) tabOk mixed (Kv V) Kv.trans [] [] [0, 1, 2, 3, 4, 6, 7, 10, 11, 13, 14, 5, 8, 9, 12, 15, 16, 17, 18, 19, 20] [(5, []), (8, [5]), (12, [5, 8]), (15, [5, 8, 12])] (by kernel_rfl) ?_ | refine draw_vcTX (id := 18) tabOk mixed (Kv V) Kv.trans [] [] [0, 1, 2, 3, 4, 5, 6, 7, 8, 9, 10, 11, 12, 13, 14, 15, 16, 17, 18] [] (by kernel_rfl) ?_ | refine draw_vcTX (id := 22) tabOk mixed (Kv V) Kv.trans [] [] [0, 1, 2, 3, 4, 5, 6, 7, 8, 9, 10, 11, 12, 13, 14, 15, 16, 17, 18, 19, 20, 21, 22, 23, 24, 25, 26, 27, 28, 29, 30] [] (by kernel_rfl) ?_ | refine draw_vcTX (id := 26) tabOk mixed (Kv V) Kv.trans [] [] [0, 1, 2, 3, 4, 5, 6, 7, 8, 9, 10, 11, 12, 13, 14, 15, 16, 17, 18, 19, 20, 21, 22, 23, 24, 25, 26, 27, 28, 29, 30, 31, 32, 33, 34, 35, 36, 37, 38, 39, 40, 41, 42] [] (by kernel_rfl) ?_); intro w hdw; replace H := Rel.ext H hdw.ext)
      by_cases h16 : 16 < L2.length
      · rw [decide_eq_true h16, Bool.true_and] at hB
        obtain ⟨N2, hN2⟩ : ∃ N, N = Lib.leNat (L2.take 8) := ⟨_, rfl⟩
        obtain ⟨N3, hN3⟩ : ∃ N, N = Lib.leNat ((L2.drop 8).take 8) := ⟨_, rfl⟩
        have hN2l := word_lt L2
        have hN3l := word_lt (L2.drop 8)
        have hb8' := hb8 (by omega)
        have hd8 : 8 ≤ (L2.drop 8).length := by rw [List.length_drop]; omega
        rw [← hN2] at hB hN2l
        rw [← hN3] at hB hN3l
        rw [hB]
        repeat' ((first | (refine H.wh ?_; clear H; intros; rename_i w H; constructor) | refine wk ?_); first | (first | refine Kv.go H ?_ | refine Kv.go2 H (by assumption) ?_ | (refine And.intro (fun w1 hkp => ?_) ?_; focus ((first | have H := Kv.in H hkp | have H := Kv.in2 H (by assumption) hkp); ((repeat ((conv => whnf); first | refine an ?_ | refine H.ce ?_ | refine H.db ?_ | refine ea ?_ | refine ol ?_ | fail | refine cT ?_ | refine cF ?_ | refine cN ?_ | refine cM ?_ | refine H.lw ?_ | refine H.ll ?_)); (conv => whnf)); all_goals (first | exact ⟨rfl, rfl⟩ | exact rfl))) | refine And.intro ?_ ?_ | ((first | refine Rel.nwD H ?_ | refine Rel.nw H ?_); clear H; intro w _ H)) | (refine (word_spec H.data b2 (by omega)).use ?_; rintro v w ⟨rfl, K⟩; (have hKb := K.base; replace H := H.call0 K); rw [← hN2]) | (refine (word_spec H.data hb8' hd8).use ?_; rintro v w ⟨rfl, K⟩; (have hKb := K.base; replace H := H.call0 K); rw [← hN3]))
        (conv => whnf)
        refine ⟨rfl, (), ⟨rfl, ?_, trivial⟩, H.sx⟩
        rw [or_two hN2l hN3l, and_hi (or_lt hN2l hN3l)]
        exact congrArg (fun z => some (Value.bool z)) (decide_eq_decide.2 (by omega))
      · rw [decide_eq_false h16, Bool.false_and] at hB
        rw [hB]
        (first | (refine H.wg ?_; clear H; intros; rename_i w H; constructor) | refine wk ?_)
        exact ⟨(), (by repeat (first | exact trivial | refine ⟨rfl, ?_⟩)), H.sx⟩
    clear H
    rintro _ w H
    cases hBc : B with
    | false =>
      (first | (refine H.wg ?_; clear H; intros; rename_i w H; constructor) | refine wk ?_)
      exact ⟨(by repeat (first | exact trivial | refine ⟨rfl, ?_⟩)), (⟨(subA (subA p.a 1 p.cap 1) 8 (p.cap - 1) 1), (p.len - 1 - 8), (p.cap - 1 - 8)⟩, L2), (by repeat (first | exact trivial | refine ⟨rfl, ?_⟩)), ⟨hI2, H.sx⟩, by dsimp only; omega⟩
    | true =>
    rw [hBc] at hB
    replace hB := hB.symm
    simp only [Bool.and_eq_true, decide_eq_true_eq] at hB
    obtain ⟨h16, hor⟩ := hB
    obtain ⟨hor2, hor3⟩ := (Lib.or_mask _ _ _).1 hor
    have hd8 : 8 ≤ (L2.drop 8).length := by rw [List.length_drop]; omega
    have hI3 := hI2.rest (n := 16) (by omega) (asc_more (m := 8) (n := 8) (word_asc (by omega) hor2) (word_asc hd8 hor3))
    obtain ⟨L3, hL3⟩ : ∃ L3, L3 = L2.drop 16 := ⟨_, rfl⟩
    have hL3l : L3.length + 16 = L2.length := by rw [hL3, List.length_drop]; omega
    rw [← hL3] at hI3
    (first | (refine H.wg ?_; clear H; intros; rename_i w H; constructor) | refine wk ?_)
    refine loop_inv (S := Sl × List UInt8) tabOk [2, 3, 4, 5, 6, 15, 20, 31, 46, 82, 83, 103, 106, 138, 141, 185] (fun q => [(0, q.1.v)]) (fun q w' => VldI V l q.1 q.2 ∧ q.2.length < L.length ∧ Rel W V [] V w') (fun q _ => q.2.length) (⟨subA (subA (subA p.a 1 p.cap 1) 8 (p.cap - 1) 1) 16 (p.cap - 1 - 8) 1, (p.len - 1 - 8) - 16, (p.cap - 1 - 8) - 16⟩, L3) ?_
    (conv => whnf)
    refine ⟨(by repeat (first | exact trivial | refine ⟨rfl, ?_⟩)), ⟨hI3, by dsimp only; omega, H⟩, ?_⟩
    clear H
    rintro ⟨p4, L4⟩ w ⟨hI4, hL4, H⟩
    dsimp only at hI4 hL4 H ⊢
    have b4 := hI4.byt
    have b4l := b4.len
    have b4c := b4.cap
    have b4e := hI4.le
    have hsub : ∀ k, k ≤ L4.length → Byt V ⟨subA p4.a k p4.cap 1, p4.len - k, p4.cap - k⟩ (L4.drop k) := fun k h => by
      have := b4.sub (n := 1) (fun _ => rfl) (a := k) (b := L4.length) h (by omega)
      rw [List.take_length] at this
      rw [b4l]
      exact this
    obtain ⟨B4, hB4⟩ : ∃ B : Bool, B = (decide (32 < L4.length) && decide (((Lib.leNat (L4.take 8) ||| Lib.leNat ((L4.drop 8).take 8)) ||| (Lib.leNat ((L4.drop 16).take 8) ||| Lib.leNat ((L4.drop 24).take 8))) &&& hiB = 0)) := ⟨_, rfl⟩
    (conv => whnf)
    refine SemC.cutN (fun _ : Unit => [(0, p4.v), (46, .bool true), (69, .bool B4)]) (fun _ w' => Rel W V [] V w') ?_ ?_
    · ((first | refine draw_vcTX (id := 8) tabOk mixed (Kv V) Kv.trans [] [] [0, 1, 2, 3, 4, 6, 7, 5, 8, 9, 10, 11, 12] [(5, []), (8, [5])] (by kernel_rfl) ?_ | refine draw_vcTX (id := 10) tabOk mixed (Kv V) Kv.trans [] [] [0, 1, 2, 3, 4, 6, 7, 10, 11, 13, 14, 5, 8, 9, 12, 15, 16, 17, 18, 19, 20] [(5, []), (8, [5]), (12, [5, 8]), (15, [5, 8, 12])] (by kernel_rfl) ?_ | refine draw_vcTX (id := 18) tabOk mixed (Kv V) Kv.trans [] [] [0, 1, 2, 3, 4, 5, 6, 7, 8, 9, 10, 11, 12, 13, 14, 15, 16, 17, 18] [] (by kernel_rfl) ?_ | refine draw_vcTX (id := 22) tabOk mixed (Kv V) Kv.trans [] [] [0, 1, 2, 3, 4, 5, 6, 7, 8, 9, 10, 11, 12, 13, 14, 15, 16, 17, 18, 19, 20, 21, 22, 23, 24, 25, 26, 27, 28, 29, 30] [] (by kernel_rfl) ?_ | refine draw_vcTX (id := 26) tabOk mixed (Kv V) Kv.trans [] [] [0, 1, 2, 3, 4, 5, 6, 7, 8, 9, 10, 11, 12, 13, 14, 15, 16, 17, 18, 19, 20, 21, 22, 23, 24, 25, 26, 27, 28, 29, 30, 31, 32, 33, 34, 35, 36, 37, 38, 39, 40, 41, 42] [] (by kernel_rfl) ?_); intro w hdw; replace H := Rel.ext H hdw.ext)
      by_cases h32 : 32 < L4.length
      · rw [decide_eq_true h32, Bool.true_and] at hB4
        obtain ⟨N2, hN2⟩ : ∃ N, N = Lib.leNat (L4.take 8) := ⟨_, rfl⟩
        obtain ⟨N3, hN3⟩ : ∃ N, N = Lib.leNat ((L4.drop 8).take 8) := ⟨_, rfl⟩
        obtain ⟨N4, hN4⟩ : ∃ N, N = Lib.leNat ((L4.drop 16).take 8) := ⟨_, rfl⟩
        obtain ⟨N5, hN5⟩ : ∃ N, N = Lib.leNat ((L4.drop 24).take 8) := ⟨_, rfl⟩
        have hN2l := word_lt L4
        have hN3l := word_lt (L4.drop 8)
        have hN4l := word_lt (L4.drop 16)
        have hN5l := word_lt (L4.drop 24)
        have g1 := hsub 8 (by omega)
        have g2 := hsub 16 (by omega)
        have g3 := hsub 24 (by omega)
        have d1 : 8 ≤ (L4.drop 8).length := by rw [List.length_drop]; omega
        have d2 : 8 ≤ (L4.drop 16).length := by rw [List.length_drop]; omega
        have d3 : 8 ≤ (L4.drop 24).length := by rw [List.length_drop]; omega
        rw [← hN2] at hB4 hN2l
        rw [← hN3] at hB4 hN3l
        rw [← hN4] at hB4 hN4l
        rw [← hN5] at hB4 hN5l
        rw [hB4]
        repeat' ((first | (refine H.wh ?_; clear H; intros; rename_i w H; constructor) | refine wk ?_); first | (first | refine Kv.go H ?_ | refine Kv.go2 H (by assumption) ?_ | (refine And.intro (fun w1 hkp => ?_) ?_; focus ((first | have H := Kv.in H hkp | have H := Kv.in2 H (by assumption) hkp); ((repeat ((conv => whnf); first | refine an ?_ | refine H.ce ?_ | refine H.db ?_ | refine ea ?_ | refine ol ?_ | fail | refine cT ?_ | refine cF ?_ | refine cN ?_ | refine cM ?_ | refine H.lw ?_ | refine H.ll ?_)); (conv => whnf)); all_goals (first | exact ⟨rfl, rfl⟩ | exact rfl))) | refine And.intro ?_ ?_ | ((first | refine Rel.nwD H ?_ | refine Rel.nw H ?_); clear H; intro w _ H)) | (refine (word_spec H.data b4 (by omega)).use ?_; rintro v w ⟨rfl, K⟩; (have hKb := K.base; replace H := H.call0 K); rw [← hN2]) | (refine (word_spec H.data g1 d1).use ?_; rintro v w ⟨rfl, K⟩; (have hKb := K.base; replace H := H.call0 K); rw [← hN3]) | (refine (word_spec H.data g2 d2).use ?_; rintro v w ⟨rfl, K⟩; (have hKb := K.base; replace H := H.call0 K); rw [← hN4]) | (refine (word_spec H.data g3 d3).use ?_; rintro v w ⟨rfl, K⟩; (have hKb := K.base; replace H := H.call0 K); rw [← hN5]))
        (conv => whnf)
        refine ⟨rfl, (), ⟨rfl, rfl, ?_, trivial⟩, H.sx⟩
        rw [or_two hN2l hN3l, or_two hN4l hN5l, or_two (or_lt hN2l hN3l) (or_lt hN4l hN5l), and_hi (or_lt (or_lt hN2l hN3l) (or_lt hN4l hN5l))]
        exact congrArg (fun z => some (Value.bool z)) (decide_eq_decide.2 (by omega))
      · rw [decide_eq_false h32, Bool.false_and] at hB4
        rw [hB4]
        (first | (refine H.wg ?_; clear H; intros; rename_i w H; constructor) | refine wk ?_)
        exact ⟨(), (by repeat (first | exact trivial | refine ⟨rfl, ?_⟩)), H.sx⟩
    clear H
    rintro _ w H
    cases hBc4 : B4 with
    | false =>
      (first | (refine H.wg ?_; clear H; intros; rename_i w H; constructor) | refine wk ?_)
      exact ⟨(by repeat (first | exact trivial | refine ⟨rfl, ?_⟩)), (p4, L4), (by repeat (first | exact trivial | refine ⟨rfl, ?_⟩)), ⟨hI4, H.sx⟩, hL4⟩
    | true =>
    rw [hBc4] at hB4
    replace hB4 := hB4.symm
    simp only [Bool.and_eq_true, decide_eq_true_eq] at hB4
    obtain ⟨h32, hor4⟩ := hB4
    obtain ⟨hor5, hor6⟩ := (Lib.or_mask _ _ _).1 hor4
    obtain ⟨r1, r2⟩ := (Lib.or_mask _ _ _).1 hor5
    obtain ⟨r3, r4⟩ := (Lib.or_mask _ _ _).1 hor6
    have d1 : 8 ≤ (L4.drop 8).length := by rw [List.length_drop]; omega
    have d2 : 8 ≤ (L4.drop 16).length := by rw [List.length_drop]; omega
    have d3 : 8 ≤ (L4.drop 24).length := by rw [List.length_drop]; omega
    have a2 := asc_more (m := 8) (n := 8) (word_asc (by omega) r1) (word_asc d1 r2)
    have a3 := asc_more (m := 16) (n := 8) a2 (word_asc d2 r3)
    have a4 := asc_more (m := 24) (n := 8) a3 (word_asc d3 r4)
    have hI5 := hI4.rest (n := 32) (by omega) a4
    (first | (refine H.wg ?_; clear H; intros; rename_i w H; constructor) | refine wk ?_)
    exact ⟨(by repeat (first | exact trivial | refine ⟨rfl, ?_⟩)), (⟨subA p4.a 32 p4.cap 1, p4.len - 32, p4.cap - 32⟩, L4.drop 32), (by repeat (first | exact trivial | refine ⟨rfl, ?_⟩)), ⟨hI5, by dsimp only; rw [List.length_drop]; omega, H.sx⟩, by dsimp only; rw [List.length_drop]; omega⟩
  have hlead := Lib.validD_lead L hn (by rw [getD_at8]; omega)
  rw [getD_at8, getD_at8, getD_at8, getD_at8, validD_chars _ (Nat.le_refl _)] at hlead
  have c1 := hT.1 (at8 L 0) z0
  have hfl := Lib.firstT_cases (at8 L 0)
  obtain ⟨x, hx⟩ : ∃ x, x = Lib.firstT (at8 L 0) := ⟨_, rfl⟩
  rw [← hx] at hlead c1 hfl
  have hx256 : x < 256 := by omega
  obtain ⟨c2, c3⟩ := hT.2 (x / 16) (by omega)
  obtain ⟨lo, hlo⟩ : ∃ lo, lo = Lib.accLo (x / 16) := ⟨_, rfl⟩
  obtain ⟨hi, hhi⟩ : ∃ hi, hi = Lib.accHi (x / 16) := ⟨_, rfl⟩
  rw [← hlo] at hlead c2
  rw [← hhi] at hlead c3
  obtain ⟨sz, hsz⟩ : ∃ sz, sz = x % 8 := ⟨_, rfl⟩
  rw [← hsz] at hlead
  have c1' : V.cell? ⟨0, 0 + at8 L 0, none⟩ = some (.int .u8 (x : Int)) := by rw [Nat.zero_add]; exact c1
  have c2' : V.cell? ⟨1, 0 + x / 16 * 2, none⟩ = some (.int .u8 (lo : Int)) := by rw [Nat.zero_add, Nat.mul_comm]; exact c2
  have c3' : V.cell? ⟨1, 0 + x / 16 * 2 + 1, none⟩ = some (.int .u8 (hi : Int)) := by rw [Nat.zero_add, Nat.mul_comm]; exact c3
  have e7 := and_7 x hx256
  rw [← hsz] at e7
  (first | (refine H.wg ?_; clear H; intros; rename_i w H; constructor) | refine wk ?_)
  rw [e7]
  (first | (refine H.wh ?_; clear H; intros; rename_i w H; constructor) | refine wk ?_)
  rw [show (x : Int) / 2 ^ min (Int.toNat 4) IntKind.u8.bits = ((x / 16 : Nat) : Int) from rfl]
  (first | (refine H.wh ?_; clear H; intros; rename_i w H; constructor) | refine wk ?_)
  ((first | refine Rel.nwD H ?_ | refine Rel.nw H ?_); clear H; intro w b6 H)
  have bad : Lib.checkN L.length (at8 L 1) (at8 L 2) (at8 L 3) sz lo hi = none → (chars l).isSome = false := fun h => by rw [hI.same, hlead, h]
  have good : ∀ k, k ≤ L.length → 1 ≤ k → Lib.checkN L.length (at8 L 1) (at8 L 2) (at8 L 3) sz lo hi = some k → VldI V l ⟨subA p.a k p.cap 1, p.len - k, p.cap - k⟩ (L.drop k) := fun k hk _ h => by
    refine ⟨?_, by rw [List.length_drop]; omega, by rw [hI.same, hlead, h]; exact validD_chars _ (Nat.le_refl _)⟩
    have := hp.sub (n := 1) (fun _ => rfl) (a := k) (b := L.length) hk (by omega)
    rw [List.take_length] at this
    rw [hpl]
    exact this
  have k1 : at8 L 1 < 256 := UInt8.toNat_lt _
  have k2 : at8 L 2 < 256 := UInt8.toNat_lt _
  have k3 : at8 L 3 < 256 := UInt8.toNat_lt _
  clear hlead
  by_cases s2 : sz = 2
  · have u : ∀ {a b c d : Nat}, Lib.checkN a b c d sz lo hi = if a < 2 ∨ b < lo ∨ hi < b then none else some 2 := fun {a b c d} => by unfold Lib.checkN; rw [if_pos s2]
    by_cases h2 : L.length < 2
    · rw [bad (by rw [u, if_pos (by omega)])]
      (first | (refine H.wg ?_; clear H; intros; rename_i w H; constructor) | refine wk ?_)
      ((first | refine draw_vcQ (id := 8) tabOk mixed [] [0, 1, 2, 3, 4, 6, 7, 5, 8, 9, 10, 11, 12] (by kernel_rfl) ?_ | refine draw_vcQ (id := 10) tabOk mixed [] [0, 1, 2, 3, 4, 6, 7, 10, 11, 13, 14, 5, 8, 9, 12, 15, 16, 17, 18, 19, 20] (by kernel_rfl) ?_ | refine draw_vcQ (id := 18) tabOk mixed [] [0, 1, 2, 3, 4, 5, 6, 7, 8, 9, 10, 11, 12, 13, 14, 15, 16, 17, 18] (by kernel_rfl) ?_ | refine draw_vcQ (id := 22) tabOk mixed [] [0, 1, 2, 3, 4, 5, 6, 7, 8, 9, 10, 11, 12, 13, 14, 15, 16, 17, 18, 19, 20, 21, 22, 23, 24, 25, 26, 27, 28, 29, 30] (by kernel_rfl) ?_ | refine draw_vcQ (id := 26) tabOk mixed [] [0, 1, 2, 3, 4, 5, 6, 7, 8, 9, 10, 11, 12, 13, 14, 15, 16, 17, 18, 19, 20, 21, 22, 23, 24, 25, 26, 27, 28, 29, 30, 31, 32, 33, 34, 35, 36, 37, 38, 39, 40, 41, 42] (by kernel_rfl) ?_); intro w hdw; replace H := Rel.ext H hdw.ext)
      (first | (refine H.wg ?_; clear H; intros; rename_i w H; constructor) | refine wk ?_)
      exact H.sx
    obtain ⟨q1, d1⟩ := byt8 hp (i := 1) (by omega)
    by_cases g1 : at8 L 1 < lo
    · rw [bad (by rw [u, if_pos (by omega)])]
      (first | (refine H.wg ?_; clear H; intros; rename_i w H; constructor) | refine wk ?_)
      ((first | refine draw_vcQ (id := 8) tabOk mixed [] [0, 1, 2, 3, 4, 6, 7, 5, 8, 9, 10, 11, 12] (by kernel_rfl) ?_ | refine draw_vcQ (id := 10) tabOk mixed [] [0, 1, 2, 3, 4, 6, 7, 10, 11, 13, 14, 5, 8, 9, 12, 15, 16, 17, 18, 19, 20] (by kernel_rfl) ?_ | refine draw_vcQ (id := 18) tabOk mixed [] [0, 1, 2, 3, 4, 5, 6, 7, 8, 9, 10, 11, 12, 13, 14, 15, 16, 17, 18] (by kernel_rfl) ?_ | refine draw_vcQ (id := 22) tabOk mixed [] [0, 1, 2, 3, 4, 5, 6, 7, 8, 9, 10, 11, 12, 13, 14, 15, 16, 17, 18, 19, 20, 21, 22, 23, 24, 25, 26, 27, 28, 29, 30] (by kernel_rfl) ?_ | refine draw_vcQ (id := 26) tabOk mixed [] [0, 1, 2, 3, 4, 5, 6, 7, 8, 9, 10, 11, 12, 13, 14, 15, 16, 17, 18, 19, 20, 21, 22, 23, 24, 25, 26, 27, 28, 29, 30, 31, 32, 33, 34, 35, 36, 37, 38, 39, 40, 41, 42] (by kernel_rfl) ?_); intro w hdw; replace H := Rel.ext H hdw.ext)
      (first | (refine H.wg ?_; clear H; intros; rename_i w H; constructor) | refine wk ?_)
      exact H.sx
    by_cases g2 : hi < at8 L 1
    · rw [bad (by rw [u, if_pos (by omega)])]
      (first | (refine H.wg ?_; clear H; intros; rename_i w H; constructor) | refine wk ?_)
      ((first | refine draw_vcQ (id := 8) tabOk mixed [] [0, 1, 2, 3, 4, 6, 7, 5, 8, 9, 10, 11, 12] (by kernel_rfl) ?_ | refine draw_vcQ (id := 10) tabOk mixed [] [0, 1, 2, 3, 4, 6, 7, 10, 11, 13, 14, 5, 8, 9, 12, 15, 16, 17, 18, 19, 20] (by kernel_rfl) ?_ | refine draw_vcQ (id := 18) tabOk mixed [] [0, 1, 2, 3, 4, 5, 6, 7, 8, 9, 10, 11, 12, 13, 14, 15, 16, 17, 18] (by kernel_rfl) ?_ | refine draw_vcQ (id := 22) tabOk mixed [] [0, 1, 2, 3, 4, 5, 6, 7, 8, 9, 10, 11, 12, 13, 14, 15, 16, 17, 18, 19, 20, 21, 22, 23, 24, 25, 26, 27, 28, 29, 30] (by kernel_rfl) ?_ | refine draw_vcQ (id := 26) tabOk mixed [] [0, 1, 2, 3, 4, 5, 6, 7, 8, 9, 10, 11, 12, 13, 14, 15, 16, 17, 18, 19, 20, 21, 22, 23, 24, 25, 26, 27, 28, 29, 30, 31, 32, 33, 34, 35, 36, 37, 38, 39, 40, 41, 42] (by kernel_rfl) ?_); intro w hdw; replace H := Rel.ext H hdw.ext)
      (first | (refine H.wg ?_; clear H; intros; rename_i w H; constructor) | refine wk ?_)
      exact H.sx
    (first | (refine H.wg ?_; clear H; intros; rename_i w H; constructor) | refine wk ?_)
    ((first | refine draw_vcQ (id := 8) tabOk mixed [] [0, 1, 2, 3, 4, 6, 7, 5, 8, 9, 10, 11, 12] (by kernel_rfl) ?_ | refine draw_vcQ (id := 10) tabOk mixed [] [0, 1, 2, 3, 4, 6, 7, 10, 11, 13, 14, 5, 8, 9, 12, 15, 16, 17, 18, 19, 20] (by kernel_rfl) ?_ | refine draw_vcQ (id := 18) tabOk mixed [] [0, 1, 2, 3, 4, 5, 6, 7, 8, 9, 10, 11, 12, 13, 14, 15, 16, 17, 18] (by kernel_rfl) ?_ | refine draw_vcQ (id := 22) tabOk mixed [] [0, 1, 2, 3, 4, 5, 6, 7, 8, 9, 10, 11, 12, 13, 14, 15, 16, 17, 18, 19, 20, 21, 22, 23, 24, 25, 26, 27, 28, 29, 30] (by kernel_rfl) ?_ | refine draw_vcQ (id := 26) tabOk mixed [] [0, 1, 2, 3, 4, 5, 6, 7, 8, 9, 10, 11, 12, 13, 14, 15, 16, 17, 18, 19, 20, 21, 22, 23, 24, 25, 26, 27, 28, 29, 30, 31, 32, 33, 34, 35, 36, 37, 38, 39, 40, 41, 42] (by kernel_rfl) ?_); intro w hdw; replace H := Rel.ext H hdw.ext)
    (first | (refine H.wg ?_; clear H; intros; rename_i w H; constructor) | refine wk ?_)
    exact ⟨(by repeat (first | exact trivial | refine ⟨rfl, ?_⟩)), (⟨subA p.a 2 p.cap 1, p.len - 2, p.cap - 2⟩, L.drop 2), (by repeat (first | exact trivial | refine ⟨rfl, ?_⟩)), ⟨good 2 (by omega) (by omega) (by rw [u, if_neg (by omega)]), H.sx⟩, by dsimp only; rw [List.length_drop]; omega⟩
  by_cases s3 : sz = 3
  · have u : ∀ {a b c d : Nat}, Lib.checkN a b c d sz lo hi = if a < 3 ∨ b < lo ∨ hi < b ∨ c < 128 ∨ 191 < c then none else some 3 := fun {a b c d} => by unfold Lib.checkN; rw [if_neg s2, if_pos s3]
    by_cases h2 : L.length < 3
    · rw [bad (by rw [u, if_pos (by omega)])]
      (first | (refine H.wg ?_; clear H; intros; rename_i w H; constructor) | refine wk ?_)
      ((first | refine draw_vcQ (id := 8) tabOk mixed [] [0, 1, 2, 3, 4, 6, 7, 5, 8, 9, 10, 11, 12] (by kernel_rfl) ?_ | refine draw_vcQ (id := 10) tabOk mixed [] [0, 1, 2, 3, 4, 6, 7, 10, 11, 13, 14, 5, 8, 9, 12, 15, 16, 17, 18, 19, 20] (by kernel_rfl) ?_ | refine draw_vcQ (id := 18) tabOk mixed [] [0, 1, 2, 3, 4, 5, 6, 7, 8, 9, 10, 11, 12, 13, 14, 15, 16, 17, 18] (by kernel_rfl) ?_ | refine draw_vcQ (id := 22) tabOk mixed [] [0, 1, 2, 3, 4, 5, 6, 7, 8, 9, 10, 11, 12, 13, 14, 15, 16, 17, 18, 19, 20, 21, 22, 23, 24, 25, 26, 27, 28, 29, 30] (by kernel_rfl) ?_ | refine draw_vcQ (id := 26) tabOk mixed [] [0, 1, 2, 3, 4, 5, 6, 7, 8, 9, 10, 11, 12, 13, 14, 15, 16, 17, 18, 19, 20, 21, 22, 23, 24, 25, 26, 27, 28, 29, 30, 31, 32, 33, 34, 35, 36, 37, 38, 39, 40, 41, 42] (by kernel_rfl) ?_); intro w hdw; replace H := Rel.ext H hdw.ext)
      (first | (refine H.wg ?_; clear H; intros; rename_i w H; constructor) | refine wk ?_)
      exact H.sx
    obtain ⟨q1, d1⟩ := byt8 hp (i := 1) (by omega)
    obtain ⟨q2, d2⟩ := byt8 hp (i := 2) (by omega)
    by_cases g1 : at8 L 1 < lo
    · rw [bad (by rw [u, if_pos (by omega)])]
      (first | (refine H.wg ?_; clear H; intros; rename_i w H; constructor) | refine wk ?_)
      ((first | refine draw_vcQ (id := 8) tabOk mixed [] [0, 1, 2, 3, 4, 6, 7, 5, 8, 9, 10, 11, 12] (by kernel_rfl) ?_ | refine draw_vcQ (id := 10) tabOk mixed [] [0, 1, 2, 3, 4, 6, 7, 10, 11, 13, 14, 5, 8, 9, 12, 15, 16, 17, 18, 19, 20] (by kernel_rfl) ?_ | refine draw_vcQ (id := 18) tabOk mixed [] [0, 1, 2, 3, 4, 5, 6, 7, 8, 9, 10, 11, 12, 13, 14, 15, 16, 17, 18] (by kernel_rfl) ?_ | refine draw_vcQ (id := 22) tabOk mixed [] [0, 1, 2, 3, 4, 5, 6, 7, 8, 9, 10, 11, 12, 13, 14, 15, 16, 17, 18, 19, 20, 21, 22, 23, 24, 25, 26, 27, 28, 29, 30] (by kernel_rfl) ?_ | refine draw_vcQ (id := 26) tabOk mixed [] [0, 1, 2, 3, 4, 5, 6, 7, 8, 9, 10, 11, 12, 13, 14, 15, 16, 17, 18, 19, 20, 21, 22, 23, 24, 25, 26, 27, 28, 29, 30, 31, 32, 33, 34, 35, 36, 37, 38, 39, 40, 41, 42] (by kernel_rfl) ?_); intro w hdw; replace H := Rel.ext H hdw.ext)
      (first | (refine H.wg ?_; clear H; intros; rename_i w H; constructor) | refine wk ?_)
      exact H.sx
    by_cases g2 : hi < at8 L 1
    · rw [bad (by rw [u, if_pos (by omega)])]
      (first | (refine H.wg ?_; clear H; intros; rename_i w H; constructor) | refine wk ?_)
      ((first | refine draw_vcQ (id := 8) tabOk mixed [] [0, 1, 2, 3, 4, 6, 7, 5, 8, 9, 10, 11, 12] (by kernel_rfl) ?_ | refine draw_vcQ (id := 10) tabOk mixed [] [0, 1, 2, 3, 4, 6, 7, 10, 11, 13, 14, 5, 8, 9, 12, 15, 16, 17, 18, 19, 20] (by kernel_rfl) ?_ | refine draw_vcQ (id := 18) tabOk mixed [] [0, 1, 2, 3, 4, 5, 6, 7, 8, 9, 10, 11, 12, 13, 14, 15, 16, 17, 18] (by kernel_rfl) ?_ | refine draw_vcQ (id := 22) tabOk mixed [] [0, 1, 2, 3, 4, 5, 6, 7, 8, 9, 10, 11, 12, 13, 14, 15, 16, 17, 18, 19, 20, 21, 22, 23, 24, 25, 26, 27, 28, 29, 30] (by kernel_rfl) ?_ | refine draw_vcQ (id := 26) tabOk mixed [] [0, 1, 2, 3, 4, 5, 6, 7, 8, 9, 10, 11, 12, 13, 14, 15, 16, 17, 18, 19, 20, 21, 22, 23, 24, 25, 26, 27, 28, 29, 30, 31, 32, 33, 34, 35, 36, 37, 38, 39, 40, 41, 42] (by kernel_rfl) ?_); intro w hdw; replace H := Rel.ext H hdw.ext)
      (first | (refine H.wg ?_; clear H; intros; rename_i w H; constructor) | refine wk ?_)
      exact H.sx
    by_cases g3 : at8 L 2 < 128
    · rw [bad (by rw [u, if_pos (by omega)])]
      (first | (refine H.wg ?_; clear H; intros; rename_i w H; constructor) | refine wk ?_)
      ((first | refine draw_vcQ (id := 8) tabOk mixed [] [0, 1, 2, 3, 4, 6, 7, 5, 8, 9, 10, 11, 12] (by kernel_rfl) ?_ | refine draw_vcQ (id := 10) tabOk mixed [] [0, 1, 2, 3, 4, 6, 7, 10, 11, 13, 14, 5, 8, 9, 12, 15, 16, 17, 18, 19, 20] (by kernel_rfl) ?_ | refine draw_vcQ (id := 18) tabOk mixed [] [0, 1, 2, 3, 4, 5, 6, 7, 8, 9, 10, 11, 12, 13, 14, 15, 16, 17, 18] (by kernel_rfl) ?_ | refine draw_vcQ (id := 22) tabOk mixed [] [0, 1, 2, 3, 4, 5, 6, 7, 8, 9, 10, 11, 12, 13, 14, 15, 16, 17, 18, 19, 20, 21, 22, 23, 24, 25, 26, 27, 28, 29, 30] (by kernel_rfl) ?_ | refine draw_vcQ (id := 26) tabOk mixed [] [0, 1, 2, 3, 4, 5, 6, 7, 8, 9, 10, 11, 12, 13, 14, 15, 16, 17, 18, 19, 20, 21, 22, 23, 24, 25, 26, 27, 28, 29, 30, 31, 32, 33, 34, 35, 36, 37, 38, 39, 40, 41, 42] (by kernel_rfl) ?_); intro w hdw; replace H := Rel.ext H hdw.ext)
      (first | (refine H.wg ?_; clear H; intros; rename_i w H; constructor) | refine wk ?_)
      exact H.sx
    by_cases g4 : 191 < at8 L 2
    · rw [bad (by rw [u, if_pos (by omega)])]
      (first | (refine H.wg ?_; clear H; intros; rename_i w H; constructor) | refine wk ?_)
      ((first | refine draw_vcQ (id := 8) tabOk mixed [] [0, 1, 2, 3, 4, 6, 7, 5, 8, 9, 10, 11, 12] (by kernel_rfl) ?_ | refine draw_vcQ (id := 10) tabOk mixed [] [0, 1, 2, 3, 4, 6, 7, 10, 11, 13, 14, 5, 8, 9, 12, 15, 16, 17, 18, 19, 20] (by kernel_rfl) ?_ | refine draw_vcQ (id := 18) tabOk mixed [] [0, 1, 2, 3, 4, 5, 6, 7, 8, 9, 10, 11, 12, 13, 14, 15, 16, 17, 18] (by kernel_rfl) ?_ | refine draw_vcQ (id := 22) tabOk mixed [] [0, 1, 2, 3, 4, 5, 6, 7, 8, 9, 10, 11, 12, 13, 14, 15, 16, 17, 18, 19, 20, 21, 22, 23, 24, 25, 26, 27, 28, 29, 30] (by kernel_rfl) ?_ | refine draw_vcQ (id := 26) tabOk mixed [] [0, 1, 2, 3, 4, 5, 6, 7, 8, 9, 10, 11, 12, 13, 14, 15, 16, 17, 18, 19, 20, 21, 22, 23, 24, 25, 26, 27, 28, 29, 30, 31, 32, 33, 34, 35, 36, 37, 38, 39, 40, 41, 42] (by kernel_rfl) ?_); intro w hdw; replace H := Rel.ext H hdw.ext)
      (first | (refine H.wg ?_; clear H; intros; rename_i w H; constructor) | refine wk ?_)
      exact H.sx
    (first | (refine H.wg ?_; clear H; intros; rename_i w H; constructor) | refine wk ?_)
    ((first | refine draw_vcQ (id := 8) tabOk mixed [] [0, 1, 2, 3, 4, 6, 7, 5, 8, 9, 10, 11, 12] (by kernel_rfl) ?_ | refine draw_vcQ (id := 10) tabOk mixed [] [0, 1, 2, 3, 4, 6, 7, 10, 11, 13, 14, 5, 8, 9, 12, 15, 16, 17, 18, 19, 20] (by kernel_rfl) ?_ | refine draw_vcQ (id := 18) tabOk mixed [] [0, 1, 2, 3, 4, 5, 6, 7, 8, 9, 10, 11, 12, 13, 14, 15, 16, 17, 18] (by kernel_rfl) ?_ | refine draw_vcQ (id := 22) tabOk mixed [] [0, 1, 2, 3, 4, 5, 6, 7, 8, 9, 10, 11, 12, 13, 14, 15, 16, 17, 18, 19, 20, 21, 22, 23, 24, 25, 26, 27, 28, 29, 30] (by kernel_rfl) ?_ | refine draw_vcQ (id := 26) tabOk mixed [] [0, 1, 2, 3, 4, 5, 6, 7, 8, 9, 10, 11, 12, 13, 14, 15, 16, 17, 18, 19, 20, 21, 22, 23, 24, 25, 26, 27, 28, 29, 30, 31, 32, 33, 34, 35, 36, 37, 38, 39, 40, 41, 42] (by kernel_rfl) ?_); intro w hdw; replace H := Rel.ext H hdw.ext)
    (first | (refine H.wg ?_; clear H; intros; rename_i w H; constructor) | refine wk ?_)
    exact ⟨(by repeat (first | exact trivial | refine ⟨rfl, ?_⟩)), (⟨subA p.a 3 p.cap 1, p.len - 3, p.cap - 3⟩, L.drop 3), (by repeat (first | exact trivial | refine ⟨rfl, ?_⟩)), ⟨good 3 (by omega) (by omega) (by rw [u, if_neg (by omega)]), H.sx⟩, by dsimp only; rw [List.length_drop]; omega⟩
  by_cases s4 : sz = 4
  · have u : ∀ {a b c d : Nat}, Lib.checkN a b c d sz lo hi = if a < 4 ∨ b < lo ∨ hi < b ∨ c < 128 ∨ 191 < c ∨ d < 128 ∨ 191 < d then none else some 4 := fun {a b c d} => by unfold Lib.checkN; rw [if_neg s2, if_neg s3, if_pos s4]
    by_cases h2 : L.length < 4
    · rw [bad (by rw [u, if_pos (by omega)])]
      (first | (refine H.wg ?_; clear H; intros; rename_i w H; constructor) | refine wk ?_)
      ((first | refine draw_vcQ (id := 8) tabOk mixed [] [0, 1, 2, 3, 4, 6, 7, 5, 8, 9, 10, 11, 12] (by kernel_rfl) ?_ | refine draw_vcQ (id := 10) tabOk mixed [] [0, 1, 2, 3, 4, 6, 7, 10, 11, 13, 14, 5, 8, 9, 12, 15, 16, 17, 18, 19, 20] (by kernel_rfl) ?_ | refine draw_vcQ (id := 18) tabOk mixed [] [0, 1, 2, 3, 4, 5, 6, 7, 8, 9, 10, 11, 12, 13, 14, 15, 16, 17, 18] (by kernel_rfl) ?_ | refine draw_vcQ (id := 22) tabOk mixed [] [0, 1, 2, 3, 4, 5, 6, 7, 8, 9, 10, 11, 12, 13, 14, 15, 16, 17, 18, 19, 20, 21, 22, 23, 24, 25, 26, 27, 28, 29, 30] (by kernel_rfl) ?_ | refine draw_vcQ (id := 26) tabOk mixed [] [0, 1, 2, 3, 4, 5, 6, 7, 8, 9, 10, 11, 12, 13, 14, 15, 16, 17, 18, 19, 20, 21, 22, 23, 24, 25, 26, 27, 28, 29, 30, 31, 32, 33, 34, 35, 36, 37, 38, 39, 40, 41, 42] (by kernel_rfl) ?_); intro w hdw; replace H := Rel.ext H hdw.ext)
      (first | (refine H.wg ?_; clear H; intros; rename_i w H; constructor) | refine wk ?_)
      exact H.sx
    obtain ⟨q1, d1⟩ := byt8 hp (i := 1) (by omega)
    obtain ⟨q2, d2⟩ := byt8 hp (i := 2) (by omega)
    obtain ⟨q3, d3⟩ := byt8 hp (i := 3) (by omega)
    (first | (refine H.wg ?_; clear H; intros; rename_i w H; constructor) | refine wk ?_)
    ((first | refine draw_vcQ (id := 8) tabOk mixed [] [0, 1, 2, 3, 4, 6, 7, 5, 8, 9, 10, 11, 12] (by kernel_rfl) ?_ | refine draw_vcQ (id := 10) tabOk mixed [] [0, 1, 2, 3, 4, 6, 7, 10, 11, 13, 14, 5, 8, 9, 12, 15, 16, 17, 18, 19, 20] (by kernel_rfl) ?_ | refine draw_vcQ (id := 18) tabOk mixed [] [0, 1, 2, 3, 4, 5, 6, 7, 8, 9, 10, 11, 12, 13, 14, 15, 16, 17, 18] (by kernel_rfl) ?_ | refine draw_vcQ (id := 22) tabOk mixed [] [0, 1, 2, 3, 4, 5, 6, 7, 8, 9, 10, 11, 12, 13, 14, 15, 16, 17, 18, 19, 20, 21, 22, 23, 24, 25, 26, 27, 28, 29, 30] (by kernel_rfl) ?_ | refine draw_vcQ (id := 26) tabOk mixed [] [0, 1, 2, 3, 4, 5, 6, 7, 8, 9, 10, 11, 12, 13, 14, 15, 16, 17, 18, 19, 20, 21, 22, 23, 24, 25, 26, 27, 28, 29, 30, 31, 32, 33, 34, 35, 36, 37, 38, 39, 40, 41, 42] (by kernel_rfl) ?_); intro w hdw; replace H := Rel.ext H hdw.ext)
    (first | (refine H.wg ?_; clear H; intros; rename_i w H; constructor) | refine wk ?_)
    refine condG_dec (fun g1 => ?_) (fun g1 => ?_)
    · rw [bad (by rw [u, if_pos (by omega)])]
      (first | (refine H.wg ?_; clear H; intros; rename_i w H; constructor) | refine wk ?_)
      exact H.sx
    (first | (refine H.wg ?_; clear H; intros; rename_i w H; constructor) | refine wk ?_)
    refine condG_dec (fun g2 => ?_) (fun g2 => ?_)
    · rw [bad (by rw [u, if_pos (by omega)])]
      (first | (refine H.wg ?_; clear H; intros; rename_i w H; constructor) | refine wk ?_)
      exact H.sx
    (first | (refine H.wg ?_; clear H; intros; rename_i w H; constructor) | refine wk ?_)
    refine condG_dec (fun g3 => ?_) (fun g3 => ?_)
    · rw [bad (by rw [u, if_pos (by omega)])]
      (first | (refine H.wg ?_; clear H; intros; rename_i w H; constructor) | refine wk ?_)
      exact H.sx
    (first | (refine H.wg ?_; clear H; intros; rename_i w H; constructor) | refine wk ?_)
    refine condG_dec (fun g4 => ?_) (fun g4 => ?_)
    · rw [bad (by rw [u, if_pos (by omega)])]
      (first | (refine H.wg ?_; clear H; intros; rename_i w H; constructor) | refine wk ?_)
      exact H.sx
    (first | (refine H.wg ?_; clear H; intros; rename_i w H; constructor) | refine wk ?_)
    refine condG_dec (fun g5 => ?_) (fun g5 => ?_)
    · rw [bad (by rw [u, if_pos (by omega)])]
      (first | (refine H.wg ?_; clear H; intros; rename_i w H; constructor) | refine wk ?_)
      exact H.sx
    (first | (refine H.wg ?_; clear H; intros; rename_i w H; constructor) | refine wk ?_)
    refine condG_dec (fun g6 => ?_) (fun g6 => ?_)
    · rw [bad (by rw [u, if_pos (by omega)])]
      (first | (refine H.wg ?_; clear H; intros; rename_i w H; constructor) | refine wk ?_)
      exact H.sx
    (first | (refine H.wg ?_; clear H; intros; rename_i w H; constructor) | refine wk ?_)
    exact ⟨(by repeat (first | exact trivial | refine ⟨rfl, ?_⟩)), (⟨subA p.a 4 p.cap 1, p.len - 4, p.cap - 4⟩, L.drop 4), (by repeat (first | exact trivial | refine ⟨rfl, ?_⟩)), ⟨good 4 (by omega) (by omega) (by rw [u, if_neg (by omega)]), H.sx⟩, by dsimp only; rw [List.length_drop]; omega⟩
  have u : Lib.checkN L.length (at8 L 1) (at8 L 2) (at8 L 3) sz lo hi = none := by unfold Lib.checkN; rw [if_neg s2, if_neg s3, if_neg s4]
  rw [bad u]
  (first | (refine H.wg ?_; clear H; intros; rename_i w H; constructor) | refine wk ?_)
  exact H.sx
end
end Go.Proofs.YtgnaojphgdaalaaDoor
