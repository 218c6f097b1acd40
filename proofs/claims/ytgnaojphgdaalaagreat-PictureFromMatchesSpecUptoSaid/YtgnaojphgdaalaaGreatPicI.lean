/-
  Pictures: slices.Repeat, unpacking.
-/
import Derived.Test.YtgnaojphgdaalaaGreatPicE
import Derived.Test.YtgnaojphgdaalaaGreatLibB
import Derived.Test.YtgnaojphgdaalaaGreatPicR
namespace Go.Proofs.YtgnaojphgdaalaaGreat
open Go Go.RowKit

/-- 'copy' into a block that is owned -/
theorem Rel.cpy {P : Program} {T : List TD} (hT : TabOk P T) {t t2 ty e : TypeId} {d de : TD} (hd : T[t]? = some d) (hu : d.under = .slice e) (hde : T[e]? = some de) (hsz : de.size = 1)
    {w0 V0 V w : World} {own : List Res} (H : Rel w0 V0 own V w) {i b : Nat} {c : List Value} {e' : TypeId} (hi : own[i]? = some (.blk b c e')) {o dl dc n : Nat} {x : Sl} {ys : List Value} (hx : Cells w x.a ys) (hn : n = min x.len dl) (hy : ys.length = n) (hn0 : 0 < n) (hfit : o + n ≤ c.length) (h1 : ∀ u ∈ ys, u.oneCell' = true)
    {k : Value → World → Prop} (hk : ∀ w', Rel w0 V0 (own.set i (.blk b (c.take o ++ ys ++ c.drop (o + n)) e')) V w' → k (iv n) w') : SemOk P (Builtin.copy_ #[t, t2] ty #[.slice (some ⟨b, o, none⟩) dl dc, x.v]) w k := by
  have hd' := hT t d hd
  obtain ⟨j, hj, hj1, hj2, hj3⟩ := (hT e de hde).info
  have ht : P.underlying t = some (.slice e) := by
    obtain ⟨d0, q1, q2⟩ := hd'.under
    rw [hu] at q2
    cases d0 <;> first | (simp_all [undOf]; done) | (simp only [undOf] at q2; split at q2 <;> cases q2)
  have hb := H.blkAt hi
  have hne : ys ≠ [] := fun h => by rw [h] at hy; simp at hy; omega
  have hpl := hx.1 hne
  have hxe : x.v = .slice (some ⟨ablk x.a, aoff x.a, none⟩) x.len x.cap := by
    show Value.slice x.a x.len x.cap = _
    conv => lhs; rw [hpl]
  rw [hxe]
  have hrun := run_copy_row (P := P) w t t2 ty e b o dl dc ⟨ablk x.a, aoff x.a, none⟩ x.len x.cap c.toArray e' ys ht (by rw [hj]; exact congrArg some (hj1.trans hsz)) hb (by rw [hy, hn]) (fun j v hj => by rw [addr_add]; exact hx.2 j v hj) (by rw [List.size_toArray]; omega) h1
  rw [hy] at hrun
  refine .of hrun (hk _ (H.updAt hi ⟨?_⟩))
  have hlt : b < w.heap.size := (Array.getElem?_eq_some_iff.1 hb).1
  have hget : w.heap[b] = .cells c.toArray e' (0, 0) := (Array.getElem?_eq_some_iff.1 hb).2
  unfold World.setRow
  congr 1
  apply Array.ext_getElem?
  intro m
  rw [Array.getElem?_modify, Array.getElem?_setIfInBounds]
  by_cases hm : b = m
  · subst hm
    rw [if_pos rfl, if_pos rfl, if_pos hlt, Array.getElem?_eq_getElem hlt, hget]
    rfl
  · rw [if_neg hm, if_neg hm]
theorem and_m1 : bitsI .and .u64 1 4294967295 = 1 := by decide +kernel
theorem and_m32 : ∀ y : Nat, y < 256 → bitsI .and .u64 (y : Int) 4294967295 = (y : Int) := by decide +kernel
section
variable {V W : World}
set_option maxRecDepth 100000 in
theorem mul64_spec {y : Nat} (hy : y < 256) (w : World) : Ret Tryz.prog 95 [.int .u64 1, .int .u64 (y : Int)].toArray w fun v w' => v = .tuple #[.int .u64 0, .int .u64 (y : Int)] ∧ w = w' := by
  refine cal_of_vc tabOk Tryz.func95 rfl (by kernel_rfl) 51 rfl (by simp) [0, 1, 4, 5, 6, 7, 8, 9, 10, 11, 12, 13] ?_
  (refine wk ?_)
  have p32 : (2 : Int) ^ min (Int.toNat 32) IntKind.u64.bits = 4294967296 := by decide
  have e0 : (y : Int) / 4294967296 = 0 := by omega
  have e1 : (1 : Int) / 4294967296 = 0 := by decide
  have wz : wr .u64 0 = 0 := by decide
  have wy : wr .u64 (y : Int) = y := by
    show (y : Int) % 18446744073709551616 = y
    omega
  have a0 : bitsI .and .u64 0 4294967295 = 0 := by decide +kernel
  simp only [p32, and_m1, and_m32 y hy, e0, e1, Int.zero_mul, Int.one_mul, Int.mul_zero, wz, wy, Int.zero_add, Int.add_zero, Int.zero_ediv, a0]
  exact ⟨trivial, trivial⟩
set_option maxRecDepth 100000 in
theorem mul_spec {y : Nat} (hy : y < 256) (w : World) : Ret Tryz.prog 87 [.int .u64 1, .int .u64 (y : Int)].toArray w fun v w' => v = .tuple #[.int .u64 0, .int .u64 (y : Int)] ∧ w = w' := by
  refine cal_of_vc tabOk Tryz.func87 rfl (by kernel_rfl) 30 rfl (by simp) [0, 1, 4, 5, 6, 7, 8, 9] ?_
  (refine wk ?_)
  refine (mul64_spec hy w).use ?_
  rintro v w' ⟨rfl, rfl⟩
  ((repeat ((conv => whnf); first | refine an ?_ | refine H.ce ?_ | refine H.db ?_ | refine ea ?_ | refine ol ?_ | fail | refine cT ?_ | refine cF ?_ | refine cN ?_ | refine cM ?_ | refine H.lw ?_ | refine H.ll ?_)); (conv => whnf))
theorem rep_copy {m n : Nat} {u z : Value} (h : m ≤ n) : (List.replicate m u ++ List.replicate (n - m) z).take m ++ List.replicate (min m (n - m)) u ++ (List.replicate m u ++ List.replicate (n - m) z).drop (m + min m (n - m)) = List.replicate (m + min m (n - m)) u ++ List.replicate (n - (m + min m (n - m))) z := by
  rw [List.take_left' (by simp), ← List.drop_drop, List.drop_left' (by simp), List.replicate_append_replicate, List.drop_replicate]
  congr 2
  omega
set_option maxRecDepth 100000 in
theorem repeat_spec (hV : Sub V W) {s : Sl} {u : UInt8} (hs : Byt V s [u]) {n : Nat} (h1 : 1 ≤ n) (hn : n < 256) : Ret Tryz.prog 80 [s.v, iv (n : Int)].toArray W fun v w' => ∃ r : Sl, v = r.v ∧ Rel W V [.row r 5 1 ((List.replicate n u).flatMap byC)] V w' := by
  have H := Rel.start hV
  have hlen := hs.len
  rw [List.length_singleton] at hlen
  refine cal_of_vc tabOk Tryz.func80 rfl (by kernel_rfl) 48 rfl (by simp) [0, 1, 4, 5, 6, 7, 8, 10, 26, 37] ?_
  (first | (refine H.wg ?_; clear H; intros; rename_i w H; constructor) | refine wk ?_)
  rw [show wr .u64 ((s.len : Nat) : Int) = 1 by rw [hlen]; rfl, show wr .u64 (n : Int) = (n : Int) by show (n : Int) % 18446744073709551616 = n; omega]
  refine (mul_spec hn W).use ?_
  rintro v w' ⟨rfl, rfl⟩
  (first | (refine H.wg ?_; clear H; intros; rename_i w H; constructor) | refine wk ?_)
  refine sem_make tabOk rfl rfl rfl rfl rfl rfl (by omega) (by simp; omega) (by omega) fun w b hnb => ?_
  replace H := H.newBlk hnb
  clear hnb
  simp only [Int.toNat_natCast] at H ⊢
  (first | (refine H.wg ?_; clear H; intros; rename_i w H; constructor) | refine wk ?_)
  refine Rel.cpy tabOk rfl rfl rfl rfl H (i := 0) (n := 1) rfl (hs.up H.data).cells (by omega) rfl (by decide) (by simp; omega) flat_by_one ?_
  clear H
  intro w H
  simp only [List.set_cons_zero] at H
  replace H := H.blkEq (c' := List.replicate 1 (bv u) ++ List.replicate (n - 1) (Value.int .u8 0)) (by simp [List.drop_replicate])
  (first | (refine H.wg ?_; clear H; intros; rename_i w H; constructor) | refine wk ?_)
  refine loop_inv (S := Nat) tabOk [0, 1, 4, 5, 6, 7, 10, 26] (fun m => [(7, .slice (some ⟨b, 0, none⟩) n n), (8, iv m)]) (fun m w' => 1 ≤ m ∧ m ≤ n ∧ Rel W V [.blk b (List.replicate m (bv u) ++ List.replicate (n - m) (Value.int .u8 0)) 5] V w') (fun m _ => n - m) 1 ?_
  (conv => whnf)
  refine ⟨(by repeat (first | exact trivial | refine ⟨rfl, ?_⟩)), ⟨by omega, h1, H⟩, ?_⟩
  clear H
  rintro m w ⟨hm1, hm, H⟩
  dsimp only at hm1 hm H ⊢
  by_cases hlt : m < n
  · (first | (refine H.wg ?_; clear H; intros; rename_i w H; constructor) | refine wk ?_)
    ((first | refine draw_vc (id := 9) tabOk mixed [] [0, 1, 2, 3, 4, 5, 6, 7, 8, 9] (by kernel_rfl) ?_); intro w hdw; replace H := Rel.ext H hdw.ext)
    (first | (refine H.wg ?_; clear H; intros; rename_i w H; constructor) | refine wk ?_)
    simp only [Int.toNat_natCast]
    rw [show subA (some ⟨b, 0, none⟩) m n 1 = some ⟨b, m, none⟩ by unfold subA; rw [if_neg (by omega)]; simp [addr_add]]
    have hb := (H.blkAt (i := 0) rfl).cells
    have hc : Cells w (subA (some ⟨b, 0, none⟩) 0 n 1) (List.replicate (min m (n - m)) (bv u)) := by
      rw [show subA (some ⟨b, 0, none⟩) 0 n 1 = some ⟨b, 0, none⟩ by unfold subA; split <;> simp [addr_add]]
      refine ⟨fun _ => rfl, fun j v hj => hb.2 j v ?_⟩
      obtain ⟨hj1, hj2⟩ := List.getElem?_eq_some_iff.1 hj
      rw [List.length_replicate] at hj1
      rw [List.getElem?_append_left (by simp; omega)]
      rw [List.getElem_replicate] at hj2
      rw [List.getElem?_replicate, if_pos (by omega), hj2]
    refine Rel.cpy tabOk rfl rfl rfl rfl H (i := 0) (n := min m (n - m)) (x := ⟨subA (some ⟨b, 0, none⟩) 0 n 1, m - 0, n - 0⟩) rfl hc (by show min m (n - m) = min (m - 0) (n - m); omega) (by simp) (by omega) (by simp; omega) (fun u' hu => by rw [(List.mem_replicate.1 hu).2]; rfl) ?_
    clear H
    intro w H
    simp only [List.set_cons_zero] at H
    rw [rep_copy hm] at H
    (first | (refine H.wg ?_; clear H; intros; rename_i w H; constructor) | refine wk ?_)
    exact ⟨(by repeat (first | exact trivial | refine ⟨rfl, ?_⟩)), (by repeat (first | exact trivial | refine ⟨rfl, ?_⟩)), m + min m (n - m), (by repeat (first | exact trivial | refine ⟨rfl, ?_⟩)), ⟨by omega, by omega, H⟩, by omega⟩
  · obtain rfl : m = n := by omega
    (first | (refine H.wg ?_; clear H; intros; rename_i w H; constructor) | refine wk ?_)
    replace H := H.blkEq (c' := (List.replicate m u).flatMap byC) (by rw [byC_map, List.map_replicate]; simp)
    exact ⟨⟨some ⟨b, 0, none⟩, m, m⟩, rfl, H.toRow (n := m) (sz := 1) (by simp [byC_map]) (by simp only [maxLen]; omega)⟩
theorem Byt.one {q : Sl} {X : List UInt8} {x : UInt8} (h : Byt V q (x :: X)) : Byt V ⟨subA q.a 0 1 1, 1, 1⟩ [x] := by
  obtain ⟨p, c⟩ := h.at1 (g := bv) (fun _ => rfl) (show 0 < (x :: X).length by simp)
  refine ⟨rfl, Nat.le_refl _, fun _ => (subA_plain p : Plain (subA q.a 0 1 1)), fun j v hj => ?_⟩
  show V.cell? ⟨ablk (subA q.a 0 1 1), aoff (subA q.a 0 1 1) + j, none⟩ = some v
  rw [subA_blk, subA_off p (by decide)]
  cases j with
  | zero => simp at hj; rw [← hj]; exact c
  | succ j => simp at hj
structure UnpP (W V : World) (o : Option (List UInt8)) (v : Value) (w' : World) : Prop where
  ex : ∃ (V' : World) (r : Sl), Sub V V' ∧ Rel W V [] V' w' ∧ (match o with
    | none => v = .tuple #[r.v, .bool false]
    | some o => v = .tuple #[r.v, .bool true] ∧ Byt V' r o)
theorem decB_len {l o : List UInt8} {size : Nat} {A : List UInt8} (h : decB l = (decB o).map (A ++ ·)) (hA : size < A.length) : unpB l size = none := by
  unfold unpB
  rw [h]
  cases decB o with
  | none => rfl
  | some y =>
    show (if (A ++ y).length = size ∧ packB (A ++ y) = l then some (A ++ y) else none) = none
    rw [if_neg]
    rw [List.length_append]
    omega
set_option maxRecDepth 100000 in
theorem unpack_spec (hV : Sub V W) {s : Sl} {l : List UInt8} (hs : Byt V s l) (hl : l.length ≤ 100000) {size : Nat} (hm : size ≤ 100000) : Ret Tryz.prog 74 [s.v, iv (size : Int)].toArray W (UnpP W V (unpB l size)) := by
  have H := Rel.start hV
  have hlen := hs.len
  refine cal_of_vc tabOk Tryz.func74 rfl (by kernel_rfl) 72 rfl (by simp) [0, 1, 4, 5, 6, 7, 8, 18, 25, 42] ?_
  (first | (refine H.wg ?_; clear H; intros; rename_i w H; constructor) | refine wk ?_)
  replace H := H.rowNil 5 1
  refine loop_inv (S := Sl × List UInt8 × Sl × List UInt8) tabOk [0, 1] (fun k => [(6, k.2.2.1.v), (7, k.1.v)]) (fun k w' => Byt V k.1 k.2.1 ∧ decB l = (decB k.2.1).map (k.2.2.2 ++ ·) ∧ k.2.1.length ≤ l.length ∧ k.2.2.2.length ≤ size + 129 ∧ Rel W V [.row k.2.2.1 5 1 (k.2.2.2.flatMap byC)] V w') (fun k _ => k.2.1.length) (s, l, ⟨none, 0, 0⟩, []) ?_
  (conv => whnf)
  refine ⟨(by repeat (first | exact trivial | refine ⟨rfl, ?_⟩)), ⟨hs, by simp, Nat.le_refl _, Nat.zero_le _, H⟩, ?_⟩
  clear H
  rintro ⟨q, X, r, A⟩ w ⟨hq, hd, hX, hA, H⟩
  dsimp only at hq hd hX hA H ⊢
  have hql := hq.len
  have hqc := hq.cap
  have hrl : r.len = A.length := H.rowLen (i := 0) rfl (fun _ => rfl) (by decide)
  by_cases hbig : size < A.length
  · have hnone := decB_len hd hbig
    rw [hnone]
    obtain ⟨V2, hV2, H, hr⟩ := Rel.freezeF H (fun _ => rfl) (by decide)
    by_cases h0 : X.length = 0
    all_goals
      (first | (refine H.wg ?_; clear H; intros; rename_i w H; constructor) | refine wk ?_)
      exact ⟨V2, r, hV2, H.sx, rfl⟩
  cases X with
  | nil =>
    rw [List.length_nil] at hql
    rw [decB_nil] at hd
    have hd : decB l = some A := by rw [hd]; simp
    obtain ⟨V2, hV2, H, hr⟩ := Rel.freezeF H (fun _ => rfl) (by decide)
    by_cases hz : A.length = size
    · (first | (refine H.wg ?_; clear H; intros; rename_i w H; constructor) | refine wk ?_)
      refine (pack_spec H.data hr (by omega)).use ?_
      rintro v w ⟨r2, rfl, K⟩
      (have hKb := K.base; replace H := Rel.call H K)
      simp only [List.append_nil] at H
      obtain ⟨V3, hV3, H, hr2⟩ := Rel.freezeF H (fun _ => rfl) (by decide)
      (first | (refine H.wg ?_; clear H; intros; rename_i w H; constructor) | refine wk ?_)
      refine (equal_bytes H.data hr2 ((hs.up hV2).up hV3)).use ?_
      rintro v w ⟨rfl, K⟩
      (have hKb := K.base; replace H := H.call0 K)
      (first | (refine H.wg ?_; clear H; intros; rename_i w H; constructor) | refine wk ?_)
      have hu : unpB l size = if packB A = l then some A else none := by
        unfold unpB
        rw [hd]
        simp only [hz, true_and]
      rw [hu]
      by_cases hp : packB A = l
      · rw [if_pos hp, decide_eq_true hp]
        exact ⟨V3, r, hV2.trans hV3, H.sx, rfl, hr.up hV3⟩
      · rw [if_neg hp, decide_eq_false hp]
        exact ⟨V3, r, hV2.trans hV3, H.sx, rfl⟩
    · have hu : unpB l size = none := by
        unfold unpB
        rw [hd]
        simp only
        rw [if_neg (fun h => hz h.1)]
      rw [hu]
      (first | (refine H.wg ?_; clear H; intros; rename_i w H; constructor) | refine wk ?_)
      exact ⟨V2, r, hV2, H.sx, rfl⟩
  | cons c R =>
    rw [List.length_cons] at hql hX
    obtain ⟨p0, c0⟩ := hq.at1 (g := bv) (fun _ => rfl) (show 0 < (c :: R).length by simp)
    rw [List.getElem_cons_zero] at c0
    rw [decB_cons] at hd
    have hc256 := c.toNat_lt
    have hf := hq.rest (k := 1) (by simp)
    rw [List.drop_one, List.tail_cons] at hf
    have hfl := hf.len
    (first | (refine H.wg ?_; clear H; intros; rename_i w H; constructor) | refine wk ?_)
    by_cases hrun : 129 ≤ c.toNat ∧ 0 < R.length
    · rw [if_pos hrun] at hd
      cases R with
      | nil => simp at hrun
      | cons y R =>
        rw [List.length_cons] at hX hql hfl
        have ho := hf.one
        have hf2 := hf.rest (k := 1) (by simp)
        rw [List.drop_one, List.tail_cons] at hf2
        rw [List.headD_cons, List.drop_one, List.tail_cons] at hd
        (first | (refine H.wg ?_; clear H; intros; rename_i w H; constructor) | refine wk ?_)
        rw [show ((c.toNat : Nat) : Int) - 126 = ((c.toNat - 126 : Nat) : Int) by omega]
        refine (repeat_spec (n := c.toNat - 126) H.data ho (by omega) (by omega)).use ?_
        rintro v w ⟨r2, rfl, K⟩
        (have hKb := K.base; replace H := Rel.call H K)
        simp only [List.cons_append, List.nil_append] at H
        (first | (refine H.wg ?_; clear H; intros; rename_i w H; constructor) | refine wk ?_)
        refine Rel.appB H (i := 0) rfl (by simp only [List.length_replicate]; omega) ?_
        clear H
        intro r1 w H
        simp only [List.set_cons_zero] at H
        (first | (refine H.wg ?_; clear H; intros; rename_i w H; constructor) | refine wk ?_)
        exact ⟨(by repeat (first | exact trivial | refine ⟨rfl, ?_⟩)), (_, R, r1, A ++ List.replicate (c.toNat - 126) y), (by repeat (first | exact trivial | refine ⟨rfl, ?_⟩)), ⟨hf2, by rw [hd, Option.map_map]; congr 1; funext z; simp, by dsimp only; omega, by simp only [List.length_append, List.length_replicate]; omega, H⟩, by simp only [List.length_cons]; omega⟩
    · rw [if_neg hrun] at hd
      by_cases hlit : c.toNat < 128 ∧ c.toNat < R.length
      · rw [if_pos hlit] at hd
        have hh := hf.head (k := c.toNat + 1) (by omega)
        have hf2 := hf.rest (k := c.toNat + 1) (by omega)
        (first | (refine H.wg ?_; clear H; intros; rename_i w H; constructor) | refine wk ?_)
        refine Rel.appD H (i := 0) rfl hh (by simp only [List.length_take]; omega) ?_
        clear H
        intro r1 w H
        simp only [List.set_cons_zero] at H
        (first | (refine H.wg ?_; clear H; intros; rename_i w H; constructor) | refine wk ?_)
        exact ⟨(by repeat (first | exact trivial | refine ⟨rfl, ?_⟩)), (_, R.drop (c.toNat + 1), r1, A ++ R.take (c.toNat + 1)), (by repeat (first | exact trivial | refine ⟨rfl, ?_⟩)), ⟨hf2, by rw [hd, Option.map_map]; congr 1; funext z; simp, by simp only [List.length_drop]; omega, by simp only [List.length_append, List.length_take]; omega, H⟩, by simp only [List.length_cons, List.length_drop]; omega⟩
      · rw [if_neg hlit] at hd
        have hu : unpB l size = none := by
          unfold unpB
          rw [hd]
          rfl
        rw [hu]
        by_cases h1 : 129 ≤ c.toNat
        · (first | (refine H.wg ?_; clear H; intros; rename_i w H; constructor) | refine wk ?_)
          exact ⟨V, ⟨none, 0, 0⟩, Sub.refl _, H.sx, rfl⟩
        by_cases h2 : c.toNat < 128
        all_goals
          (first | (refine H.wg ?_; clear H; intros; rename_i w H; constructor) | refine wk ?_)
          exact ⟨V, ⟨none, 0, 0⟩, Sub.refl _, H.sx, rfl⟩
end
end Go.Proofs.YtgnaojphgdaalaaGreat
