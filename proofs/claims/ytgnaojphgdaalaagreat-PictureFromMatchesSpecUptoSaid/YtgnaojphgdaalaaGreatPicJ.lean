/-
  Pictures: palettes, residues.
-/
import Derived.Test.YtgnaojphgdaalaaGreatPicI
import Derived.Test.YtgnaojphgdaalaaGreatPicS
import Derived.Test.YtgnaojphgdaalaaGreatVcV
namespace Go.Proofs.YtgnaojphgdaalaaGreat
open Go Go.RowKit

abbrev colC (c : Col) : List Value := [bv c.1, bv c.2.1, bv c.2.2]
abbrev colV (c : Col) : Value := .agg #[bv c.1, bv c.2.1, bv c.2.2]
abbrev Cols := SlF colC
theorem Cols.at3 {V : World} {s : Sl} {p : List Col} (h : Cols V s p) {i : Nat} (hi : i < p.length) : Plain s.a ∧ V.cell? ⟨ablk s.a, aoff s.a + i * 3, none⟩ = some (bv p[i].1) ∧ V.cell? ⟨ablk s.a, aoff s.a + i * 3 + 1, none⟩ = some (bv p[i].2.1) ∧ V.cell? ⟨ablk s.a, aoff s.a + i * 3 + 1 + 1, none⟩ = some (bv p[i].2.2) := by
  obtain ⟨p, c⟩ := SlF.get h (n := 3) (fun _ => rfl) (by decide) hi
  exact ⟨p, c 0 _ rfl, c 1 _ rfl, c 2 _ rfl⟩
theorem sem_eqC {x y : Operand} {a b : Col} {w : World} {k : Value → World → Prop} (hk : k (.bool (decide (a = b))) w) : SemOk Tryz.prog (do eqGuard .eql 103 x y (colV a) (colV b); binOp .eql 103 (colV a) (colV b)) w k := by
  have e : decide (a = b) = decide (colL a = colL b) := decide_eq_decide.2 ⟨fun h => by rw [h], fun h => by
    simp only [colL, List.cons.injEq, and_true] at h
    exact Prod.ext h.1 (Prod.ext h.2.1 h.2.2)⟩
  rw [e] at hk
  exact sem_eqA (n := 3) (e := 5) (a := colL a) (b := colL b) tabOk (by kernel_rfl) rfl rfl rfl rfl rfl rfl rfl hk
section
variable {V W : World}
set_option maxRecDepth 100000 in
theorem index_cols (hV : Sub V W) {s : Sl} {p : List Col} (hs : Cols V s p) (hp : p.length ≤ 100000) (c : Col) : Ret Tryz.prog 70 [s.v, colV c].toArray W fun v w' => v = iv (if c ∈ p then (posC p c : Int) else -1) ∧ Rel W V [] V w' := by
  have H := Rel.start hV
  have hlen := hs.len
  refine cal_of_vc tabOk Tryz.func70 rfl (by kernel_rfl) 19 rfl (by simp) [0, 1, 3, 4, 5, 7, 8, 9, 16] ?_
  (first | (refine H.wh ?_; clear H; intros; rename_i w H; constructor) | refine wk ?_)
  ((first | refine Rel.nwD H ?_ | refine Rel.nw H ?_); clear H; intro w b3 H)
  (first | (refine H.wg ?_; clear H; intros; rename_i w H; constructor) | refine wk ?_)
  refine loop_inv (S := Nat) tabOk [0, 1, 3, 7] (fun k => [(8, iv k)]) (fun k w' => k ≤ p.length ∧ c ∉ p.take k ∧ Rel W V [.blk b3 (colC c) 103] V w') (fun k _ => p.length - k) 0 ?_
  (conv => whnf)
  refine ⟨(by repeat (first | exact trivial | refine ⟨rfl, ?_⟩)), ⟨by omega, by simp, H⟩, ?_⟩
  clear H
  rintro k w ⟨hk, hn, H⟩
  dsimp only at hk hn H ⊢
  by_cases hlt : k < p.length
  rotate_left
  · rw [List.take_of_length_le (by omega)] at hn
    rw [if_neg hn]
    (first | (refine H.wg ?_; clear H; intros; rename_i w H; constructor) | refine wk ?_)
    exact H.sx
  obtain ⟨hpl, g1, g2, g3⟩ := hs.at3 hlt
  (first | (refine H.wg ?_; clear H; intros; rename_i w H; constructor) | refine wk ?_)
  ((first | refine draw_vc (id := 4) tabOk mixed [] [0, 1, 2, 3, 4, 5] (by kernel_rfl) ?_); intro w hdw; replace H := Rel.ext H hdw.ext)
  (first | (refine H.wg ?_; clear H; intros; rename_i w H; constructor) | refine wk ?_)
  refine sem_eqC ?_
  (first | (refine H.wg ?_; clear H; intros; rename_i w H; constructor) | refine wk ?_)
  by_cases he : c = p[k]
  · have hm : c ∈ p := he ▸ List.getElem_mem hlt
    rw [if_pos hm, decide_eq_true he]
    have hpos : posC p c = k := by
      have hd := List.take_append_drop k p
      rw [List.drop_eq_getElem_cons hlt, ← he] at hd
      have : ∀ (l : List Col), c ∉ l → ∀ r, posC (l ++ c :: r) c = l.length := by
        intro l
        induction l with
        | nil => intro _ r; simp [posC]
        | cons x l ih =>
          intro h r
          simp only [List.mem_cons, not_or] at h
          show (if x = c then 0 else posC (l ++ c :: r) c + 1) = _
          rw [if_neg (fun e => h.1 e.symm), ih h.2]
          rfl
      have h2 := this _ hn (p.drop (k + 1))
      rw [hd, List.length_take] at h2
      omega
    (first | (refine H.wg ?_; clear H; intros; rename_i w H; constructor) | refine wk ?_)
    exact ⟨by rw [hpos], H.sx⟩
  · rw [decide_eq_false he]
    (first | (refine H.wg ?_; clear H; intros; rename_i w H; constructor) | refine wk ?_)
    refine ⟨(by repeat (first | exact trivial | refine ⟨rfl, ?_⟩)), k + 1, (by repeat (first | exact trivial | refine ⟨rfl, ?_⟩)), ⟨by omega, ?_, H.sx⟩, by omega⟩
    rw [List.take_succ_eq_append_getElem hlt]
    simp only [List.mem_append, List.mem_singleton, not_or]
    exact ⟨hn, he⟩
set_option maxRecDepth 100000 in
theorem contains_cols (hV : Sub V W) {s : Sl} {p : List Col} (hs : Cols V s p) (hp : p.length ≤ 100000) (c : Col) : Ret Tryz.prog 65 [s.v, colV c].toArray W fun v w' => v = .bool (decide (c ∈ p)) ∧ Rel W V [] V w' := by
  have H := Rel.start hV
  refine cal_of_vc tabOk Tryz.func65 rfl (by kernel_rfl) 9 rfl (by simp) [0, 1, 3, 4] ?_
  (first | (refine H.wh ?_; clear H; intros; rename_i w H; constructor) | refine wk ?_)
  ((first | refine Rel.nwD H ?_ | refine Rel.nw H ?_); clear H; intro w b3 H)
  (first | (refine H.wg ?_; clear H; intros; rename_i w H; constructor) | refine wk ?_)
  refine (index_cols H.data hs hp c).use ?_
  rintro v w ⟨rfl, K⟩
  (have hKb := K.base; replace H := H.call0 K)
  (first | (refine H.wg ?_; clear H; intros; rename_i w H; constructor) | refine wk ?_)
  refine ⟨congrArg Value.bool (decide_eq_decide.2 ?_), H.sx⟩
  by_cases hm : c ∈ p
  · rw [if_pos hm]
    exact ⟨fun _ => hm, fun _ => by omega⟩
  · rw [if_neg hm]
    exact ⟨fun h => by omega, fun h => absurd h hm⟩
structure PalP (W V : World) (o : Option (List Col × List UInt8)) (v : Value) (w' : World) : Prop where
  ex : ∃ (V' : World) (r t : Sl), Sub V V' ∧ Rel W V [] V' w' ∧ (match o with
    | none => v = .tuple #[.slice none 0 0, .slice none 0 0, .bool false]
    | some (p, l) => v = .tuple #[r.v, t.v, .bool true] ∧ Cols V' r p ∧ Byt V' t l)
theorem sem_arr {P : Program} {w : World} {arr e : TypeId} {n : Nat} {a : Option Addr} {len cap : Nat} (h : P.underlying arr = some (.array n e)) (hn : n ≤ len) {k : Value → World → Prop} (hk : k (.pointer a) w) : SemOk P (Instr.arrayAt arr (.slice a len cap)) w k :=
  .of (by simp [Instr.arrayAt, run_underlying h, Nat.not_lt.2 hn]) hk
theorem colsOf_get {l : List UInt8} : ∀ {n i : Nat}, 3 * n ≤ l.length → i < n → (colsOf (l.take (3 * n)))[i]? = some (colAt l i) := by
  intro n i hn hi
  rw [colAt_of (l.take (3 * n)) n (by rw [List.length_take]; omega), List.getElem?_map, List.getElem?_range hi]
  simp only [Option.map_some, colAt, z8]
  rw [List.getElem?_take_of_lt (by omega), List.getElem?_take_of_lt (by omega), List.getElem?_take_of_lt (by omega)]
theorem colsOf_take {l : List UInt8} {n k : Nat} (hn : 3 * n ≤ l.length) (hk : k ≤ n) : (colsOf (l.take (3 * n))).take k = (List.range k).map (colAt l) := by
  refine List.ext_getElem? fun i => ?_
  by_cases hi : i < k
  · rw [List.getElem?_take_of_lt hi, colsOf_get hn (by omega), List.getElem?_map, List.getElem?_range hi]
    rfl
  · rw [List.getElem?_eq_none (by simp; omega), List.getElem?_eq_none (by simp; omega)]
theorem z8_cell {q : Sl} {l : List UInt8} (h : Byt V q l) {i : Nat} (hi : i < l.length) : Plain q.a ∧ V.cell? ⟨ablk q.a, aoff q.a + i, none⟩ = some (bv (z8 l i)) := by
  obtain ⟨p, c⟩ := h.at1 (g := bv) (fun _ => rfl) hi
  refine ⟨p, ?_⟩
  rw [c]
  simp [z8, List.getElem?_eq_getElem hi]
theorem subA_eq {a : Option Addr} (h : Plain a) {l m n : Nat} (hm : m ≠ l) : subA a l m n = some ⟨ablk a, aoff a + l * n, none⟩ := by
  have := subA_plain h (l := l) (m := m) (size := n)
  rw [Plain, subA_blk, subA_off h hm] at this
  exact this
set_option maxRecDepth 100000 in
theorem readPalette_spec (hV : Sub V W) {s : Sl} {b : List UInt8} (hs : Byt V s b) (hl : b.length ≤ 1000000000) {f : Nat} (hf : f < 32) : Ret Tryz.prog 44 [s.v, iv ((f / 16 : Nat) : Int)].toArray W (PalP W V (palR f b)) := by
  have H := Rel.start hV
  have hlen := hs.len
  have hcap := hs.cap
  obtain ⟨most, hmost⟩ : ∃ m, m = mostP f := ⟨_, rfl⟩
  have hm16 := mostP_le f
  refine cal_of_sem tabOk Tryz.func44 rfl (by kernel_rfl) 68 rfl (by simp) [0, 1, 4, 5, 6, 7, 8, 9, 10, 11, 13, 30, 41, 42, 43, 44, 57] ?_
  refine SemC.seqGo tabOk ?_
  (first | (refine H.wg ?_; clear H; intros; rename_i w H; constructor) | refine wk ?_)
  refine SemC.seqGo tabOk ?_
  (first | (refine H.wg ?_; clear H; intros; rename_i w H; constructor) | refine wk ?_)
  refine SemC.seqCut tabOk (fun _ : Unit => [(0, s.v), (7, iv most)]) (fun _ w' => w' = W) ?_ ?_
  · by_cases hd : f / 16 = 1
    · obtain rfl : most = 16 := by rw [hmost]; unfold mostP; rw [if_pos hd]
      (first | (refine H.wg ?_; clear H; intros; rename_i w H; constructor) | refine wk ?_)
      exact ⟨(), (by repeat (first | exact trivial | refine ⟨rfl, ?_⟩)), rfl⟩
    · obtain rfl : most = 2 := by rw [hmost]; unfold mostP; rw [if_neg hd]
      (first | (refine H.wg ?_; clear H; intros; rename_i w H; constructor) | refine wk ?_)
      exact ⟨(), (by repeat (first | exact trivial | refine ⟨rfl, ?_⟩)), rfl⟩
  rintro _ w rfl
  refine SemC.go tabOk ?_
  cases b with
  | nil =>
    rw [List.length_nil] at hlen
    (first | (refine H.wg ?_; clear H; intros; rename_i w H; constructor) | refine wk ?_)
    exact ⟨V, ⟨none, 0, 0⟩, ⟨none, 0, 0⟩, Sub.refl _, H.sx, rfl⟩
  | cons c l =>
    obtain ⟨p0, c0⟩ := hs.at1 (g := bv) (fun _ => rfl) (show 0 < (c :: l).length by simp)
    rw [List.getElem_cons_zero] at c0
    rw [List.length_cons] at hlen hl
    have hc256 := c.toNat_lt
    by_cases h1 : c.toNat = 0
    · have e : palR f (c :: l) = none := by unfold palR; simp only; rw [if_neg (fun h => by have := h.1; omega)]
      rw [e]
      (first | (refine H.wg ?_; clear H; intros; rename_i w H; constructor) | refine wk ?_)
      exact ⟨V, ⟨none, 0, 0⟩, ⟨none, 0, 0⟩, Sub.refl _, H.sx, rfl⟩
    by_cases h2 : most < c.toNat
    · have e : palR f (c :: l) = none := by unfold palR; simp only; rw [if_neg (fun h => by have := h.2.1; omega)]
      rw [e]
      (first | (refine H.wg ?_; clear H; intros; rename_i w H; constructor) | refine wk ?_)
      exact ⟨V, ⟨none, 0, 0⟩, ⟨none, 0, 0⟩, Sub.refl _, H.sx, rfl⟩
    have ht := hs.rest (k := 1) (by simp)
    rw [List.drop_one, List.tail_cons] at ht
    have htl := ht.len
    obtain ⟨t, hte⟩ : ∃ t : Sl, t = ⟨subA s.a 1 s.cap 1, s.len - 1, s.cap - 1⟩ := ⟨_, rfl⟩
    rw [← hte] at ht htl
    have htc := ht.cap
    by_cases h3 : 3 * c.toNat ≤ l.length
    rotate_left
    · have e : palR f (c :: l) = none := by unfold palR; simp only; rw [if_neg (fun h => h3 h.2.2.1)]
      rw [e]
      (first | (refine H.wg ?_; clear H; intros; rename_i w H; constructor) | refine wk ?_)
      exact ⟨V, ⟨none, 0, 0⟩, ⟨none, 0, 0⟩, Sub.refl _, H.sx, rfl⟩
    have h12 : 1 ≤ c.toNat ∧ c.toNat ≤ mostP f := by omega
    (first | (refine H.wg ?_; clear H; intros; rename_i w H; constructor) | refine wk ?_)
    rw [show Value.slice (subA s.a (Int.toNat 1) s.cap 1) (s.len - Int.toNat 1) (s.cap - Int.toNat 1) = t.v by rw [hte]; rfl]
    clear hte
    obtain ⟨n, hn⟩ : ∃ n, n = c.toNat := ⟨_, rfl⟩
    rw [← hn] at h12 h3 ⊢
    have H := H.rowNil 103 3
    refine loop_inv (S := Nat × Sl) tabOk [0, 1, 7, 8, 13, 30, 41, 42] (fun k => [(9, k.2.v), (43, iv k.1)]) (fun k w' => k.1 ≤ n ∧ ((List.range k.1).map (colAt l)).Nodup ∧ Rel w V [.row k.2 103 3 (((List.range k.1).map (colAt l)).flatMap colC)] V w') (fun k _ => n - k.1) (0, ⟨none, 0, 0⟩) ?_
    (conv => whnf)
    refine ⟨(by repeat (first | exact trivial | refine ⟨rfl, ?_⟩)), ⟨by omega, by simp, H⟩, ?_⟩
    clear H
    rintro ⟨k, r⟩ w' ⟨hk, hnd, H⟩
    dsimp only at hk hnd H ⊢
    have hrl : r.len = ((List.range k).map (colAt l)).length := H.rowLen (i := 0) rfl (fun _ => rfl) (by decide)
    rw [List.length_map, List.length_range] at hrl
    by_cases hlt : k < n
    · obtain ⟨q0, d0⟩ := z8_cell ht (i := 3 * k) (by omega)
      obtain ⟨_, d1⟩ := z8_cell ht (i := 3 * k + 1) (by omega)
      obtain ⟨_, d2⟩ := z8_cell ht (i := 3 * k + 2) (by omega)
      (first | (refine H.wg ?_; clear H; intros; rename_i w H; constructor) | refine wk ?_)
      refine sem_arr (n := 3) (e := 5) (by kernel_rfl) (by omega) ?_
      rw [subA_eq q0 (by omega), show (3 * (k : Int)).toNat * 1 = 3 * k by omega]
      (first | (refine H.wh ?_; clear H; intros; rename_i w H; constructor) | refine wk ?_)
      ((first | refine Rel.nwD H ?_ | refine Rel.nw H ?_); clear H; intro w b11 H)
      (first | (refine H.wg ?_; clear H; intros; rename_i w H; constructor) | refine wk ?_)
      refine (contains_cols (Sub.refl _) (H.slfAt (i := 1) rfl (fun _ => rfl) (by decide)) (by simp; omega) (colAt l k)).use ?_
      rintro v w2 ⟨rfl, K⟩
      replace H := Rel.ext H K.base
      by_cases hc : colAt l k ∈ (List.range k).map (colAt l)
      · have e : palR f (c :: l) = none := by
          unfold palR
          simp only
          rw [if_neg]
          rintro ⟨_, _, _, h4⟩
          rw [← hn] at h4
          have h5 := colsOf_take h3 (k := k + 1) (by omega)
          have h6 := (h4.sublist (List.take_sublist (k + 1) _))
          rw [h5, List.range_succ, List.map_append, List.map_singleton] at h6
          exact (List.nodup_append.1 h6).2.2 _ hc _ (List.mem_singleton.2 rfl) rfl
        rw [e, decide_eq_true hc]
        (first | (refine H.wg ?_; clear H; intros; rename_i w H; constructor) | refine wk ?_)
        exact ⟨V, ⟨none, 0, 0⟩, ⟨none, 0, 0⟩, Sub.refl _, H.sx, rfl⟩
      · rw [decide_eq_false hc]
        (first | (refine H.wg ?_; clear H; intros; rename_i w H; constructor) | refine wk ?_)
        refine Rel.app1_1 (f := colC) (l := (List.range k).map (colAt l)) (x := colAt l k) tabOk rfl rfl rfl rfl rfl (by decide) (fun _ => rfl) (by simp [Value.oneCell', bv]) H (by rw [List.length_map, List.length_range]; show (k + 1) * 3 ≤ _; omega) (by rw [List.length_map, List.length_range]; omega) ?_
        clear H
        intro r1 w H
        have hnd' : ((List.range (k + 1)).map (colAt l)).Nodup := by
          rw [List.range_succ, List.map_append, List.map_singleton, List.nodup_append]
          exact ⟨hnd, by simp, fun a ha b hb e => hc (by rw [List.mem_singleton] at hb; rw [← hb, ← e]; exact ha)⟩
        (first | (refine H.wg ?_; clear H; intros; rename_i w H; constructor) | refine wk ?_)
        rw [show (List.range k).map (colAt l) ++ [colAt l k] = (List.range (k + 1)).map (colAt l) by rw [List.range_succ, List.map_append]; rfl] at H
        exact ⟨(by repeat (first | exact trivial | refine ⟨rfl, ?_⟩)), (k + 1, r1), (by repeat (first | exact trivial | refine ⟨rfl, ?_⟩)), ⟨by dsimp only; omega, hnd', H.sx⟩, by dsimp only; omega⟩
    · obtain rfl : k = n := by omega
      have h4 := colsOf_take h3 (k := k) (Nat.le_refl _)
      have h5 : (colsOf (l.take (3 * k))).length = k := (colsL_of k (by rw [List.length_take]; omega)).2
      rw [List.take_of_length_le (by omega)] at h4
      have e : palR f (c :: l) = some ((List.range k).map (colAt l), l.drop (3 * k)) := by
        unfold palR
        simp only
        rw [← hn, if_pos ⟨h12.1, h12.2, h3, by rw [h4]; exact hnd⟩, h4]
      rw [e]
      obtain ⟨V2, hV2, H, hr⟩ := Rel.freezeF H (fun _ => rfl) (by decide)
      have ht2 := ht.rest (k := 3 * k) (by omega)
      (first | (refine H.wg ?_; clear H; intros; rename_i w H; constructor) | refine wk ?_)
      ((first | refine draw_vc (id := 19) tabOk mixed [] [0, 1, 2, 3, 4, 5, 6, 7] (by kernel_rfl) ?_); intro w hdw; replace H := Rel.ext H hdw.ext)
      (first | (refine H.wg ?_; clear H; intros; rename_i w H; constructor) | refine wk ?_)
      exact ⟨V2, r, _, hV2, H.sx, rfl, hr, ht2.up hV2⟩
end
end Go.Proofs.YtgnaojphgdaalaaGreat
