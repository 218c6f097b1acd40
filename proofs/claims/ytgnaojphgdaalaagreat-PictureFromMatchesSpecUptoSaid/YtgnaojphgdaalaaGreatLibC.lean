/-
  slices.Chunk, Collect, Reverse.
-/
import Derived.Test.YtgnaojphgdaalaaGreatCnvR
import Derived.Test.YtgnaojphgdaalaaGreatVcX
import Derived.Test.YtgnaojphgdaalaaGreatVcQ
import Derived.Test.YtgnaojphgdaalaaGreatLibD
namespace Go.Proofs.YtgnaojphgdaalaaGreat
open Go Go.RowKit

theorem sem_min {P : Program} {w : World} {ts : Array TypeId} {t : TypeId} {k k' : IntKind} {x y : Int} {K : Value → World → Prop} (m : Int) (hm : m ≤ x ∧ m ≤ y ∧ (m = x ∨ m = y)) (h : K (.int k m) w) : SemOk P (Builtin.min_ ts t #[.int k x, .int k' y]) w K :=
  .of (run_min_int2 w ts t k k' x y) (by rw [show (if y < x then y else x) = m by split <;> omega]; exact h)
/-- the places at which pieces of n begin -/
abbrev Cnt (m n len : Nat) : Prop := ∀ i, i < m ↔ i * n < len
theorem cnt_mul {h n : Nat} (hn : 1 ≤ n) : Cnt h n (h * n) := fun i => by
  constructor
  · intro hi
    have : (i + 1) * n ≤ h * n := Nat.mul_le_mul_right n hi
    rw [Nat.add_mul] at this
    omega
  · intro hi
    exact Nat.lt_of_mul_lt_mul_right hi
/-- piece i of a slice -/
def chSl (s : Sl) (n i : Nat) : Sl := ⟨subA s.a (i * n) (i * n + min n (s.len - i * n)) 1, min n (s.len - i * n), min n (s.len - i * n)⟩
def chOf {α : Type} (l : List α) (n i : Nat) : List α := (l.drop (i * n)).take n
theorem chSl_byt {V : World} {s : Sl} {l : List UInt8} (hs : Byt V s l) {n i : Nat} (hn : 1 ≤ n) (hi : i * n < l.length) : Byt V (chSl s n i) (chOf l n i) := by
  have hl := hs.len
  have h0 := hs.at1 (g := bv) (fun _ => rfl) hi
  refine ⟨by simp only [chSl, chOf, List.length_take, List.length_drop]; omega, Nat.le_refl _, fun _ => ?_, fun j v hj => ?_⟩
  · exact (subA_plain h0.1 : Plain (subA s.a _ _ _))
  · have hj2 : j < n ∧ i * n + j < l.length ∧ v = bv (l[i * n + j]?.getD 0) := by
      rw [byC_map] at hj
      obtain ⟨q1, q2⟩ := List.getElem?_eq_some_iff.1 hj
      simp only [chOf, List.length_map, List.length_take, List.length_drop] at q1
      refine ⟨by omega, by omega, ?_⟩
      rw [← q2]
      simp only [chOf, List.getElem_map, List.getElem_take, List.getElem_drop]
      rw [List.getElem?_eq_getElem (by omega)]
      rfl
    obtain ⟨g1, g2, g3⟩ := hj2
    obtain ⟨_, c⟩ := hs.at1 (g := bv) (fun _ => rfl) g2
    simp only [chSl]
    rw [subA_blk, subA_off h0.1 (by omega), g3, List.getElem?_eq_getElem g2, Nat.add_assoc, Nat.mul_one]
    exact c
def chunks (s : Sl) (n m : Nat) : List (List Value) := (List.range m).map fun i => [(chSl s n i).v]
theorem chunks_len (s : Sl) (n m : Nat) : (chunks s n m).length = m := by simp [chunks]
theorem chunks_at {s : Sl} {n m k : Nat} (hk : k < m) : (chunks s n m)[k]? = some [(chSl s n k).v] := by
  simp [chunks, List.getElem?_map, List.getElem?_range hk]
section
variable {V W : World}
theorem chunks_spec (hV : Sub V W) (s : Sl) {n : Nat} (hn : 1 ≤ n) : Ret Tryz.prog 46 [s.v, iv (n : Int)].toArray W fun v w' => ∃ b c, v = .func (.func 68) #[] #[.pointer (some ⟨b, 0, none⟩), .pointer (some ⟨c, 0, none⟩)] ∧ ∃ V', Sub V V' ∧ Rel W V [] V' w' ∧ Blk V' b [s.v] 22 ∧ Blk V' c [iv n] 3 := by
  have H := Rel.start hV
  refine cal_of_vc tabOk Tryz.func46 rfl (by kernel_rfl) 9 rfl (by simp) [0, 1, 2, 3, 4, 6] ?_
  (first | (refine H.wh ?_; clear H; intros; rename_i w H; constructor) | refine wk ?_)
  ((first | refine Rel.nwD H ?_ | refine Rel.nw H ?_); clear H; intro w b H)
  (first | (refine H.wh ?_; clear H; intros; rename_i w H; constructor) | refine wk ?_)
  ((first | refine Rel.nwD H ?_ | refine Rel.nw H ?_); clear H; intro w c H)
  (first | (refine H.wg ?_; clear H; intros; rename_i w H; constructor) | refine wk ?_)
  obtain ⟨V1, h1, H, k1⟩ := H.freezeBlk
  obtain ⟨V2, h2, H, k2⟩ := H.freezeBlk
  have k1' := k1.cells.sub' h2
  refine ⟨b, c, rfl, V2, h1.trans h2, H, k2, ?_⟩
  exact h2.cel _ _ _ _ k1
set_option maxRecDepth 100000 in
theorem chunk_iter {b c : Nat} {s : Sl} {l : List UInt8} {n m : Nat} (hb : Blk V b [s.v] 22) (hc : Blk V c [iv n] 3) (hs : Byt V s l) (hl : l.length ≤ 1000000000) (hn : 1 ≤ n) (hnl : n ≤ 1000000000) (hm : Cnt m n l.length) :
    IterOk Tryz.prog 68 [.pointer (some ⟨b, 0, none⟩), .pointer (some ⟨c, 0, none⟩)] (chunks s n m) (fun W => Sub V W) := by
  refine ⟨enters_mk Tryz.func68 rfl (by kernel_rfl), ?_⟩
  intro L W J Jx hS hJ hJx hround h0
  have hlen := hs.len
  have hcap := hs.cap
  have hb0 := hb.cel (i := 0) rfl
  have hc0 := hc.cel (i := 0) rfl
  refine cal_of_vc tabOk Tryz.func68 rfl (by kernel_rfl) 31 rfl (by simp) [0, 1, 2, 4, 5, 9, 30] ?_
  (refine wk ?_)
  refine loop_inv tabOk [0, 1, 2] (fun k : Nat => [(4, .int .i64 ((k * n : Nat) : Int))]) (fun k w' => k ≤ m ∧ J k w') (fun k _ => m - k) 0 ?_
  (conv => whnf)
  refine ⟨⟨by simp [get?], trivial⟩, ⟨by omega, h0⟩, ?_⟩
  rintro k w ⟨hk, hj⟩
  have H := Rel.start (hS _ _ hj)
  by_cases hlt : k < m
  · have hkl := (hm k).1 hlt
    (first | (refine H.wg ?_; clear H; intros; rename_i w H; constructor) | refine wk ?_)
    ((first | refine draw_vc (id := 3) tabOk mixed [] [0, 1, 2, 3, 4, 5, 6] (by kernel_rfl) ?_); intro w hdw; replace H := Rel.ext H hdw.ext)
    (first | (refine H.wg ?_; clear H; intros; rename_i w H; constructor) | refine wk ?_)
    refine sem_min ((min n (s.len - k * n) : Nat) : Int) (by omega) ?_
    (first | (refine H.wg ?_; clear H; intros; rename_i w H; constructor) | refine wk ?_)
    have hy := hround k [(chSl s n k).v] w (chunks_at hlt) (hJ _ _ _ hj H.base)
    have ev : (chSl s n k).v = Value.slice (subA s.a (((k * n : Nat) : Int)).toNat ((((k * n : Nat) : Int)) + ((min n (s.len - k * n) : Nat) : Int)).toNat 1) (((((k * n : Nat) : Int)) + ((min n (s.len - k * n) : Nat) : Int)).toNat - (((k * n : Nat) : Int)).toNat) (((((k * n : Nat) : Int)) + ((min n (s.len - k * n) : Nat) : Int)).toNat - (((k * n : Nat) : Int)).toNat) := by
      have e1 : (((k * n : Nat) : Int) + ((min n (s.len - k * n) : Nat) : Int)).toNat = k * n + min n (s.len - k * n) := by omega
      rw [e1, Int.toNat_natCast, show k * n + min n (s.len - k * n) - k * n = min n (s.len - k * n) by omega]
      rfl
    rw [ev] at hy
    refine hy.mono ?_
    rintro r w3 ⟨ht, hf⟩
    clear H
    (conv => whnf)
    refine condG_split (fun h6 => ?_) (fun h6 => ?_)
    · (conv => whnf)
      exact .inr (hf (by simpa using h6))
    · have hj2 := ht (by simpa using h6)
      have H := Rel.start (hS _ _ hj2)
      have e3 : ((k * n : Nat) : Int) + (n : Int) = (((k + 1) * n : Nat) : Int) := by rw [Nat.add_mul]; omega
      have hkn : k * n ≤ 1000000000 := by omega
      (first | (refine H.wg ?_; clear H; intros; rename_i w H; constructor) | refine wk ?_)
      rw [e3]
      exact ⟨(by repeat (first | exact trivial | refine ⟨rfl, ?_⟩)), k + 1, (by repeat (first | exact trivial | refine ⟨rfl, ?_⟩)), ⟨by omega, hj2⟩, by omega⟩
  · have hkl : ¬ k * n < l.length := fun h => hlt ((hm k).2 h)
    (first | (refine H.wg ?_; clear H; intros; rename_i w H; constructor) | refine wk ?_)
    rw [show k = m by omega, ← chunks_len s n m] at hj
    exact .inl hj
set_option maxRecDepth 100000 in
theorem appendSeq_spec (hV : Sub V W) {b c : Nat} {s : Sl} {l : List UInt8} {n m : Nat} (hb : Blk V b [s.v] 22) (hc : Blk V c [iv n] 3) (hs : Byt V s l) (hl : l.length ≤ 1000000000) (hn : 1 ≤ n) (hnl : n ≤ 1000000000) (hm : Cnt m n l.length) (hm2 : m ≤ 1000000) :
    Ret Tryz.prog 79 [.slice none 0 0, .func (.func 68) #[] #[.pointer (some ⟨b, 0, none⟩), .pointer (some ⟨c, 0, none⟩)]].toArray W fun v w' => ∃ r : Sl, v = r.v ∧ Rel W V [.row r 22 1 (((List.range m).map (chSl s n)).flatMap slC)] V w' := by
  have H := Rel.start hV
  refine cal_of_vc tabOk Tryz.func79 rfl (by kernel_rfl) 13 rfl (by simp) [0, 1, 2, 4, 5, 6, 7] ?_
  (first | (refine H.wh ?_; clear H; intros; rename_i w H; constructor) | refine wk ?_)
  ((first | refine Rel.nwD H ?_ | refine Rel.nw H ?_); clear H; intro w b2 H)
  (first | (refine H.wg ?_; clear H; intros; rename_i w H; constructor) | refine wk ?_)
  replace H := H.rowNil 22 1
  have hB := H.base.size
  refine range_rel tabOk rfl (by (conv => whnf)) (chunk_iter hb hc hs hl hn hnl hm) ?_ rfl (σ := Sl) (τ := Unit)
    (fun k r => [.row r 22 1 (((List.range k).map (chSl s n)).flatMap slC), .blk b2 [r.v] 105]) (fun _ _ => rfl)
    (fun k _ _ => k ≤ m) (fun _ _ => []) (fun _ _ => rfl) (fun _ _ _ => False) ⟨none, 0, 0⟩ (Sub.refl _) (by simpa using H) (by omega) ?_ ?_ ?_
  · intro y hy
    obtain ⟨i, _, rfl⟩ := List.mem_map.1 hy
    rfl
  · clear H
    rintro L k x w r V3 hx hV3 hF H
    have hk : k < m := by
      have := (List.getElem?_eq_some_iff.1 hx).1
      rwa [chunks_len] at this
    rw [chunks_at hk] at hx
    cases hx
    (conv => whnf)
    refine ⟨rfl, Keep.refl _ _, fun w' htw => ?_⟩
    obtain ⟨X, H, hX⟩ := (H.tw rfl hB htw).marks rfl hB
    simp only [List.cons_append, List.nil_append] at H
    clear htw
    generalize w' = w at H hX ⊢
    (first | (refine H.wg ?_; clear H; intros; rename_i w H; constructor) | refine wk ?_)
    refine Rel.app1_0 (f := slC) (l := (List.range k).map (chSl s n)) (x := chSl s n k) tabOk rfl rfl rfl rfl rfl (by decide) (fun _ => rfl) (by simp [Value.oneCell']) H (by rw [List.length_map, List.length_range]; show (k + 1) * 24 ≤ _; omega) (by rw [List.length_map, List.length_range]; omega) ?_
    clear H
    intro r1 w H
    (first | (refine H.wg ?_; clear H; intros; rename_i w H; constructor) | refine wk ?_)
    rw [show (List.range k).map (chSl s n) ++ [chSl s n k] = (List.range (k + 1)).map (chSl s n) by rw [List.range_succ, List.map_append]; rfl] at H
    exact ⟨hX _ (fun r hr => H.laid r (by simp [hr])), V3, r1, hV3, hk, H.sx⟩
  · clear H
    rintro D w r V3 hV3 hF H
    simp only [List.cons_append, List.nil_append] at H
    rw [chunks_len] at H
    (first | (refine H.wg ?_; clear H; intros; rename_i w H; constructor) | refine wk ?_)
    refine ⟨H.mark (by simp), fun w' ht => ?_⟩
    replace H := H.unmark (own' := [.row r 22 1 (((List.range m).map (chSl s n)).flatMap slC)]) (by repeat (first | exact List.Sublist.refl _ | refine List.Sublist.cons_cons _ ?_ | refine List.Sublist.cons _ ?_ | exact List.nil_sublist _)) rfl (by simp; rfl) ht
    generalize w' = w at H
    (first | (refine H.wg ?_; clear H; intros; rename_i w H; constructor) | refine wk ?_)
    exact ⟨r, rfl, H.less (Sub.refl _) hV3⟩
  · rintro D c w t V3 hV3 hF
    exact hF.elim
set_option maxRecDepth 100000 in
theorem collect_spec (hV : Sub V W) {b c : Nat} {s : Sl} {l : List UInt8} {n m : Nat} (hb : Blk V b [s.v] 22) (hc : Blk V c [iv n] 3) (hs : Byt V s l) (hl : l.length ≤ 1000000000) (hn : 1 ≤ n) (hnl : n ≤ 1000000000) (hm : Cnt m n l.length) (hm2 : m ≤ 1000000) :
    Ret Tryz.prog 66 [.func (.func 68) #[] #[.pointer (some ⟨b, 0, none⟩), .pointer (some ⟨c, 0, none⟩)]].toArray W fun v w' => ∃ r : Sl, v = r.v ∧ Rel W V [.row r 22 1 (((List.range m).map (chSl s n)).flatMap slC)] V w' := by
  have H := Rel.start hV
  refine cal_of_vc tabOk Tryz.func66 rfl (by kernel_rfl) 5 rfl (by simp) [0, 2] ?_
  (first | (refine H.wg ?_; clear H; intros; rename_i w H; constructor) | refine wk ?_)
  refine (appendSeq_spec H.data hb hc hs hl hn hnl hm hm2).use ?_
  rintro v w ⟨r, rfl, K⟩
  (have hKb := K.base; replace H := Rel.call H K)
  simp only [List.append_nil] at H
  (first | (refine H.wg ?_; clear H; intros; rename_i w H; constructor) | refine wk ?_)
  exact ⟨r, rfl, H⟩
/-- l with its first and its last k elements exchanged -/
structure RevTo {α : Type} (l : List α) (k : Nat) (L : List α) : Prop where
  len : L.length = l.length
  out : ∀ i, i < l.length → (i < k ∨ l.length < i + 1 + k) → L[i]? = l[l.length - 1 - i]?
  mid : ∀ i, k ≤ i → i + 1 + k ≤ l.length → L[i]? = l[i]?
theorem RevTo.start {α : Type} (l : List α) : RevTo l 0 l := ⟨rfl, fun i h1 h2 => by omega, fun i _ _ => rfl⟩
theorem RevTo.done {α : Type} {l L : List α} {k : Nat} (R : RevTo l k L) (h : l.length ≤ 2 * k + 1) (hk : 2 * k ≤ l.length + 1) : L = l.reverse := by
  refine List.ext_getElem? fun i => ?_
  by_cases hi : i < l.length
  · rw [List.getElem?_reverse hi]
    by_cases ho : i < k ∨ l.length < i + 1 + k
    · exact R.out i hi ho
    · rw [R.mid i (by omega) (by omega), show l.length - 1 - i = i by omega]
  · rw [List.getElem?_eq_none (by rw [R.len]; omega), List.getElem?_eq_none (by simp; omega)]
theorem RevTo.step {α : Type} {l L : List α} {k : Nat} (R : RevTo l k L) (h : 2 * k + 1 < l.length) {x y : α} (hx : L[k]? = some x) (hy : L[l.length - 1 - k]? = some y) : RevTo l (k + 1) ((L.set k y).set (l.length - 1 - k) x) := by
  have hL := R.len
  have e1 : l[k]? = some x := by rw [← R.mid k (Nat.le_refl _) (by omega)]; exact hx
  have e2 : l[l.length - 1 - k]? = some y := by rw [← R.mid _ (by omega) (by omega)]; exact hy
  refine ⟨by simp [hL], fun i hi ho => ?_, fun i h1 h2 => ?_⟩
  · rw [List.getElem?_set, List.length_set, List.getElem?_set]
    by_cases ha : l.length - 1 - k = i
    · rw [if_pos ha, if_pos (by omega), show l.length - 1 - i = k by omega, e1]
    · rw [if_neg ha]
      by_cases hb : k = i
      · rw [if_pos hb, if_pos (by omega), ← hb, e2]
      · rw [if_neg hb]
        exact R.out i hi (by omega)
  · rw [List.getElem?_set_ne (by omega), List.getElem?_set_ne (by omega)]
    exact R.mid i (by omega) (by omega)
theorem slC_set (l : List Sl) (j : Nat) (x : Sl) : (l.flatMap slC).set j x.v = (l.set j x).flatMap slC := by
  have e : ∀ l : List Sl, l.flatMap slC = l.map Sl.v := fun l => by induction l with | nil => rfl | cons _ _ ih => simp [List.flatMap_cons, ih]
  rw [e, e, List.map_set]
set_option maxRecDepth 100000 in
theorem reverse_spec {w0 V0 : World} {own : List Res} {s : Sl} {l : List Sl} (H : Rel w0 V0 (.row s 22 1 (l.flatMap slC) :: own) V W) (hl : l.length ≤ 1000000) :
    Ret Tryz.prog 67 [s.v].toArray W fun v w' => Rel w0 V0 (.row s 22 1 (l.reverse.flatMap slC) :: own) V w' := by
  have hlen : s.len = l.length := H.rowLen (i := 0) rfl (fun _ => rfl) (by decide)
  refine cal_of_vc tabOk Tryz.func67 rfl (by kernel_rfl) 28 rfl (by simp) [0, 2, 3, 9] ?_
  (first | (refine H.wg ?_; clear H; intros; rename_i w H; constructor) | refine wk ?_)
  refine loop_inv (S := Nat × List Sl) tabOk [0] (fun q => [(2, iv q.1), (3, iv ((l.length : Int) - 1 - q.1))]) (fun q w' => RevTo l q.1 q.2 ∧ 2 * q.1 ≤ l.length + 1 ∧ Rel w0 V0 (.row s 22 1 (q.2.flatMap slC) :: own) V w') (fun q _ => l.length + 1 - 2 * q.1) (0, l) ?_
  (conv => whnf)
  refine ⟨⟨rfl, by rw [hlen]; simp [get?], trivial⟩, ⟨RevTo.start l, by omega, H⟩, ?_⟩
  clear H
  rintro ⟨k, L⟩ w ⟨R, hk, H⟩
  dsimp only at R hk H ⊢
  have hL := R.len
  by_cases hlt : 2 * k + 1 < l.length
  · (first | (refine H.wg ?_; clear H; intros; rename_i w H; constructor) | refine wk ?_)
    ((first | refine draw_vc (id := 3) tabOk mixed [] [0, 1, 2, 3, 4, 5, 6, 7, 8, 9, 10, 11, 12, 13, 14, 15] (by kernel_rfl) ?_); intro w hdw; replace H := Rel.ext H hdw.ext)
    have S5 := H.slfAt (i := 0) rfl (fun _ => rfl) (by decide)
    obtain ⟨p1, c1⟩ := S5.at1 (g := Sl.v) (fun _ => rfl) (show k < L.length by omega)
    obtain ⟨p2, c2⟩ := S5.at1 (g := Sl.v) (fun _ => rfl) (show l.length - 1 - k < L.length by omega)
    have c2' : w.cell? ⟨ablk s.a, aoff s.a + ((l.length : Int) - 1 - k).toNat, none⟩ = some (L[l.length - 1 - k]'(by omega)).v := by
      rw [show ((l.length : Int) - 1 - k).toNat = l.length - 1 - k by omega]
      exact c2
    (first | (refine H.wg ?_; clear H; intros; rename_i w H; constructor) | refine wk ?_)
    refine Rel.stRow (i := 0) H rfl k (by omega) rfl rfl ?_
    clear H
    intro w H
    simp only [List.set_cons_zero] at H
    rw [slC_set] at H
    (first | (refine H.wg ?_; clear H; intros; rename_i w H; constructor) | refine wk ?_)
    refine Rel.stRow (i := 0) H rfl (l.length - 1 - k) (by omega) rfl (by
      rw [show ((l.length : Int) - 1 - k).toNat = l.length - 1 - k by omega]
      rfl) ?_
    clear H
    intro w H
    simp only [List.set_cons_zero] at H
    rw [slC_set] at H
    (first | (refine H.wg ?_; clear H; intros; rename_i w H; constructor) | refine wk ?_)
    refine ⟨(by repeat (first | exact trivial | refine ⟨rfl, ?_⟩)), (k + 1, _), ?_, ⟨R.step hlt (List.getElem?_eq_getElem (by omega)) (List.getElem?_eq_getElem (by omega)), by dsimp only; omega, H⟩, by dsimp only; omega⟩
    exact ⟨by simp [get?], by simp only [get?]; congr 2; omega, trivial⟩
  · (first | (refine H.wg ?_; clear H; intros; rename_i w H; constructor) | refine wk ?_)
    rw [← R.done (by omega) hk]
    exact H
end
end Go.Proofs.YtgnaojphgdaalaaGreat
