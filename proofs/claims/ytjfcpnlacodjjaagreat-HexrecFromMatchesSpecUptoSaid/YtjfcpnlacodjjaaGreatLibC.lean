/-
  slices.Chunk, Collect, Reverse.
-/
import Derived.Test.YtjfcpnlacodjjaaGreatCnvR
import Derived.Test.YtjfcpnlacodjjaaGreatVcX
import Derived.Test.YtjfcpnlacodjjaaGreatVcQ
import Derived.Test.YtjfcpnlacodjjaaGreatLibD
namespace Go.Proofs.YtjfcpnlacodjjaaGreat
open Go Go.RowKit

theorem sem_min {P : Program} {w : World} {ts : Array TypeId} {t : TypeId} {k k' : IntKind} {x y : Int} {K : Value → World → Prop} (m : Int) (hm : m ≤ x ∧ m ≤ y ∧ (m = x ∨ m = y)) (h : K (.int k m) w) : SemOk P (Builtin.min_ ts t #[.int k x, .int k' y]) w K :=
  .of (run_min_int2 w ts t k k' x y) (by rw [show (if y < x then y else x) = m by split <;> omega]; exact h)
/-- the places at which pieces of n begin -/
abbrev Cnt (m n len : Nat) : Prop := ∀ i, i < m ↔ i * n < len
theorem cnt_mul {h n : Nat} (hn : 1 ≤ n) : Cnt h n (h * n) := fun i => by
  constructor
  · intro hi
    have : (i + 1) * n ≤ h * n := Nat.mul_le_mul_right n hi
    rw [Nat.add_mul] at this
    omega
  · intro hi
    exact Nat.lt_of_mul_lt_mul_right hi
/-- piece i of a slice -/
def chSl (s : Sl) (n i : Nat) : Sl := ⟨subA s.a (i * n) (i * n + min n (s.len - i * n)) 1, min n (s.len - i * n), min n (s.len - i * n)⟩
def chOf {α : Type} (l : List α) (n i : Nat) : List α := (l.drop (i * n)).take n
theorem chSl_byt {V : World} {s : Sl} {l : List UInt8} (hs : Byt V s l) {n i : Nat} (hn : 1 ≤ n) (hi : i * n < l.length) : Byt V (chSl s n i) (chOf l n i) := by
  have hl := hs.len
  have h0 := hs.at1 (g := bv) (fun _ => rfl) hi
  refine ⟨by simp only [chSl, chOf, List.length_take, List.length_drop]; omega, Nat.le_refl _, fun _ => ?_, fun j v hj => ?_⟩
  · exact (subA_plain h0.1 : Plain (subA s.a _ _ _))
  · have hj2 : j < n ∧ i * n + j < l.length ∧ v = bv (l[i * n + j]?.getD 0) := by
      rw [byC_map] at hj
      obtain ⟨q1, q2⟩ := List.getElem?_eq_some_iff.1 hj
      simp only [chOf, List.length_map, List.length_take, List.length_drop] at q1
      refine ⟨by omega, by omega, ?_⟩
      rw [← q2]
      simp only [chOf, List.getElem_map, List.getElem_take, List.getElem_drop]
      rw [List.getElem?_eq_getElem (by omega)]
      rfl
    obtain ⟨g1, g2, g3⟩ := hj2
    obtain ⟨_, c⟩ := hs.at1 (g := bv) (fun _ => rfl) g2
    simp only [chSl]
    rw [subA_blk, subA_off h0.1 (by omega), g3, List.getElem?_eq_getElem g2, Nat.add_assoc, Nat.mul_one]
    exact c
def chunks (s : Sl) (n m : Nat) : List (List Value) := (List.range m).map fun i => [(chSl s n i).v]
theorem chunks_len (s : Sl) (n m : Nat) : (chunks s n m).length = m := by simp [chunks]
theorem chunks_at {s : Sl} {n m k : Nat} (hk : k < m) : (chunks s n m)[k]? = some [(chSl s n k).v] := by
  simp [chunks, List.getElem?_map, List.getElem?_range hk]
section
variable {V W : World}
theorem chunks_spec (hV : Sub V W) (s : Sl) {n : Nat} (hn : 1 ≤ n) : Ret Tryz.prog 70 [s.v, iv (n : Int)].toArray W fun v w' => ∃ b c, v = .func (.func 82) #[] #[.pointer (some ⟨b, 0, none⟩), .pointer (some ⟨c, 0, none⟩)] ∧ ∃ V', Sub V V' ∧ Rel W V [] V' w' ∧ Blk V' b [s.v] 22 ∧ Blk V' c [iv n] 3 := by
  have H := Rel.start hV
  refine cal_of_vc tabOk Tryz.func70 rfl (by kernel_rfl) 9 rfl (by simp) [0, 1, 2, 3, 4, 6] ?_
  (first | (refine H.wh ?_; clear H; intros; rename_i w H; constructor) | refine wk ?_)
  ((first | refine Rel.nwD H ?_ | refine Rel.nw H ?_); clear H; intro w b H)
  (first | (refine H.wh ?_; clear H; intros; rename_i w H; constructor) | refine wk ?_)
  ((first | refine Rel.nwD H ?_ | refine Rel.nw H ?_); clear H; intro w c H)
  (first | (refine H.wg ?_; clear H; intros; rename_i w H; constructor) | refine wk ?_)
  obtain ⟨V1, h1, H, k1⟩ := H.freezeBlk
  obtain ⟨V2, h2, H, k2⟩ := H.freezeBlk
  have k1' := k1.cells.sub' h2
  refine ⟨b, c, rfl, V2, h1.trans h2, H, k2, ?_⟩
  exact h2.cel _ _ _ _ k1
set_option maxRecDepth 100000 in
theorem chunk_iter {b c : Nat} {s : Sl} {l : List UInt8} {n m : Nat} (hb : Blk V b [s.v] 22) (hc : Blk V c [iv n] 3) (hs : Byt V s l) (hl : l.length ≤ 1000000000) (hn : 1 ≤ n) (hnl : n ≤ 1000000000) (hm : Cnt m n l.length) :
    IterOk Tryz.prog 82 [.pointer (some ⟨b, 0, none⟩), .pointer (some ⟨c, 0, none⟩)] (chunks s n m) (fun W => Sub V W) := by
  refine ⟨enters_mk Tryz.func82 rfl (by kernel_rfl), ?_⟩
  intro L W J Jx hS hJ hJx hround h0
  have hlen := hs.len
  have hcap := hs.cap
  have hb0 := hb.cel (i := 0) rfl
  have hc0 := hc.cel (i := 0) rfl
  refine cal_of_vc tabOk Tryz.func82 rfl (by kernel_rfl) 31 rfl (by simp) [0, 1, 2, 4, 5, 9, 30] ?_
  (refine wk ?_)
  refine loop_inv tabOk [0, 1, 2] (fun k : Nat => [(4, .int .i64 ((k * n : Nat) : Int))]) (fun k w' => k ≤ m ∧ J k w') (fun k _ => m - k) 0 ?_
  (conv => whnf)
  refine ⟨⟨by simp [get?], trivial⟩, ⟨by omega, h0⟩, ?_⟩
  rintro k w ⟨hk, hj⟩
  have H := Rel.start (hS _ _ hj)
  by_cases hlt : k < m
  · have hkl := (hm k).1 hlt
    (first | (refine H.wg ?_; clear H; intros; rename_i w H; constructor) | refine wk ?_)
    ((first | refine draw_vc (id := 3) tabOk mixed [] [0, 1, 2, 3, 4, 5, 6] (by kernel_rfl) ?_); intro w hdw; replace H := Rel.ext H hdw.ext)
    (first | (refine H.wg ?_; clear H; intros; rename_i w H; constructor) | refine wk ?_)
    refine sem_min ((min n (s.len - k * n) : Nat) : Int) (by omega) ?_
    (first | (refine H.wg ?_; clear H; intros; rename_i w H; constructor) | refine wk ?_)
    have hy := hround k [(chSl s n k).v] w (chunks_at hlt) (hJ _ _ _ hj H.base)
    have ev : (chSl s n k).v = Value.slice (subA s.a (((k * n : Nat) : Int)).toNat ((((k * n : Nat) : Int)) + ((min n (s.len - k * n) : Nat) : Int)).toNat 1) (((((k * n : Nat) : Int)) + ((min n (s.len - k * n) : Nat) : Int)).toNat - (((k * n : Nat) : Int)).toNat) (((((k * n : Nat) : Int)) + ((min n (s.len - k * n) : Nat) : Int)).toNat - (((k * n : Nat) : Int)).toNat) := by
      have e1 : (((k * n : Nat) : Int) + ((min n (s.len - k * n) : Nat) : Int)).toNat = k * n + min n (s.len - k * n) := by omega
      rw [e1, Int.toNat_natCast, show k * n + min n (s.len - k * n) - k * n = min n (s.len - k * n) by omega]
      rfl
    rw [ev] at hy
    refine hy.mono ?_
    rintro r w3 ⟨ht, hf⟩
    clear H
    (conv => whnf)
    refine condG_split (fun h6 => ?_) (fun h6 => ?_)
    · (conv => whnf)
      exact .inr (hf (by simpa using h6))
    · have hj2 := ht (by simpa using h6)
      have H := Rel.start (hS _ _ hj2)
      have e3 : ((k * n : Nat) : Int) + (n : Int) = (((k + 1) * n : Nat) : Int) := by rw [Nat.add_mul]; omega
      have hkn : k * n ≤ 1000000000 := by omega
      (first | (refine H.wg ?_; clear H; intros; rename_i w H; constructor) | refine wk ?_)
      rw [e3]
      exact ⟨(by repeat (first | exact trivial | refine ⟨rfl, ?_⟩)), k + 1, (by repeat (first | exact trivial | refine ⟨rfl, ?_⟩)), ⟨by omega, hj2⟩, by omega⟩
  · have hkl : ¬ k * n < l.length := fun h => hlt ((hm k).2 h)
    (first | (refine H.wg ?_; clear H; intros; rename_i w H; constructor) | refine wk ?_)
    rw [show k = m by omega, ← chunks_len s n m] at hj
    exact .inl hj
end
end Go.Proofs.YtjfcpnlacodjjaaGreat
