/-
  Common.
-/
import Derived.Test.YtkmnncajfhamhaaPieE
import Derived.Laws.Small
namespace Go.Proofs.Ytkmnncajfhamhaa
open Go Go.RowKit

/-- i is the first below n where eq fails, or n -/
structure Run (n : Nat) (eq : Nat → Prop) (i : Nat) : Prop where
  le : i ≤ n
  all : ∀ j, j < i → eq j
  stop : i < n → ¬ eq i
theorem Run.unique {n : Nat} {eq : Nat → Prop} {i j : Nat} (h : Run n eq i) (k : Run n eq j) : i = j := by
  rcases Nat.lt_trichotomy i j with h1 | h1 | h1
  · exact absurd (k.all i h1) (h.stop (by have := k.le; omega))
  · exact h1
  · exact absurd (h.all j h1) (k.stop (by have := h.le; omega))

theorem sem_min {P : Program} {w : World} {ts : Array TypeId} {t : TypeId} {k k' : IntKind} {x y : Int} {K : Value → World → Prop} (m : Int) (hm : m ≤ x ∧ m ≤ y ∧ (m = x ∨ m = y)) (h : K (.int k m) w) : SemOk P (Builtin.min_ ts t #[.int k x, .int k' y]) w K :=
  .of (run_min_int2 w ts t k k' x y) (by rw [show (if y < x then y else x) = m by split <;> omega]; exact h)
theorem common1 {w : World} {g b7 b9 : Nat} {A B : Sl} {eq : Nat → Prop} [DecidablePred eq] (h7 : Blk w b7 [A.v] 29) (h9 : Blk w b9 [B.v] 29) (hA : A.len ≤ 1099511627776) 
    (hg : ∀ W (i : Nat), Ext w W → i < A.len → i < B.len → Ret Try.prog g [iv i, .pointer (some ⟨b7, 0, none⟩), .pointer (some ⟨b9, 0, none⟩)].toArray W fun v W' => v = .bool (decide (eq i)) ∧ Ext W W') :
    Ret Try.prog 24 [.func (.func g) #[] #[.pointer (some ⟨b7, 0, none⟩), .pointer (some ⟨b9, 0, none⟩)], .pointer (some ⟨b7, 0, none⟩), .pointer (some ⟨b9, 0, none⟩)].toArray w fun v w' => ∃ i : Nat, v = iv i ∧ Ext w w' ∧ Run (min A.len B.len) eq i := by
  refine cal_of_vc tabOk Try.func24 rfl (by kernel_rfl) 21 rfl (by simp) [0, 1, 2, 4, 5, 17] ?_
  (conv => whnf)
  refine loop_inv tabOk [0, 1, 2, 4] (fun k : Nat => [(5, .int .i64 k)]) (fun k w' => (k ≤ A.len ∧ k ≤ B.len) ∧ (∀ j, j < k → eq j) ∧ Ext w w') (fun k _ => A.len - k) 0 ?_
  (conv => whnf)
  refine ⟨(by repeat (first | exact trivial | refine ⟨rfl, ?_⟩)), ⟨by omega, by omega, Ext.refl _⟩, ?_⟩
  rintro k w1 ⟨hk, hj, he⟩
  have c7 : w1.cell? ⟨b7, 0, none⟩ = some A.v := (h7.ext he).cell 0
  have c9 : w1.cell? ⟨b9, 0, none⟩ = some B.v := (h9.ext he).cell 0
  ((repeat ((conv => whnf); first | refine And.intro (by first | omega | assumption | exact rfl) ?_ | refine Exists.intro _ (And.intro (by assumption) ?_) | refine Exists.intro _ (Exists.intro _ (And.intro (by assumption) ?_)) | refine Exists.intro _ (And.intro (Blk.cel (by assumption) (by rfl)) ?_))); (conv => whnf))
  refine sem_min ((min A.len B.len : Nat) : Int) (by omega) ?_
  (conv => whnf)
  refine condG_dec (fun h4 => ?_) (fun h4 => ?_)
  · (conv => whnf)
    refine (hg w1 k he (by omega) (by omega)).use ?_
    rintro v w2 ⟨rfl, he2⟩
    (conv => whnf)
    refine condG_dec (fun h5 => ?_) (fun h5 => ?_)
    · ((repeat ((conv => whnf); refine And.intro (by omega) ?_)); (conv => whnf))
      refine ⟨rfl, (by repeat (first | exact trivial | refine ⟨rfl, ?_⟩)), k + 1, (by repeat (first | exact trivial | refine ⟨rfl, ?_⟩)), ⟨by omega, ?_, he.trans he2⟩, by omega⟩
      intro j hjk
      by_cases e : j = k
      · subst e; exact h5
      · exact hj j (by omega)
    · (conv => whnf)
      exact ⟨k, rfl, he.trans he2, by omega, hj, fun _ => h5⟩
  · (conv => whnf)
    exact ⟨k, rfl, he, by omega, hj, fun h => by omega⟩
theorem common2 {w : World} {b7 b9 : Nat} {A B : Sl} {a b : List (List UInt8)} (h7 : Blk w b7 [A.v] 29) (h9 : Blk w b9 [B.v] 29) (hA : Ch w A a) (hB : Ch w B b) (i : Nat) (hi : i < A.len) (hi' : i < B.len) :
    Ret Try.prog 25 [iv i, .pointer (some ⟨b7, 0, none⟩), .pointer (some ⟨b9, 0, none⟩)].toArray w fun v w' => v = .bool (decide (a[i]? = b[i]?)) ∧ Ext w w' := by
  have hla := hA.len
  have hlb := hB.len
  refine cal_of_vc tabOk Try.func25 rfl (by kernel_rfl) 14 rfl (by simp) [0, 1, 2, 4] ?_
  (conv => whnf)
  refine draw_vc tabOk mixed [] [0, 1, 2, 3, 4, 5, 6, 7, 8, 9] (by kernel_rfl) ?_
  intro w1 hd
  have he := hd.ext
  have c7 : w1.cell? ⟨b7, 0, none⟩ = some A.v := (h7.ext he).cell 0
  have c9 : w1.cell? ⟨b9, 0, none⟩ = some B.v := (h9.ext he).cell 0
  obtain ⟨p1, x, hx, hxb⟩ := (hA.ext he).get (i := i) (by omega)
  obtain ⟨p2, y, hy, hyb⟩ := (hB.ext he).get (i := i) (by omega)
  ((repeat ((conv => whnf); first | refine And.intro (by first | omega | assumption | exact rfl) ?_ | refine Exists.intro _ (And.intro (by assumption) ?_) | refine Exists.intro _ (Exists.intro _ (And.intro (by assumption) ?_)) | refine Exists.intro _ (And.intro (Blk.cel (by assumption) (by rfl)) ?_))); (conv => whnf))
  refine (bytes_equal hxb hyb).use ?_
  rintro v w2 ⟨rfl, rfl⟩
  (conv => whnf)
  refine ⟨?_, he⟩
  simp [show i < a.length by omega, show i < b.length by omega]
theorem common3 {w : World} {b7 b9 : Nat} {A B : Sl} {a b : List (List UInt8)} (h7 : Blk w b7 [A.v] 29) (h9 : Blk w b9 [B.v] 29) (hA : Ch w A a) (hB : Ch w B b) (hla' : a.length ≤ 1099511627776) (hlb' : b.length ≤ 1099511627776) (i : Nat) (hi : i < A.len) (hi' : i < B.len) :
    Ret Try.prog 27 [iv i, .pointer (some ⟨b7, 0, none⟩), .pointer (some ⟨b9, 0, none⟩)].toArray w fun v w' => v = .bool (decide (a[a.length - 1 - i]? = b[b.length - 1 - i]?)) ∧ Ext w w' := by
  have hla := hA.len
  have hlb := hB.len
  refine cal_of_vc tabOk Try.func27 rfl (by kernel_rfl) 22 rfl (by simp) [0, 1, 2, 4] ?_
  (conv => whnf)
  refine draw_vc tabOk mixed [] [0, 1, 2, 3, 4, 5, 6, 7, 8, 9, 10, 11, 12, 13, 14, 15, 16, 17] (by kernel_rfl) ?_
  intro w1 hd
  have he := hd.ext
  have c7 : w1.cell? ⟨b7, 0, none⟩ = some A.v := (h7.ext he).cell 0
  have c9 : w1.cell? ⟨b9, 0, none⟩ = some B.v := (h9.ext he).cell 0
  obtain ⟨p1, x, hx, hxb⟩ := (hA.ext he).get (i := a.length - 1 - i) (by omega)
  obtain ⟨p2, y, hy, hyb⟩ := (hB.ext he).get (i := b.length - 1 - i) (by omega)
  rw [show a.length - 1 - i = ((A.len : Int) - 1 - i).toNat by omega] at hx
  rw [show b.length - 1 - i = ((B.len : Int) - 1 - i).toNat by omega] at hy
  ((repeat ((conv => whnf); first | refine And.intro (by first | omega | assumption | exact rfl) ?_ | refine Exists.intro _ (And.intro (by assumption) ?_) | refine Exists.intro _ (Exists.intro _ (And.intro (by assumption) ?_)) | refine Exists.intro _ (And.intro (Blk.cel (by assumption) (by rfl)) ?_))); (conv => whnf))
  refine (bytes_equal hxb hyb).use ?_
  rintro v w2 ⟨rfl, rfl⟩
  (conv => whnf)
  refine ⟨?_, he⟩
  simp [show a.length - 1 - i < a.length by omega, show b.length - 1 - i < b.length by omega]

theorem Ch.sub {w : World} {x : Sl} {ll : List (List UInt8)} (h : Ch w x ll) {a : Nat} (ha : a ≤ ll.length) : Ch w ⟨subA x.a a x.cap 1, x.len - a, x.cap - a⟩ (ll.drop a) := by
  have h1 := h.len
  have h2 := h.cap
  obtain ⟨hs, h3, h4, h5⟩ := h.ex
  refine ⟨by simp; omega, by dsimp only; omega, hs.drop a, by simp [h3], ?_, ?_⟩
  · have := h4.sub (i := a) (b := ll.length) (m := x.cap) 1 (by omega) ha
    rw [List.take_of_length_le (by simp; omega), Nat.mul_one, ← List.map_drop] at this
    exact this
  · intro i y l hy hl
    rw [List.getElem?_drop] at hy hl
    exact h5 _ y l hy hl
theorem common_spec {w : World} {x y : Sl} {a b : List UInt8} (hx : By w x a) (hy : By w y b) (ha : a.length ≤ 1099511627776) (hb : b.length ≤ 1099511627776) :
    Ret Try.prog 18 [x.v, y.v].toArray w fun v w' => Ext w w' ∧ ((2048 < a.length ∧ v = .tuple #[iv 0, iv 0, faultV 3 (-1)]) ∨ (a.length ≤ 2048 ∧ 2048 < b.length ∧ v = .tuple #[iv 0, iv 0, faultV 3 (-2)]) ∨
      (a.length ≤ 2048 ∧ b.length ≤ 2048 ∧ ∃ p s : Nat, v = .tuple #[iv p, iv s, faultV 0 0] ∧ Run (min (piecesS a).length (piecesS b).length) (fun j => (piecesS a)[j]? = (piecesS b)[j]?) p ∧
        Run (min ((piecesS a).length - p) ((piecesS b).length - p)) (fun j => (piecesS a)[(piecesS a).length - 1 - j]? = (piecesS b)[(piecesS b).length - 1 - j]?) s)) := by
  refine cal_of_vc tabOk Try.func18 rfl (by kernel_rfl) 49 rfl (by simp) [0, 1, 4, 5, 6, 7, 8, 9, 10, 11, 12, 20, 29] ?_
  have hE : Ext w w := Ext.refl w
  (conv => whnf)
  intro w1 b6 hn_b6
  have hz_w1 := hn_b6.size
  have hm_b6 := hn_b6.num
  have he_b6 := hn_b6.ext
  have k_b6 := hn_b6.blk
  replace hE := hE.byExt he_b6
  (conv => whnf)
  refine (split_spec (hx.ext hE) ha).use ?_
  rintro v w2 ⟨he2, hv⟩
  have hz_he2 := (he2).size
  replace hE := hE.byExt he2
  replace k_b6 := k_b6.byExt he2
  rcases hv with ⟨hla, rfl⟩ | ⟨hla, A, rfl, hA⟩
  · (conv => whnf)
    intro w3 b7 hn_b7
    have hz_w3 := hn_b7.size
    have hm_b7 := hn_b7.num
    have he_b7 := hn_b7.ext
    have k_b7 := hn_b7.blk
    replace hE := hE.byExt he_b7
    replace k_b6 := k_b6.byExt he_b7
    (conv => whnf)
    intro w4 b8 hn_b8
    have hz_w4 := hn_b8.size
    have hm_b8 := hn_b8.num
    have he_b8 := hn_b8.ext
    have k_b8 := hn_b8.blk
    replace hE := hE.byExt he_b8
    replace k_b6 := k_b6.byExt he_b8
    replace k_b7 := k_b7.byExt he_b8
    ((repeat ((conv => whnf); first | refine And.intro (by first | omega | assumption | exact rfl) ?_ | refine Exists.intro _ (And.intro (by assumption) ?_) | refine Exists.intro _ (Exists.intro _ (And.intro (by assumption) ?_)) | refine Exists.intro _ (And.intro (Blk.cel (by assumption) (by rfl)) ?_))); (conv => whnf))
    intro w5 hu_w5
    replace hu_w5 : Upd _ b7 _ _ _ := hu_w5
    have hz_w5 := hu_w5.size
    replace hE := hE.byUpd hu_w5 (by omega)
    replace k_b6 := k_b6.byUpd hu_w5 (by omega)
    replace k_b8 := k_b8.byUpd hu_w5 (by omega)
    replace k_b7 := hu_w5.blk k_b7.lt
    ((repeat ((conv => whnf); first | refine And.intro (by first | omega | assumption | exact rfl) ?_ | refine Exists.intro _ (And.intro (by assumption) ?_) | refine Exists.intro _ (Exists.intro _ (And.intro (by assumption) ?_)) | refine Exists.intro _ (And.intro (Blk.cel (by assumption) (by rfl)) ?_))); (conv => whnf))
    intro w6 hu_w6
    replace hu_w6 : Upd _ b8 _ _ _ := hu_w6
    have hz_w6 := hu_w6.size
    replace hE := hE.byUpd hu_w6 (by omega)
    replace k_b6 := k_b6.byUpd hu_w6 (by omega)
    replace k_b7 := k_b7.byUpd hu_w6 (by omega)
    replace k_b8 := hu_w6.blk k_b8.lt
    ((repeat ((conv => whnf); first | refine And.intro (by first | omega | assumption | exact rfl) ?_ | refine Exists.intro _ (And.intro (by assumption) ?_) | refine Exists.intro _ (Exists.intro _ (And.intro (by assumption) ?_)) | refine Exists.intro _ (And.intro (Blk.cel (by assumption) (by rfl)) ?_))); (conv => whnf))
    refine draw_vc tabOk mixed [] [0, 1, 2, 3] (by kernel_rfl) ?_
    intro w7 hd_w7
    have he_w7 := hd_w7.ext
    have hz_w7 := he_w7.size
    replace hE := hE.byExt he_w7
    replace k_b6 := k_b6.byExt he_w7
    replace k_b7 := k_b7.byExt he_w7
    replace k_b8 := k_b8.byExt he_w7
    ((repeat ((conv => whnf); first | refine And.intro (by first | omega | assumption | exact rfl) ?_ | refine Exists.intro _ (And.intro (by assumption) ?_) | refine Exists.intro _ (Exists.intro _ (And.intro (by assumption) ?_)) | refine Exists.intro _ (And.intro (Blk.cel (by assumption) (by rfl)) ?_))); (conv => whnf))
    intro w8 hu_w8
    replace hu_w8 : Upd _ b6 _ _ _ := hu_w8
    have hz_w8 := hu_w8.size
    replace hE := hE.byUpd hu_w8 (by omega)
    replace k_b7 := k_b7.byUpd hu_w8 (by omega)
    replace k_b8 := k_b8.byUpd hu_w8 (by omega)
    replace k_b6 := hu_w8.blk k_b6.lt
    ((repeat ((conv => whnf); first | refine And.intro (by first | omega | assumption | exact rfl) ?_ | refine Exists.intro _ (And.intro (by assumption) ?_) | refine Exists.intro _ (Exists.intro _ (And.intro (by assumption) ?_)) | refine Exists.intro _ (And.intro (Blk.cel (by assumption) (by rfl)) ?_))); (conv => whnf))
    exact .inl ⟨hla, rfl⟩
  have hM : Mid w1.heap.size w2 w2 := Mid.refl _ _
  (conv => whnf)
  intro w3 b7 hn_b7
  have hz_w3 := hn_b7.size
  have hm_b7 := hn_b7.num
  have he_b7 := hn_b7.ext
  have k_b7 := hn_b7.blk
  replace hE := hE.byExt he_b7
  replace k_b6 := k_b6.byExt he_b7
  replace hM := hM.byExt he_b7
  (conv => whnf)
  intro w4 b8 hn_b8
  have hz_w4 := hn_b8.size
  have hm_b8 := hn_b8.num
  have he_b8 := hn_b8.ext
  have k_b8 := hn_b8.blk
  replace hE := hE.byExt he_b8
  replace k_b6 := k_b6.byExt he_b8
  replace hM := hM.byExt he_b8
  replace k_b7 := k_b7.byExt he_b8
  ((repeat ((conv => whnf); first | refine And.intro (by first | omega | assumption | exact rfl) ?_ | refine Exists.intro _ (And.intro (by assumption) ?_) | refine Exists.intro _ (Exists.intro _ (And.intro (by assumption) ?_)) | refine Exists.intro _ (And.intro (Blk.cel (by assumption) (by rfl)) ?_))); (conv => whnf))
  intro w5 hu_w5
  replace hu_w5 : Upd _ b7 _ _ _ := hu_w5
  have hz_w5 := hu_w5.size
  replace hE := hE.byUpd hu_w5 (by omega)
  replace k_b6 := k_b6.byUpd hu_w5 (by omega)
  replace hM := hM.byUpd hu_w5 (by omega)
  replace k_b8 := k_b8.byUpd hu_w5 (by omega)
  replace k_b7 := hu_w5.blk k_b7.lt
  ((repeat ((conv => whnf); first | refine And.intro (by first | omega | assumption | exact rfl) ?_ | refine Exists.intro _ (And.intro (by assumption) ?_) | refine Exists.intro _ (Exists.intro _ (And.intro (by assumption) ?_)) | refine Exists.intro _ (And.intro (Blk.cel (by assumption) (by rfl)) ?_))); (conv => whnf))
  intro w6 hu_w6
  replace hu_w6 : Upd _ b8 _ _ _ := hu_w6
  have hz_w6 := hu_w6.size
  replace hE := hE.byUpd hu_w6 (by omega)
  replace k_b6 := k_b6.byUpd hu_w6 (by omega)
  replace hM := hM.byUpd hu_w6 (by omega)
  replace k_b7 := k_b7.byUpd hu_w6 (by omega)
  replace k_b8 := hu_w6.blk k_b8.lt
  ((repeat ((conv => whnf); first | refine And.intro (by first | omega | assumption | exact rfl) ?_ | refine Exists.intro _ (And.intro (by assumption) ?_) | refine Exists.intro _ (Exists.intro _ (And.intro (by assumption) ?_)) | refine Exists.intro _ (And.intro (Blk.cel (by assumption) (by rfl)) ?_))); (conv => whnf))
  refine (split_spec (hy.ext hE) hb).use ?_
  rintro v w7 ⟨he7, hv⟩
  have hz_he7 := (he7).size
  replace hE := hE.byExt he7
  replace k_b6 := k_b6.byExt he7
  replace hM := hM.byExt he7
  replace k_b7 := k_b7.byExt he7
  replace k_b8 := k_b8.byExt he7
  rcases hv with ⟨hlb, rfl⟩ | ⟨hlb, B, rfl, hB⟩
  · (conv => whnf)
    intro w8 b9 hn_b9
    have hz_w8 := hn_b9.size
    have hm_b9 := hn_b9.num
    have he_b9 := hn_b9.ext
    have k_b9 := hn_b9.blk
    replace hE := hE.byExt he_b9
    replace k_b6 := k_b6.byExt he_b9
    replace hM := hM.byExt he_b9
    replace k_b7 := k_b7.byExt he_b9
    replace k_b8 := k_b8.byExt he_b9
    ((repeat ((conv => whnf); first | refine And.intro (by first | omega | assumption | exact rfl) ?_ | refine Exists.intro _ (And.intro (by assumption) ?_) | refine Exists.intro _ (Exists.intro _ (And.intro (by assumption) ?_)) | refine Exists.intro _ (And.intro (Blk.cel (by assumption) (by rfl)) ?_))); (conv => whnf))
    intro w9 hu_w9
    replace hu_w9 : Upd _ b9 _ _ _ := hu_w9
    have hz_w9 := hu_w9.size
    replace hE := hE.byUpd hu_w9 (by omega)
    replace k_b6 := k_b6.byUpd hu_w9 (by omega)
    replace hM := hM.byUpd hu_w9 (by omega)
    replace k_b7 := k_b7.byUpd hu_w9 (by omega)
    replace k_b8 := k_b8.byUpd hu_w9 (by omega)
    replace k_b9 := hu_w9.blk k_b9.lt
    ((repeat ((conv => whnf); first | refine And.intro (by first | omega | assumption | exact rfl) ?_ | refine Exists.intro _ (And.intro (by assumption) ?_) | refine Exists.intro _ (Exists.intro _ (And.intro (by assumption) ?_)) | refine Exists.intro _ (And.intro (Blk.cel (by assumption) (by rfl)) ?_))); (conv => whnf))
    intro w10 hu_w10
    replace hu_w10 : Upd _ b8 _ _ _ := hu_w10
    have hz_w10 := hu_w10.size
    replace hE := hE.byUpd hu_w10 (by omega)
    replace k_b6 := k_b6.byUpd hu_w10 (by omega)
    replace hM := hM.byUpd hu_w10 (by omega)
    replace k_b7 := k_b7.byUpd hu_w10 (by omega)
    replace k_b9 := k_b9.byUpd hu_w10 (by omega)
    replace k_b8 := hu_w10.blk k_b8.lt
    ((repeat ((conv => whnf); first | refine And.intro (by first | omega | assumption | exact rfl) ?_ | refine Exists.intro _ (And.intro (by assumption) ?_) | refine Exists.intro _ (Exists.intro _ (And.intro (by assumption) ?_)) | refine Exists.intro _ (And.intro (Blk.cel (by assumption) (by rfl)) ?_))); (conv => whnf))
    refine (fault_pieces 3 (-2) _).use ?_
    rintro v w11 ⟨rfl, he11⟩
    have hz_he11 := (he11).size
    replace hE := hE.byExt he11
    replace k_b6 := k_b6.byExt he11
    replace hM := hM.byExt he11
    replace k_b7 := k_b7.byExt he11
    replace k_b8 := k_b8.byExt he11
    replace k_b9 := k_b9.byExt he11
    ((repeat ((conv => whnf); first | refine And.intro (by first | omega | assumption | exact rfl) ?_ | refine Exists.intro _ (And.intro (by assumption) ?_) | refine Exists.intro _ (Exists.intro _ (And.intro (by assumption) ?_)) | refine Exists.intro _ (And.intro (Blk.cel (by assumption) (by rfl)) ?_))); (conv => whnf))
    intro w12 hu_w12
    replace hu_w12 : Upd _ b6 _ _ _ := hu_w12
    have hz_w12 := hu_w12.size
    replace hE := hE.byUpd hu_w12 (by omega)
    replace hM := hM.byUpd hu_w12 (by omega)
    replace k_b7 := k_b7.byUpd hu_w12 (by omega)
    replace k_b8 := k_b8.byUpd hu_w12 (by omega)
    replace k_b9 := k_b9.byUpd hu_w12 (by omega)
    replace k_b6 := hu_w12.blk k_b6.lt
    ((repeat ((conv => whnf); first | refine And.intro (by first | omega | assumption | exact rfl) ?_ | refine Exists.intro _ (And.intro (by assumption) ?_) | refine Exists.intro _ (Exists.intro _ (And.intro (by assumption) ?_)) | refine Exists.intro _ (And.intro (Blk.cel (by assumption) (by rfl)) ?_))); (conv => whnf))
    exact .inr (.inl ⟨hla, hlb, rfl⟩)
  have hM' : Mid w6.heap.size w7 w7 := Mid.refl _ _
  (conv => whnf)
  intro w8 b9 hn_b9
  have hz_w8 := hn_b9.size
  have hm_b9 := hn_b9.num
  have he_b9 := hn_b9.ext
  have k_b9 := hn_b9.blk
  replace hE := hE.byExt he_b9
  replace k_b6 := k_b6.byExt he_b9
  replace hM := hM.byExt he_b9
  replace k_b7 := k_b7.byExt he_b9
  replace k_b8 := k_b8.byExt he_b9
  replace hM' := hM'.byExt he_b9
  ((repeat ((conv => whnf); first | refine And.intro (by first | omega | assumption | exact rfl) ?_ | refine Exists.intro _ (And.intro (by assumption) ?_) | refine Exists.intro _ (Exists.intro _ (And.intro (by assumption) ?_)) | refine Exists.intro _ (And.intro (Blk.cel (by assumption) (by rfl)) ?_))); (conv => whnf))
  intro w9 hu_w9
  replace hu_w9 : Upd _ b9 _ _ _ := hu_w9
  have hz_w9 := hu_w9.size
  replace hE := hE.byUpd hu_w9 (by omega)
  replace k_b6 := k_b6.byUpd hu_w9 (by omega)
  replace hM := hM.byUpd hu_w9 (by omega)
  replace k_b7 := k_b7.byUpd hu_w9 (by omega)
  replace k_b8 := k_b8.byUpd hu_w9 (by omega)
  replace hM' := hM'.byUpd hu_w9 (by omega)
  replace k_b9 := hu_w9.blk k_b9.lt
  ((repeat ((conv => whnf); first | refine And.intro (by first | omega | assumption | exact rfl) ?_ | refine Exists.intro _ (And.intro (by assumption) ?_) | refine Exists.intro _ (Exists.intro _ (And.intro (by assumption) ?_)) | refine Exists.intro _ (And.intro (Blk.cel (by assumption) (by rfl)) ?_))); (conv => whnf))
  intro w10 hu_w10
  replace hu_w10 : Upd _ b8 _ _ _ := hu_w10
  have hz_w10 := hu_w10.size
  replace hE := hE.byUpd hu_w10 (by omega)
  replace k_b6 := k_b6.byUpd hu_w10 (by omega)
  replace hM := hM.byUpd hu_w10 (by omega)
  replace k_b7 := k_b7.byUpd hu_w10 (by omega)
  replace hM' := hM'.byUpd hu_w10 (by omega)
  replace k_b9 := k_b9.byUpd hu_w10 (by omega)
  replace k_b8 := hu_w10.blk k_b8.lt
  ((repeat ((conv => whnf); first | refine And.intro (by first | omega | assumption | exact rfl) ?_ | refine Exists.intro _ (And.intro (by assumption) ?_) | refine Exists.intro _ (Exists.intro _ (And.intro (by assumption) ?_)) | refine Exists.intro _ (And.intro (Blk.cel (by assumption) (by rfl)) ?_))); (conv => whnf))
  have hA' := (hA.mid hM).ch
  have hB' := (hB.mid hM').ch
  have hAl := hA'.len
  have hBl := hB'.len
  have hAc := hA'.cap
  have hBc := hB'.cap
  have hpa : (piecesS a).length ≤ a.length := by simpa [piecesS] using cutS_len a a.length
  have hpb : (piecesS b).length ≤ b.length := by simpa [piecesS] using cutS_len b b.length
  refine (common1 (eq := fun j => (piecesS a)[j]? = (piecesS b)[j]?) k_b7 k_b9 (by omega) (fun W i he hi hi' => common2 (k_b7.ext he) (k_b9.ext he) (hA'.ext he) (hB'.ext he) i hi hi')).use ?_
  rintro v w11 ⟨p, rfl, he11, hp⟩
  have hz_he11 := (he11).size
  replace hE := hE.byExt he11
  replace k_b6 := k_b6.byExt he11
  replace hM := hM.byExt he11
  replace k_b7 := k_b7.byExt he11
  replace k_b8 := k_b8.byExt he11
  replace hM' := hM'.byExt he11
  replace k_b9 := k_b9.byExt he11
  have hpl := hp.le
  (conv => whnf)
  refine draw_vcX tabOk mixed (Sav [b7]) (fun _ _ _ => Sav.trans) [6] [3] [0, 1, 2, 3, 4, 5, 6, 7] (by kernel_rfl) ?_
  intro w12 hd_w12
  have he_w12 := hd_w12.ext
  have hz_w12 := he_w12.size
  replace hE := hE.byExt he_w12
  replace k_b6 := k_b6.byExt he_w12
  replace hM := hM.byExt he_w12
  replace k_b7 := k_b7.byExt he_w12
  replace k_b8 := k_b8.byExt he_w12
  replace hM' := hM'.byExt he_w12
  replace k_b9 := k_b9.byExt he_w12
  ((repeat ((conv => whnf); first | refine And.intro (by first | omega | assumption | exact rfl) ?_ | refine Exists.intro _ (And.intro (by assumption) ?_) | refine Exists.intro _ (Exists.intro _ (And.intro (by assumption) ?_)) | refine Exists.intro _ (And.intro (Blk.cel (by assumption) (by rfl)) ?_))); (conv => whnf))
  refine ⟨fun w' hr => ?_, ?_⟩
  · have k' := k_b9.bySav hr (by simp; omega)
    ((repeat ((conv => whnf); first | refine And.intro (by first | omega | assumption | exact rfl) ?_ | refine Exists.intro _ (And.intro (by assumption) ?_) | refine Exists.intro _ (Exists.intro _ (And.intro (by assumption) ?_)) | refine Exists.intro _ (And.intro (Blk.cel (by assumption) (by rfl)) ?_))); (conv => whnf))
  ((repeat ((conv => whnf); first | refine And.intro (by first | omega | assumption | exact rfl) ?_ | refine Exists.intro _ (And.intro (by assumption) ?_) | refine Exists.intro _ (Exists.intro _ (And.intro (by assumption) ?_)) | refine Exists.intro _ (And.intro (Blk.cel (by assumption) (by rfl)) ?_))); (conv => whnf))
  intro w13 hu_w13
  replace hu_w13 : Upd _ b7 _ _ _ := hu_w13
  have hz_w13 := hu_w13.size
  replace hE := hE.byUpd hu_w13 (by omega)
  replace k_b6 := k_b6.byUpd hu_w13 (by omega)
  replace hM := hM.byUpd hu_w13 (by omega)
  replace k_b8 := k_b8.byUpd hu_w13 (by omega)
  replace hM' := hM'.byUpd hu_w13 (by omega)
  replace k_b9 := k_b9.byUpd hu_w13 (by omega)
  replace k_b7 := hu_w13.blk k_b7.lt
  (conv => whnf)
  refine ⟨Sav.upd hu_w13 (by simp), ?_⟩
  ((repeat ((conv => whnf); first | refine And.intro (by first | omega | assumption | exact rfl) ?_ | refine Exists.intro _ (And.intro (by assumption) ?_) | refine Exists.intro _ (Exists.intro _ (And.intro (by assumption) ?_)) | refine Exists.intro _ (And.intro (Blk.cel (by assumption) (by rfl)) ?_))); (conv => whnf))
  intro w14 hu_w14
  replace hu_w14 : Upd _ b9 _ _ _ := hu_w14
  have hz_w14 := hu_w14.size
  replace hE := hE.byUpd hu_w14 (by omega)
  replace k_b6 := k_b6.byUpd hu_w14 (by omega)
  replace hM := hM.byUpd hu_w14 (by omega)
  replace k_b7 := k_b7.byUpd hu_w14 (by omega)
  replace k_b8 := k_b8.byUpd hu_w14 (by omega)
  replace hM' := hM'.byUpd hu_w14 (by omega)
  replace k_b9 := hu_w14.blk k_b9.lt
  ((repeat ((conv => whnf); first | refine And.intro (by first | omega | assumption | exact rfl) ?_ | refine Exists.intro _ (And.intro (by assumption) ?_) | refine Exists.intro _ (Exists.intro _ (And.intro (by assumption) ?_)) | refine Exists.intro _ (And.intro (Blk.cel (by assumption) (by rfl)) ?_))); (conv => whnf))
  have hA2 := (hA.mid hM).ch.sub (a := p) (by omega)
  have hB2 := (hB.mid hM').ch.sub (a := p) (by omega)
  refine (common1 (A := ⟨subA A.a p A.cap 1, A.len - p, A.cap - p⟩) (B := ⟨subA B.a p B.cap 1, B.len - p, B.cap - p⟩) (eq := fun j => ((piecesS a).drop p)[((piecesS a).drop p).length - 1 - j]? = ((piecesS b).drop p)[((piecesS b).drop p).length - 1 - j]?) k_b7 k_b9 (by dsimp only; omega) (fun W i he hi hi' => common3 (k_b7.ext he) (k_b9.ext he) (hA2.ext he) (hB2.ext he) (by simp; omega) (by simp; omega) i hi hi')).use ?_
  rintro v w15 ⟨s, rfl, he15, hs⟩
  have hz_he15 := (he15).size
  replace hE := hE.byExt he15
  replace k_b6 := k_b6.byExt he15
  replace hM := hM.byExt he15
  replace k_b7 := k_b7.byExt he15
  replace k_b8 := k_b8.byExt he15
  replace hM' := hM'.byExt he15
  replace k_b9 := k_b9.byExt he15
  skip
  ((repeat ((conv => whnf); first | refine And.intro (by first | omega | assumption | exact rfl) ?_ | refine Exists.intro _ (And.intro (by assumption) ?_) | refine Exists.intro _ (Exists.intro _ (And.intro (by assumption) ?_)) | refine Exists.intro _ (And.intro (Blk.cel (by assumption) (by rfl)) ?_))); (conv => whnf))
  intro w16 hu_w16
  replace hu_w16 : Upd _ b6 _ _ _ := hu_w16
  have hz_w16 := hu_w16.size
  replace hE := hE.byUpd hu_w16 (by omega)
  replace k_b7 := k_b7.byUpd hu_w16 (by omega)
  replace k_b8 := k_b8.byUpd hu_w16 (by omega)
  replace k_b9 := k_b9.byUpd hu_w16 (by omega)
  replace k_b6 := hu_w16.blk k_b6.lt
  ((repeat ((conv => whnf); first | refine And.intro (by first | omega | assumption | exact rfl) ?_ | refine Exists.intro _ (And.intro (by assumption) ?_) | refine Exists.intro _ (Exists.intro _ (And.intro (by assumption) ?_)) | refine Exists.intro _ (And.intro (Blk.cel (by assumption) (by rfl)) ?_))); (conv => whnf))
  refine .inr (.inr ⟨hla, hlb, p, s, rfl, by rw [← hAl, ← hBl]; exact hp, ?_⟩)
  have h1 := hs.le
  dsimp only at h1
  rw [← hAl, ← hBl]
  refine ⟨h1, fun j hj => ?_, fun hj => ?_⟩
  · have := hs.all j hj
    rw [List.getElem?_drop, List.getElem?_drop, List.length_drop, List.length_drop] at this
    rwa [show p + ((piecesS a).length - p - 1 - j) = A.len - 1 - j by omega, show p + ((piecesS b).length - p - 1 - j) = B.len - 1 - j by omega] at this
  · have := hs.stop hj
    rw [List.getElem?_drop, List.getElem?_drop, List.length_drop, List.length_drop] at this
    rwa [show p + ((piecesS a).length - p - 1 - s) = A.len - 1 - s by omega, show p + ((piecesS b).length - p - 1 - s) = B.len - 1 - s by omega] at this
end Go.Proofs.Ytkmnncajfhamhaa
