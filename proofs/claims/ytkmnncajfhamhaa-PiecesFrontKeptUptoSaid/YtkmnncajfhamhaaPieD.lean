/-
  Chunks, mayEnd, Ends, Pieces.
-/
import Derived.Test.YtkmnncajfhamhaaPieC
import Derived.Test.YtkmnncajfhamhaaVcF
namespace Go.Proofs.Ytkmnncajfhamhaa
open Go Go.RowKit

def mayEndM (l : List UInt8) (s e : Nat) : Bool := decide (24 ≤ e - s) && (decide (e - s = 120) || decide (wsum l e 8 % 37 = 5))
theorem isEndM_eq (l : List UInt8) (s e : Nat) : isEndM l s e = (decide (e = l.length) || mayEndM l s e) := rfl
/-- after k bytes: where the open piece begins, the pieces closed -/
def cutS (l : List UInt8) : Nat → Nat × List (Nat × Nat)
  | 0 => (0, [])
  | k + 1 => if isEndM l (cutS l k).1 (k + 1) then (k + 1, (cutS l k).2 ++ [((cutS l k).1, k + 1)]) else cutS l k
theorem cutS_le (l : List UInt8) (k : Nat) : (cutS l k).1 ≤ k := by
  induction k with
  | zero => simp [cutS]
  | succ k ih =>
    simp only [cutS]
    split
    · simp
    · omega
def endsS (l : List UInt8) (k : Nat) : List Int := (cutS l k).2.map fun p => (p.2 : Int)
def partOf (l : List UInt8) (p : Nat × Nat) : List UInt8 := (l.take p.2).drop p.1
theorem cutS_len (l : List UInt8) (k : Nat) : (cutS l k).2.length ≤ k := by
  induction k with
  | zero => simp [cutS]
  | succ k ih =>
    simp only [cutS]
    split
    · simp; omega
    · omega
theorem cutS_in (l : List UInt8) (k : Nat) : ∀ p ∈ (cutS l k).2, p.1 ≤ p.2 ∧ p.2 ≤ k := by
  induction k with
  | zero => simp [cutS]
  | succ k ih =>
    simp only [cutS]
    have := cutS_le l k
    split
    · intro p hp
      simp only [List.mem_append, List.mem_singleton] at hp
      rcases hp with h | h
      · have := ih p h; omega
      · subst h; simp; omega
    · intro p hp
      have := ih p hp; omega
/-- each piece begins where the one before ends -/
theorem cutS_link (l : List UInt8) (k : Nat) : ((cutS l k).2[0]?.map (·.1)).getD (cutS l k).1 = 0 ∧ ∀ i (p : Nat × Nat), (cutS l k).2[i]? = some p → ((cutS l k).2[i + 1]?.map (·.1)).getD (cutS l k).1 = p.2 := by
  induction k with
  | zero => simp [cutS]
  | succ k ih =>
    simp only [cutS]
    split
    · refine ⟨?_, ?_⟩
      · rcases h : (cutS l k).2 with _ | ⟨p, t⟩
        · have := ih.1; rw [h] at this; simpa using this
        · have := ih.1; rw [h] at this; simpa using this
      · intro i p hp
        rcases Nat.lt_trichotomy i (cutS l k).2.length with h | h | h
        · rw [List.getElem?_append_left h] at hp
          have := ih.2 i p hp
          by_cases h2 : i + 1 < (cutS l k).2.length
          · rw [List.getElem?_append_left h2]; simpa [h2] using this
          · rw [List.getElem?_append_right (by omega)]
            rw [List.getElem?_eq_none (by omega)] at this
            simpa [show i + 1 - (cutS l k).2.length = 0 by omega] using this
        · subst h
          rw [List.getElem?_append_right (by omega)] at hp
          simp at hp
          subst hp
          simp
        · rw [List.getElem?_append_right (by omega)] at hp
          rw [List.getElem?_eq_none (by simp; omega)] at hp
          cases hp
    · exact ih

theorem chunks_ref {w : World} {x y : Sl} {a b : List (List UInt8)} (hx : Ch w x a) (hy : Ch w y b) (ha : a.length ≤ 1099511627776) : Ret Try.prog 14 [x.v, y.v].toArray w fun v w' => v = .bool (decide (a = b)) ∧ Ext w w' := by
  have h1 := hx.len
  have h2 := hy.len
  refine cal_of_vc tabOk Try.func14 rfl (by kernel_rfl) 27 rfl (by simp) [0, 1, 4, 5, 10, 14, 26] ?_
  (conv => whnf)
  refine condG_dec (fun h => ?_) (fun h => ?_)
  · (conv => whnf)
    refine ⟨?_, Ext.refl _⟩
    have : a ≠ b := by intro e; subst e; omega
    simp [this]
  (conv => whnf)
  refine loop_inv tabOk [0, 1, 10] (fun k : Nat => [(5, .int .i64 k)]) (fun k w' => k ≤ a.length ∧ (∀ j, j < k → a[j]? = b[j]?) ∧ Ext w w') (fun k _ => a.length - k) 0 ?_
  (conv => whnf)
  refine ⟨(by repeat (first | exact trivial | refine ⟨rfl, ?_⟩)), ⟨by omega, by omega, Ext.refl _⟩, ?_⟩
  rintro k w1 ⟨hk, hj, he⟩
  (conv => whnf)
  refine condG_dec (fun h4 => ?_) (fun h4 => ?_)
  · have hka : k < a.length := by omega
    have hkb : k < b.length := by omega
    (conv => whnf)
    refine draw_vc tabOk mixed [] [0, 1, 2, 3, 4, 5, 6, 7, 8, 9] (by kernel_rfl) ?_
    intro w2 hd
    obtain ⟨hxp, xk, hxc, hxb⟩ := ((hx.ext he).ext hd.ext).get hka
    obtain ⟨hyp, yk, hyc, hyb⟩ := ((hy.ext he).ext hd.ext).get hkb
    ((repeat ((conv => whnf); first | refine And.intro (by first | omega | assumption | exact rfl) ?_ | refine Exists.intro _ (And.intro (by assumption) ?_) | refine Exists.intro _ (Exists.intro _ (And.intro (by assumption) ?_)) | refine Exists.intro _ (And.intro (Blk.cel (by assumption) (by rfl)) ?_))); (conv => whnf))
    refine (bytes_ref hxb hyb).use ?_
    rintro v w3 ⟨rfl, rfl⟩
    (conv => whnf)
    refine condG_ndec (fun h5 => ?_) (fun h5 => ?_)
    · (conv => whnf)
      refine ⟨?_, he.trans hd.ext⟩
      have : a ≠ b := by
        intro e; subst e
        exact h5 rfl
      simp [this]
    · ((repeat ((conv => whnf); refine And.intro (by omega) ?_)); (conv => whnf))
      refine ⟨rfl, (by repeat (first | exact trivial | refine ⟨rfl, ?_⟩)), k + 1, (by repeat (first | exact trivial | refine ⟨rfl, ?_⟩)), ⟨by omega, ?_, he.trans hd.ext⟩, by omega⟩
      intro j hjk
      by_cases e : j = k
      · subst e
        simp only [hka, hkb, List.getElem?_eq_getElem]
        exact congrArg some h5
      · exact hj j (by omega)
  · (conv => whnf)
    refine ⟨?_, he⟩
    have : a = b := by
      apply List.ext_getElem?
      intro j
      by_cases hjl : j < k
      · exact hj j hjl
      · rw [List.getElem?_eq_none (by omega), List.getElem?_eq_none (by omega)]
    simp [this]

theorem mayEnd_ref {w : World} {d : Sl} {l : List UInt8} (hd : By w d l) (hl : l.length ≤ 1099511627776) (s e : Nat) (h1 : s ≤ e) (h2 : e ≤ l.length) :
    Ret Try.prog 22 [d.v, .int .i64 s, .int .i64 e].toArray w fun v w' => v = .bool (mayEndM l s e) ∧ w' = w := by
  have hlen := hd.len
  refine cal_of_vc tabOk Try.func22 rfl (by kernel_rfl) 35 rfl (by simp) [0, 1, 2, 6, 7, 8, 12, 16, 18] ?_
  ((repeat ((conv => whnf); refine And.intro (by omega) ?_)); (conv => whnf))
  refine condG_dec (fun h => ?_) (fun h => ?_)
  · (conv => whnf)
    refine ⟨?_, rfl⟩
    simp only [mayEndM, show ¬ 24 ≤ e - s by omega, decide_false, Bool.false_and]
  ((repeat ((conv => whnf); refine And.intro (by omega) ?_)); (conv => whnf))
  refine condG_dec (fun h3 => ?_) (fun h3 => ?_)
  · (conv => whnf)
    refine ⟨?_, rfl⟩
    simp [mayEndM, show e - s = 120 by omega]
  (conv => whnf)
  refine loop_inv tabOk [0, 1, 2, 6, 12, 16] (fun k : Nat => [(7, .int .i64 (wsum l e k)), (8, .int .i64 ((k : Int) + 1))]) (fun k w' => k ≤ 8 ∧ w' = w) (fun k _ => 8 - k) 0 ?_
  (conv => whnf)
  refine ⟨(by repeat (first | exact trivial | refine ⟨rfl, ?_⟩)), ⟨by omega, rfl⟩, ?_⟩
  rintro k w' ⟨hk, rfl⟩
  have hb := wsum_bd l e k hk
  (conv => whnf)
  refine condG_dec (fun h4 => ?_) (fun h4 => ?_)
  · have hlt : e - 1 - k < l.length := by omega
    have hc := hd.cell hlt
    have hub := (l[e - 1 - k]).toNat_lt
    have hm : ((k : Int) + 1) * ((l[e - 1 - k]).toNat : Int) ≤ 8 * 255 := Int.mul_le_mul (by omega) (by omega) (by omega) (by omega)
    have hm0 : 0 ≤ ((k : Int) + 1) * ((l[e - 1 - k]).toNat : Int) := Int.mul_nonneg (by omega) (by omega)
    ((repeat ((conv => whnf); refine And.intro (by omega) ?_)); (conv => whnf))
    refine ⟨hd.plain hlt, ?_⟩
    (conv => whnf)
    rw [show ((e : Int) - ((k : Int) + 1)).toNat = e - 1 - k by omega]
    refine ⟨_, hc, ?_⟩
    ((repeat ((conv => whnf); refine And.intro (by omega) ?_)); (conv => whnf))
    refine ⟨rfl, (by repeat (first | exact trivial | refine ⟨rfl, ?_⟩)), k + 1, ?_, ⟨by omega, rfl⟩, by omega⟩
    have e1 : wsum l e (k + 1) = wsum l e k + ((k : Int) + 1) * ((l[e - 1 - k]).toNat : Int) := by simp [wsum, hlt]
    refine ⟨?_, ?_, trivial⟩
    · rw [e1]; rfl
    · rfl
  · have hk8 : k = 8 := by omega
    subst hk8
    ((repeat ((conv => whnf); refine And.intro (by omega) ?_)); (conv => whnf))
    refine ⟨?_, rfl⟩
    simp only [mayEndM, show 24 ≤ e - s by omega, show ¬ e - s = 120 by omega, decide_true, decide_false, Bool.false_or, Bool.true_and]

/-- a row of numbers made since block number B -/
structure NIn (B : Nat) (w : World) (s : Sl) (l : List Int) : Prop where
  row : Row w s 3 1 (l.map iv)
  new : s.a = none ∨ B ≤ ablk s.a
theorem NIn.in_ {B : Nat} {w : World} {s : Sl} {l : List Int} (h : NIn B w s l) : In w s l := ⟨by have := h.row.len; simp at this; omega, h.row.cells, h.row.cap⟩
theorem NIn.ext {B : Nat} {w w' : World} {s : Sl} {l : List Int} (h : NIn B w s l) (he : Ext w w') : NIn B w' s l := ⟨h.row.ext he, h.new⟩
theorem NIn.mid {B : Nat} {w w' : World} {s : Sl} {l : List Int} (h : NIn B w s l) (hm : Mid B w w') : NIn B w' s l := ⟨h.row.mid h.new hm, h.new⟩
theorem NIn.mono_mid {B B' : Nat} {w w' : World} {s : Sl} {l : List Int} (h : NIn B w s l) (hm : Mid B' w w') (hB : B' ≤ B := by omega) : NIn B w' s l := ⟨h.row.mid h.new ⟨hm.size, fun j c t f hj => hm.cel j c t f (by omega)⟩, h.new⟩
theorem NBy.ext {B : Nat} {w w' : World} {s : Sl} {l : List UInt8} (h : NBy B w s l) (he : Ext w w') : NBy B w' s l := ⟨h.row.ext he, h.new⟩
theorem app_int {B : Nat} {w : World} {s : Sl} {xs : List Int} {ty : TypeId} {b : Nat} {v : Int} {t' : TypeId} (hs : NIn B w s xs) (hB : B ≤ w.heap.size) (hb : Blk w b [iv v] t') (hl : xs.length ≤ 1099511627776)
    {k : Value → World → Prop} (hk : ∀ s' w', NIn B w' s' (xs ++ [v]) → Grew w s w' s' → Below B w w' → k s'.v w') : SemOk Try.prog (Builtin.append_ #[24, 24] ty #[s.v, .slice (some ⟨b, 0, none⟩) 1 1]) w k := by
  refine app_one tabOk rfl rfl rfl rfl rfl rfl hs.row hb rfl (by simp; omega) (by simp; omega) ?_
  intro s' w' hr hg
  exact hk s' w' ⟨by simpa using hr, Fresh.grew hs.new hB hg⟩ hg (hg.below hB hs.new)
theorem Row.grew {w : World} {s x : Sl} {e e' : TypeId} {sz sz' : Nat} {xs ys : List Value} {w' : World} {s' : Sl} (hr : Row w s e sz xs) (h : Row w x e' sz' ys) (hne : e' ≠ e) (hg : Grew w s w' s') : Row w' x e' sz' ys := by
  refine h.tw fun b hb => ?_
  rcases h.at_ with ⟨h1, _⟩ | ⟨b', cur, h1, h2, _⟩
  · rw [hb] at h1; cases h1
  rw [hb] at h1
  cases h1
  refine hg.block b (Array.getElem?_eq_some_iff.1 h2).1 ?_
  rcases hr.at_ with ⟨h1, _⟩ | ⟨b', cur', h1, h2', _⟩
  · exact .inl h1
  · refine .inr fun e => ?_
    rw [h1] at e
    simp only [ablk] at e
    subst e
    rw [h2] at h2'
    injection h2' with h2'
    injection h2' with h3 h4 h5
    exact hne h4
/-- rows of bytes in a row, all made since block number B -/
structure NCh (B : Nat) (w : World) (s : Sl) (ll : List (List UInt8)) : Prop where
  new : s.a = none ∨ B ≤ ablk s.a
  ex : ∃ hs : List Sl, hs.length = ll.length ∧ Row w s 22 1 (hs.map Sl.v) ∧ ∀ (i : Nat) (x : Sl) (l : List UInt8), hs[i]? = some x → ll[i]? = some l → NBy B w x l
theorem NCh.nil (B : Nat) (w : World) : NCh B w ⟨none, 0, 0⟩ [] := ⟨.inl rfl, [], rfl, Row.nil _ _ _, fun i x l h => by simp at h⟩
theorem NCh.ext {B : Nat} {w w' : World} {s : Sl} {ll : List (List UInt8)} (h : NCh B w s ll) (he : Ext w w') : NCh B w' s ll := by
  obtain ⟨hs, h1, h2, h3⟩ := h.ex
  exact ⟨h.new, hs, h1, h2.ext he, fun i x l hx hl => (h3 i x l hx hl).ext he⟩
theorem NCh.mid {B : Nat} {w w' : World} {s : Sl} {ll : List (List UInt8)} (h : NCh B w s ll) (hm : Mid B w w') : NCh B w' s ll := by
  obtain ⟨hs, h1, h2, h3⟩ := h.ex
  exact ⟨h.new, hs, h1, h2.mid h.new hm, fun i x l hx hl => (h3 i x l hx hl).mid hm⟩
theorem NCh.mono_mid {B B' : Nat} {w w' : World} {s : Sl} {ll : List (List UInt8)} (h : NCh B w s ll) (hm : Mid B' w w') (hB : B' ≤ B := by omega) : NCh B w' s ll :=
  h.mid ⟨hm.size, fun j c t f hj => hm.cel j c t f (by omega)⟩
theorem NCh.mono {B B' : Nat} {w : World} {s : Sl} {ll : List (List UInt8)} (h : NCh B w s ll) (hB : B' ≤ B) : NCh B' w s ll := by
  obtain ⟨hs, h1, h2, h3⟩ := h.ex
  exact ⟨h.new.imp id fun h => by omega, hs, h1, h2, fun i x l hx hl => ⟨(h3 i x l hx hl).row, (h3 i x l hx hl).new.imp id fun h => by omega⟩⟩
theorem NCh.ch {B : Nat} {w : World} {s : Sl} {ll : List (List UInt8)} (h : NCh B w s ll) : Ch w s ll := by
  obtain ⟨hs, h1, h2, h3⟩ := h.ex
  exact ⟨by have := h2.len; simp at this; omega, h2.cap, hs, h1, h2.cells, fun i x l hx hl => (h3 i x l hx hl).by_⟩
theorem app_sl {B : Nat} {w : World} {s x : Sl} {xs : List (List UInt8)} {l : List UInt8} {ty : TypeId} {b : Nat} {t' : TypeId} (hs : NCh B w s xs) (hx : NBy B w x l) (hB : B ≤ w.heap.size) (hb : Blk w b [x.v] t') (hl : xs.length ≤ 1099511627776)
    {k : Value → World → Prop} (hk : ∀ s' w', NCh B w' s' (xs ++ [l]) → Grew w s w' s' → Below B w w' → k s'.v w') : SemOk Try.prog (Builtin.append_ #[29, 29] ty #[s.v, .slice (some ⟨b, 0, none⟩) 1 1]) w k := by
  obtain ⟨hh, h1, h2, h3⟩ := hs.ex
  refine app_one tabOk rfl rfl rfl rfl rfl rfl h2 hb rfl (by simp; omega) (by simp; omega) ?_
  intro s' w' hr hg
  refine hk s' w' ⟨Fresh.grew hs.new hB hg, hh ++ [x], by simp [h1], by simpa using hr, ?_⟩ hg (hg.below hB hs.new)
  intro i y m hy hm
  have key : NBy B w y m := by
    rcases Nat.lt_trichotomy i hh.length with h | h | h
    · rw [List.getElem?_append_left h] at hy
      rw [List.getElem?_append_left (by omega)] at hm
      exact h3 i y m hy hm
    · rw [List.getElem?_append_right (by omega)] at hy
      rw [List.getElem?_append_right (by omega)] at hm
      simp [h] at hy
      simp [h, h1] at hm
      subst hy hm
      exact hx
    · rw [List.getElem?_append_right (by omega), List.getElem?_eq_none (by simp; omega)] at hy
      cases hy
  exact ⟨Row.grew h2 key.row (by decide) hg, key.new⟩
theorem endsS_push {l : List UInt8} {k : Nat} (h : isEndM l (cutS l k).1 (k + 1) = true) : endsS l (k + 1) = endsS l k ++ [((k : Int) + 1)] ∧ (cutS l (k + 1)).1 = k + 1 := by
  simp [endsS, cutS, h]
theorem endsS_skip {l : List UInt8} {k : Nat} (h : isEndM l (cutS l k).1 (k + 1) = false) : endsS l (k + 1) = endsS l k ∧ (cutS l (k + 1)).1 = (cutS l k).1 := by
  simp [endsS, cutS, h]
theorem endsS_len (l : List UInt8) (k : Nat) : (endsS l k).length ≤ k := by simpa [endsS] using cutS_len l k
theorem ends_ref {w : World} {x : Sl} {l : List UInt8} (hx : By w x l) (hl : l.length ≤ 1099511627776) :
    Ret Try.prog 13 [x.v].toArray w fun v w' => ∃ s : Sl, v = s.v ∧ NIn w.heap.size w' s (endsS l l.length) ∧ Ext w w' := by
  have h1 := hx.len
  refine cal_of_vc tabOk Try.func13 rfl (by kernel_rfl) 28 rfl (by simp) [0, 2, 3, 4, 5, 9, 21] ?_
  (conv => whnf)
  refine loop_inv tabOk [0, 2] (fun k : Nat × Sl => [(3, k.2.v), (4, .int .i64 (cutS l k.1).1), (5, .int .i64 ((k.1 : Int) + 1))]) (fun k w' => k.1 ≤ l.length ∧ NIn w.heap.size w' k.2 (endsS l k.1) ∧ Ext w w') (fun k _ => l.length - k.1) (0, ⟨none, 0, 0⟩) ?_
  (conv => whnf)
  refine ⟨(by repeat (first | exact trivial | refine ⟨rfl, ?_⟩)), ⟨by omega, ⟨Row.nil _ _ _, .inl rfl⟩, Ext.refl _⟩, ?_⟩
  rintro ⟨k, s⟩ w1 ⟨hk, hs, he⟩
  dsimp only at hk hs
  have hle := cutS_le l k
  have hcl := endsS_len l k
  have hsz := he.size
  (conv => whnf)
  refine condG_dec (fun h4 => ?_) (fun h4 => ?_)
  · (conv => whnf)
    refine condG_dec (fun h5 => ?_) (fun h5 => ?_)
    · obtain ⟨e1, e2⟩ := endsS_push (l := l) (k := k) (by rw [isEndM_eq, show k + 1 = l.length by omega]; simp)
      (conv => whnf)
      intro w2 b hb
      have := hb.size
      have := hb.num
      (conv => whnf)
      refine app_int (hs.ext hb.ext) (by omega) hb.blk (by omega) ?_
      intro s' w3 hs' hg hbe
      ((repeat ((conv => whnf); refine And.intro (by omega) ?_)); (conv => whnf))
      refine ⟨rfl, (by repeat (first | exact trivial | refine ⟨rfl, ?_⟩)), (k + 1, s'), ⟨rfl, ?_, rfl, trivial⟩, ⟨by omega, ?_, he.trans' (Below.trans (hb.ext.mono (by omega)) hbe)⟩, by omega⟩
      · rw [e2]; rfl
      · rw [e1]; exact hs'
    · (conv => whnf)
      refine (mayEnd_ref (hx.ext he) hl (cutS l k).1 (k + 1) (by omega) (by omega)).use ?_
      rintro v w2 ⟨rfl, rfl⟩
      have e0 : isEndM l (cutS l k).1 (k + 1) = mayEndM l (cutS l k).1 (k + 1) := by rw [isEndM_eq, show decide (k + 1 = l.length) = false by simp; omega]; simp
      (conv => whnf)
      refine condG_split (fun h6 => ?_) (fun h6 => ?_)
      · obtain ⟨e1, e2⟩ := endsS_push (l := l) (k := k) (by rw [e0]; exact h6)
        (conv => whnf)
        intro w2 b hb
        have := hb.size
        have := hb.num
        (conv => whnf)
        refine app_int (hs.ext hb.ext) (by omega) hb.blk (by omega) ?_
        intro s' w3 hs' hg hbe
        ((repeat ((conv => whnf); refine And.intro (by omega) ?_)); (conv => whnf))
        refine ⟨rfl, (by repeat (first | exact trivial | refine ⟨rfl, ?_⟩)), (k + 1, s'), ⟨rfl, ?_, rfl, trivial⟩, ⟨by omega, ?_, he.trans' (Below.trans (hb.ext.mono (by omega)) hbe)⟩, by omega⟩
        · rw [e2]; rfl
        · rw [e1]; exact hs'
      · obtain ⟨e1, e2⟩ := endsS_skip (l := l) (k := k) (by rw [e0]; exact h6)
        ((repeat ((conv => whnf); refine And.intro (by omega) ?_)); (conv => whnf))
        refine ⟨rfl, (by repeat (first | exact trivial | refine ⟨rfl, ?_⟩)), (k + 1, s), ⟨rfl, ?_, rfl, trivial⟩, ⟨by omega, ?_, he⟩, by omega⟩
        · rw [e2]; rfl
        · rw [e1]; exact hs
  · (conv => whnf)
    exact ⟨s, rfl, (show k = l.length by omega) ▸ hs, he⟩

def piecesS (l : List UInt8) : List (List UInt8) := (cutS l l.length).2.map (partOf l)
theorem pieces_ref {w : World} {x : Sl} {l : List UInt8} (hx : By w x l) (hl : l.length ≤ 1099511627776) :
    Ret Try.prog 15 [x.v].toArray w fun v w' => ∃ s : Sl, v = s.v ∧ NCh w.heap.size w' s (piecesS l) ∧ Ext w w' := by
  have h1 := hx.len
  have hc := hx.cap
  refine cal_of_vc tabOk Try.func15 rfl (by kernel_rfl) 31 rfl (by simp) [0, 2, 3, 4, 5, 6, 12] ?_
  (conv => whnf)
  refine (ends_ref hx hl).use ?_
  rintro v w0 ⟨es, rfl, hes, he0⟩
  have hesl := hes.in_.len
  have hesb := endsS_len l l.length
  (conv => whnf)
  refine loop_inv (S := Nat × Nat × Sl) tabOk [0, 2, 3] (fun (k, f, s) => [(4, s.v), (5, .int .i64 f), (6, .int .i64 k)]) (fun (k, f, s) w' => k ≤ (cutS l l.length).2.length ∧ NCh w0.heap.size w' s ((piecesS l).take k) ∧ Ext w0 w' ∧ ((cutS l l.length).2[k]?.map (·.1)).getD (cutS l l.length).1 = f) (fun k _ => (cutS l l.length).2.length - k.1) (0, 0, ⟨none, 0, 0⟩) ?_
  (conv => whnf)
  refine ⟨(by repeat (first | exact trivial | refine ⟨rfl, ?_⟩)), ⟨by omega, NCh.nil _ _, Ext.refl _, (cutS_link l l.length).1⟩, ?_⟩
  rintro ⟨k, f, s⟩ w1 ⟨hk, hs, he, hf⟩
  have hsz := he.size
  have hsz0 := he0.size
  have hel : (endsS l l.length).length = (cutS l l.length).2.length := by simp [endsS]
  (conv => whnf)
  refine condG_dec (fun h4 => ?_) (fun h4 => ?_)
  · have hk' : k < (cutS l l.length).2.length := by omega
    obtain ⟨p, hp⟩ : ∃ p, (cutS l l.length).2[k]? = some p := ⟨_, List.getElem?_eq_getElem hk'⟩
    have hpin := cutS_in l l.length p (List.mem_of_getElem? hp)
    have hpl := (cutS_link l l.length).2 k p hp
    have hpe : (endsS l l.length)[k]'(by omega) = (p.2 : Int) := by
      have : (endsS l l.length)[k]? = some (p.2 : Int) := by simp [endsS, hp]
      rw [List.getElem?_eq_getElem (by omega)] at this
      exact Option.some.inj this
    have hpc := (hes.ext he).in_.cell (i := k) (by omega)
    have hpp := hes.in_.plain (i := k) (by omega)
    rw [hpe] at hpc
    simp [hp] at hf
    subst hf
    ((repeat ((conv => whnf); first | refine And.intro (by first | omega | assumption | exact rfl) ?_ | refine Exists.intro _ (And.intro (by assumption) ?_) | refine Exists.intro _ (Exists.intro _ (And.intro (by assumption) ?_)) | refine Exists.intro _ (And.intro (Blk.cel (by assumption) (by rfl)) ?_))); (conv => whnf))
    have hsub := ((hx.ext he0).ext he).sub hpin.1 hpin.2
    have hpl2 : (partOf l p).length ≤ 1099511627776 := by simp [partOf]; omega
    refine (copy_ref hsub hpl2).use ?_
    rintro v w2 ⟨c, rfl, hcp, he2⟩
    have hsz2 := he2.size
    (conv => whnf)
    intro w3 b hb
    have := hb.size
    have := hb.num
    (conv => whnf)
    refine app_sl (l := partOf l p) ((hs.ext he2).ext hb.ext) ⟨(hcp.row.ext hb.ext), hcp.new.imp id fun h => by omega⟩ (by omega) hb.blk (by simp; omega) ?_
    intro s' w4 hs' hg hbe
    have he4 : Ext w0 w4 := ((he.trans he2).trans hb.ext).trans' hbe
    have hpc'' := (hes.ext he4).in_.cell (i := k) (by omega)
    rw [hpe] at hpc''
    ((repeat ((conv => whnf); first | refine And.intro (by first | omega | assumption | exact rfl) ?_ | refine Exists.intro _ (And.intro (by assumption) ?_) | refine Exists.intro _ (Exists.intro _ (And.intro (by assumption) ?_)) | refine Exists.intro _ (And.intro (Blk.cel (by assumption) (by rfl)) ?_))); (conv => whnf))
    refine ⟨(by repeat (first | exact trivial | refine ⟨rfl, ?_⟩)), (k + 1, p.2, s'), (by repeat (first | exact trivial | refine ⟨rfl, ?_⟩)), ⟨by omega, ?_, he4, hpl⟩, by omega⟩
    rw [show List.take (k + 1) (piecesS l) = List.take k (piecesS l) ++ [partOf l p] by simp [piecesS, List.take_add_one, hp]]
    exact hs'
  · (conv => whnf)
    refine ⟨s, rfl, ?_, he0.trans he⟩
    rw [show k = (cutS l l.length).2.length by omega] at hs
    rw [List.take_of_length_le (by simp [piecesS])] at hs
    exact hs.mono hsz0
end Go.Proofs.Ytkmnncajfhamhaa
