/-
  Memory that a call makes: rows that grow, literals of slices, make.
-/
import Derived.Test.YtlhgmigoncmcaaaGreatVcF
import Derived.Test.YtlhgmigoncmcaaaGreatVcE
import Derived.Laws.MakeOwn
import Derived.Lib.AppendStr
namespace Go.Proofs.YtlhgmigoncmcaaaGreat
open Go Go.RowKit

/-! ### a row of the call's own -/
/-- s is nil, or the head of a block whose first cells are xs and to which nobody else writes -/
structure Row (w : World) (s : Sl) (e : TypeId) (sz : Nat) (xs : List Value) : Prop where
  len : xs.length = s.len * sz
  at_ : (s.a = none ∧ s.len = 0 ∧ s.cap = 0) ∨ ∃ b cur, s.a = some ⟨b, 0, none⟩ ∧ w.heap[b]? = some (.cells cur e (0, 0)) ∧ s.len ≤ s.cap ∧ s.cap ≤ maxLen ∧ cur.size = s.cap * sz ∧ cur.toList.take (s.len * sz) = xs
theorem Row.nil (w : World) (e : TypeId) (sz : Nat) : Row w ⟨none, 0, 0⟩ e sz [] := ⟨by simp, .inl ⟨rfl, rfl, rfl⟩⟩
theorem Row.mk1 {w : World} {b n : Nat} {l : List Value} {e : TypeId} {sz : Nat} (h : Blk w b l e) (hl : l.length = n * sz) (hn : n ≤ maxLen) : Row w ⟨some ⟨b, 0, none⟩, n, n⟩ e sz l :=
  ⟨hl, .inr ⟨b, l.toArray, rfl, h, Nat.le_refl _, hn, by simpa using hl, by simp [← hl]⟩⟩
theorem Row.cells {w : World} {s : Sl} {e : TypeId} {sz : Nat} {xs : List Value} (h : Row w s e sz xs) : Cells w s.a xs := by
  rcases h.at_ with ⟨h1, h2, h3⟩ | ⟨b, cur, h1, h2, h3, h4, h5, h6⟩
  · have : xs = [] := List.eq_nil_of_length_eq_zero (by rw [h.len, h2]; simp)
    subst this
    exact ⟨fun h => absurd rfl h, fun j v hj => by simp at hj⟩
  · refine ⟨fun _ => by rw [h1]; rfl, fun j v hj => ?_⟩
    rw [h1]
    simp only [ablk, aoff, Nat.zero_add]
    rw [← h6, List.getElem?_take] at hj
    split at hj
    · simp [World.cell?, h2]; simpa using hj
    · cases hj
theorem Row.tw {w w' : World} {s : Sl} {e : TypeId} {sz : Nat} {xs : List Value} (h : Row w s e sz xs) (hb : ∀ b, s.a = some ⟨b, 0, none⟩ → w'.heap[b]? = w.heap[b]?) : Row w' s e sz xs := by
  refine ⟨h.len, ?_⟩
  rcases h.at_ with h1 | ⟨b, cur, h1, h2, r⟩
  · exact .inl h1
  · exact .inr ⟨b, cur, h1, by rw [hb b h1]; exact h2, r⟩
theorem Row.twb {B : Nat} {w w' : World} {s : Sl} {e : TypeId} {sz : Nat} {xs : List Value} (h : Row w s e sz xs) (hb : Tw B w w') : Row w' s e sz xs := by
  refine ⟨h.len, ?_⟩
  rcases h.at_ with h1 | ⟨b, cur, h1, h2, r⟩
  · exact .inl h1
  · exact .inr ⟨b, cur, h1, hb.cel _ _ _ _ h2, r⟩
theorem Row.mid {B : Nat} {w w' : World} {s : Sl} {e : TypeId} {sz : Nat} {xs : List Value} (h : Row w s e sz xs) (hn : s.a = none ∨ B ≤ ablk s.a) (hb : Mid B w w') : Row w' s e sz xs := by
  refine ⟨h.len, ?_⟩
  rcases h.at_ with h1 | ⟨b, cur, h1, h2, r⟩
  · exact .inl h1
  · refine .inr ⟨b, cur, h1, hb.cel _ _ _ _ ?_ h2, r⟩
    rw [h1] at hn
    exact hn.resolve_left (by simp)
theorem Row.cap {w : World} {s : Sl} {e : TypeId} {sz : Nat} {xs : List Value} (h : Row w s e sz xs) : s.len ≤ s.cap := by
  rcases h.at_ with ⟨_, h2, _⟩ | ⟨_, _, _, _, h3, _⟩
  · omega
  · exact h3
theorem Row.lt {w : World} {s : Sl} {e : TypeId} {sz : Nat} {xs : List Value} (h : Row w s e sz xs) : s.a ≠ none → ablk s.a < w.heap.size := by
  intro hn
  rcases h.at_ with ⟨h1, _⟩ | ⟨b, cur, h1, h2, r⟩
  · exact absurd h1 hn
  · rw [h1]; exact (Array.getElem?_eq_some_iff.1 h2).1
theorem Row.ext {w w' : World} {s : Sl} {e : TypeId} {sz : Nat} {xs : List Value} (h : Row w s e sz xs) (he : Ext w w') : Row w' s e sz xs :=
  h.tw fun b hb => he.block b (by have := h.lt (by rw [hb]; simp); rwa [hb] at this)
/-- w' is w but for s's own block, and new blocks; s' lies in s's block or in a new one -/
structure Grew (w : World) (s : Sl) (w' : World) (s' : Sl) : Prop where
  os : w'.os = w.os
  tape : w'.tape = w.tape
  output : w'.output = w.output
  size : w.heap.size ≤ w'.heap.size
  block : ∀ c, c < w.heap.size → (s.a = none ∨ c ≠ ablk s.a) → w'.heap[c]? = w.heap[c]?
  own : s'.a = none ∨ (s.a ≠ none ∧ ablk s'.a = ablk s.a) ∨ w.heap.size ≤ ablk s'.a
theorem Grew.below {w : World} {s : Sl} {w' : World} {s' : Sl} (h : Grew w s w' s') {B : Nat} (hB : B ≤ w.heap.size) (hs : s.a = none ∨ B ≤ ablk s.a) : Below B w w' :=
  ⟨h.os, h.tape, h.output, h.size, fun k hk => h.block k (by omega) (hs.imp id fun h => by omega)⟩
theorem Grew.refl (w : World) (s : Sl) : Grew w s w s := by
  refine ⟨rfl, rfl, rfl, Nat.le_refl _, fun _ _ _ => rfl, ?_⟩
  cases h : s.a with
  | none => exact .inl rfl
  | some p => exact .inr (.inl ⟨by simp, rfl⟩)
theorem Grew.blk {w : World} {s : Sl} {w' : World} {s' : Sl} (h : Grew w s w' s') {b : Nat} {l : List Value} {t : TypeId} (hb : Blk w b l t) (hn : s.a = none ∨ b ≠ ablk s.a) : Blk w' b l t := (h.block b hb.lt hn).trans hb
theorem Grew.cells {w : World} {s : Sl} {w' : World} {s' : Sl} (h : Grew w s w' s') {a : Option Addr} {l : List Value} (hc : Cells w a l) (hn : l ≠ [] → s.a = none ∨ ablk a ≠ ablk s.a) : Cells w' a l :=
  ⟨hc.1, fun j v hj => by
    have := hc.2 j v hj
    have hl : l ≠ [] := by intro e; subst e; simp at hj
    rw [World.cell?_of_block (h.block _ (hc.lt hl) (hn hl))]; exact this⟩
theorem run_append_zero {P : Program} {w : World} {t ty e : TypeId} {i : TypeInfo} (ht : P.underlying t = some (.slice e)) (hi : P.info? e = some i) {s x : Sl} (hx : x.len = 0) (hle : s.len ≤ s.cap) :
    (Builtin.append_ #[t, t] ty #[s.v, x.v]).run P w = .ok s.v w := by
  obtain ⟨sa, sl, sc⟩ := s
  obtain ⟨xa, xl, xc⟩ := x
  simp only at hx hle
  subst hx
  cases sa <;> cases xa <;> simp [Builtin.append_, run_underlying ht, sizeOf, typeInfo, hi, Builtin.lenOf, Builtin.firstCells, loadCells, loadCellsFrom, hle, storeCells]
/-- 'append(s, x...)', s a row of the call's own -/
theorem app_row {P : Program} {T : List TD} (hT : TabOk P T) {t ty e : TypeId} {d de : TD} (hd : T[t]? = some d) (hu : d.under = .slice e) (hde : T[e]? = some de) {z : Value} (hz : de.zero = some z) (hzs : z.cells.size = de.size) (hsz : 0 < de.size)
    {w : World} {s x : Sl} {xs ys : List Value} (hr : Row w s e de.size xs) (hx : Cells w x.a ys) (hxl : ys.length = x.len * de.size) (h1 : ∀ u ∈ ys, u.oneCell' = true) (hb : (s.len + x.len) * de.bytes ≤ 140737488355328) (hm : s.len + x.len ≤ 4611686018427387904)
    {k : Value → World → Prop} (hk : ∀ s' w', Row w' s' e de.size (xs ++ ys) → s'.len = s.len + x.len → Grew w s w' s' → k s'.v w') : SemOk P (Builtin.append_ #[t, t] ty #[s.v, x.v]) w k := by
  have hd' := hT t d hd
  have hde' := hT e de hde
  obtain ⟨i, hi, hi1, hi2, hi3⟩ := hde'.info
  have ht : P.underlying t = some (.slice e) := by
    obtain ⟨d0, q1, q2⟩ := hd'.under
    rw [hu] at q2
    cases d0 <;> first | (simp_all [undOf]; done) | (simp only [undOf] at q2; split at q2 <;> cases q2)
  by_cases hn : x.len = 0
  · have hys : ys = [] := List.eq_nil_of_length_eq_zero (by rw [hxl, hn]; simp)
    subst hys
    have hle : s.len ≤ s.cap := by
      rcases hr.at_ with ⟨_, h2, h3⟩ | ⟨_, _, _, _, h3, _⟩
      · omega
      · exact h3
    refine .of (v := s.v) (w' := w) ?_ (hk s w (by simpa using hr) (by omega) (Grew.refl w s))
    exact run_append_zero ht hi hn hle
  · have hys : ys ≠ [] := by
      intro e; subst e
      have : 0 < x.len * de.size := Nat.mul_pos (by omega) hsz
      simp at hxl; omega
    have hpl := hx.1 hys
    have hnews : ∀ j v, ys[j]? = some v → w.cell? ((⟨ablk x.a, aoff x.a, none⟩ : Addr).add j) = some v := fun j v hj => by rw [addr_add]; exact hx.2 j v hj
    have hxe : x.v = .slice (some ⟨ablk x.a, aoff x.a, none⟩) x.len x.cap := by
      show Value.slice x.a x.len x.cap = _
      conv => lhs; rw [hpl]
    have hsize : i.size = de.size := hi1
    have hbytes : i.bytes = de.bytes := hi2
    rw [hxe]
    have hcap : ∀ old, grownCap w (s.len + x.len) old e ≤ maxLen := fun old => grownCap_le_maxLen w _ old e (by simp only [maxLen]; omega)
    have hge : ∀ old, s.len + x.len ≤ grownCap w (s.len + x.len) old e := fun old => grownCap_ge w _ old e
    have hlen : (xs ++ ys).length = (s.len + x.len) * de.size := by rw [List.length_append, hr.len, hxl, Nat.add_mul]
    have fresh : ∀ old, k (.slice (some ⟨w.heap.size, 0, none⟩) (s.len + x.len) (grownCap w (s.len + x.len) old e))
        (w.drew.alloc (.cells (xs.toArray ++ ys.toArray ++ Builtin.zeroCells z.cells (grownCap w (s.len + x.len) old e - (s.len + x.len))) e)) := by
      intro old
      refine hk ⟨some ⟨w.heap.size, 0, none⟩, s.len + x.len, grownCap w (s.len + x.len) old e⟩ _ ⟨hlen, .inr ⟨w.heap.size, _, rfl, heap_alloc_new w.drew _, hge old, hcap old, ?_, ?_⟩⟩ rfl
        ⟨rfl, rfl, rfl, by simp, fun c hc _ => heap_alloc_old w.drew _ c hc, .inr (.inr (Nat.le_refl _))⟩
      · simp only [Array.size_append, List.size_toArray, size_zeroCells, hzs, hr.len, hxl, ← Nat.add_mul]
        congr 1
        have := hge old
        omega
      · simp only [Array.toList_append, List.append_assoc]
        rw [← List.append_assoc, ← hlen]
        exact List.take_left
    rcases hr.at_ with ⟨h1', h2, h3⟩ | ⟨b, cur, h1', h2, h3, h4, h5, h6⟩
    · have hxs : xs = [] := List.eq_nil_of_length_eq_zero (by rw [hr.len, h2]; simp)
      subst hxs
      have hb' : x.len * de.bytes ≤ 140737488355328 := by rw [h2, Nat.zero_add] at hb; exact hb
      have hrun := run_append_nil (P := P) w t ty e i z ht hi (hi3.trans hz) ⟨ablk x.a, aoff x.a, none⟩ x.len x.cap ys (by rw [hxl, hsize]) hnews (by omega) (by omega) (by rw [hbytes]; omega)
      have hf := fresh 0
      simp only [h2, Nat.zero_add, Array.empty_append] at hf
      have hse : s.v = .slice none 0 0 := by show Value.slice s.a s.len s.cap = _; rw [h1', h2, h3]
      rw [hse]
      exact .of hrun hf
    · have hse : s.v = .slice (some ⟨b, 0, none⟩) s.len s.cap := by show Value.slice s.a s.len s.cap = _; rw [h1']
      rw [hse]
      by_cases hroom : s.len + x.len ≤ s.cap
      · have hfit : s.len * i.size + ys.length ≤ cur.size := by rw [hxl, h5, hsize, ← Nat.add_mul]; exact Nat.mul_le_mul_right _ hroom
        have hrun := run_append_room (P := P) w t ty e i ht hi b s.len s.cap cur h2 ⟨ablk x.a, aoff x.a, none⟩ x.len x.cap ys (by rw [hxl, hsize]) hnews h1 hroom hfit
        refine .of hrun (hk ⟨some ⟨b, 0, none⟩, s.len + x.len, s.cap⟩ _ ⟨hlen, .inr ⟨b, _, rfl, setRow_heap w b cur _ e _ h2, hroom, h4, ?_, ?_⟩⟩ rfl ⟨rfl, rfl, rfl, by simp, fun c _ hc => setRow_other w b c _ ?_, .inr (.inl ⟨by rw [h1']; simp, by rw [h1']⟩)⟩)
        · simp only [List.size_toArray, List.length_append, List.length_take, List.length_drop, Array.length_toList]
          omega
        · rw [hsize, h6, ← hlen]
          exact List.take_left
        · rcases hc with hc | hc
          · rw [h1'] at hc; cases hc
          · rw [h1'] at hc; exact hc
      · have holds : ∀ j v, xs[j]? = some v → w.cell? ((⟨b, 0, none⟩ : Addr).add j) = some v := fun j v hj => by
          have := hr.cells.2 j v hj
          rw [h1'] at this
          rw [addr_add]; exact this
        have hrun := run_append_grow (P := P) w t ty e i z ht hi (hi3.trans hz) ⟨b, 0, none⟩ s.len s.cap xs (by rw [hr.len, hsize]) holds ⟨ablk x.a, aoff x.a, none⟩ x.len x.cap ys (by rw [hxl, hsize]) hnews (by omega) (by omega) (growslice_fits (by omega) (by rw [hbytes]; exact hb))
        exact .of hrun (fresh s.cap)
theorem Blk.cells {w : World} {b : Nat} {l : List Value} {t : TypeId} (h : Blk w b l t) : Cells w (some ⟨b, 0, none⟩) l := ⟨fun _ => rfl, fun j v hj => by simp only [ablk, aoff, Nat.zero_add]; rw [h.cell]; exact hj⟩
/-- 'append(s, v)', one cell -/
theorem app_one {P : Program} {T : List TD} (hT : TabOk P T) {t ty e : TypeId} {d de : TD} (hd : T[t]? = some d) (hu : d.under = .slice e) (hde : T[e]? = some de) {z : Value} (hz : de.zero = some z) (hzs : z.cells.size = de.size) (hsz : de.size = 1)
    {w : World} {s : Sl} {xs : List Value} {v : Value} {b : Nat} {t' : TypeId} (hr : Row w s e 1 xs) (hx : Blk w b [v] t') (h1 : v.oneCell' = true) (hb : (xs.length + 1) * de.bytes ≤ 140737488355328) (hm : xs.length + 1 ≤ 4611686018427387904)
    {k : Value → World → Prop} (hk : ∀ s' w', Row w' s' e 1 (xs ++ [v]) → Grew w s w' s' → k s'.v w') : SemOk P (Builtin.append_ #[t, t] ty #[s.v, .slice (some ⟨b, 0, none⟩) 1 1]) w k := by
  have hl := hr.len
  simp at hl
  refine app_row (x := ⟨some ⟨b, 0, none⟩, 1, 1⟩) hT hd hu hde hz hzs (by omega) (xs := xs) (ys := [v]) (by rw [hsz]; exact hr) hx.cells (by simp [hsz]) (by simpa using h1) (by rw [← hl]; exact hb) (by rw [← hl]; exact hm) ?_
  intro s' w' hr' _ hg
  rw [hsz] at hr'
  exact hk s' w' hr' hg
/-- 'make' of a row whose elements take one cell each -/
theorem sem_make {P : Program} {T : List TD} (hT : TabOk P T) {t e : TypeId} {d de : TD} (hd : T[t]? = some d) (hu : d.under = .slice e) (hde : T[e]? = some de) {z : Value} (hz : de.zero = some z) (hzs : z.cells = #[z]) (hsz : de.size = 1)
    {w : World} {kl kc : IntKind} {n c : Int} (hn : 0 ≤ n ∧ n ≤ c) (hb : (de.bytes : Int) * c ≤ 281474976710656) (hm : c ≤ 4611686018427387904)
    {k : Value → World → Prop} (hk : ∀ w' b, NewBlk w b (List.replicate c.toNat z) e w' → k (.slice (some ⟨b, 0, none⟩) n.toNat c.toNat) w') : SemOk P (Instr.makeSlice t (.int kl n) (.int kc c)) w k := by
  have hd' := hT t d hd
  have hde' := hT e de hde
  obtain ⟨i, hi, hi1, hi2, hi3⟩ := hde'.info
  have ht : P.underlying t = some (.slice e) := by
    obtain ⟨d0, q1, q2⟩ := hd'.under
    rw [hu] at q2
    cases d0 <;> first | (simp_all [undOf]; done) | (simp only [undOf] at q2; split at q2 <;> cases q2)
  have hrun := run_make (P := P) w t e i z ht hi (hi3.trans hz) kl kc n c hn.1 hn.2 (by rw [hi2]; exact hb) (by omega)
  refine .of hrun (hk _ _ ⟨rfl, ?_⟩)
  congr 2
  apply Array.ext
  · simp [size_madeCells, hi1, hsz]
  · intro j h1 h2
    simp [madeCells, hzs, Nat.mod_one]
end Go.Proofs.YtlhgmigoncmcaaaGreat
