/-
  Slices in memory: what they read as.
-/
import Derived.Test.YtffaffojkfalhaaGreatDoorVcD
import Derived.Test.YtffaffojkfalhaaGreatDoorVcF
import Derived.Laws.MakeOwn
import Derived.Lib.AppendStr
import Derived.RangeFuncIn
import Derived.RangeFuncRecord
namespace Go.Proofs.YtffaffojkfalhaaGreatDoor
open Go Go.RowKit

/-- a slice's head -/
structure Sl where
  a : Option Addr
  len : Nat
  cap : Nat
abbrev Sl.v (s : Sl) : Value := .slice s.a s.len s.cap
/-- a slice of bytes -/
structure By (w : World) (s : Sl) (l : List UInt8) : Prop where
  len : s.len = l.length
  cells : Cells w s.a (l.map bv)
  cap : s.len ≤ s.cap
theorem By.ext {w w' : World} {s : Sl} {l : List UInt8} (h : By w s l) (he : Ext w w') : By w' s l := ⟨h.len, h.cells.ext he, h.cap⟩
theorem By.tw {B : Nat} {w w' : World} {s : Sl} {l : List UInt8} (h : By w s l) (he : Tw B w w') : By w' s l := ⟨h.len, h.cells.tw he, h.cap⟩
theorem By.plain {w : World} {s : Sl} {l : List UInt8} (h : By w s l) {i : Nat} (hi : i < l.length) : Plain s.a := h.cells.1 (by intro e; simp at e; subst e; simp at hi)
theorem By.cell {w : World} {s : Sl} {l : List UInt8} (h : By w s l) {i : Nat} (hi : i < l.length) : w.cell? ⟨ablk s.a, aoff s.a + i, none⟩ = some (bv l[i]) :=
  h.cells.2 i _ (by simp [hi])
theorem Cells.sub {w : World} {a : Option Addr} {l : List Value} (h : Cells w a l) {i m b : Nat} (sz : Nat) (hm : b ≤ m) (hi : i ≤ b) : Cells w (subA a i m sz) ((l.take (b * sz)).drop (i * sz)) := by
  by_cases hn : (l.take (b * sz)).drop (i * sz) = []
  · rw [hn]; exact ⟨fun h => absurd rfl h, fun j v hj => by simp at hj⟩
  have hl : l ≠ [] := by intro e; subst e; simp at hn
  have hib : m ≠ i := by
    intro e
    have : b = i := by omega
    subst this
    exact hn (List.drop_eq_nil_of_le (by simp; omega))
  refine ⟨fun _ => subA_plain (h.1 hl), fun j v hj => ?_⟩
  rw [subA_blk, subA_off (h.1 hl) hib, Nat.add_assoc]
  rw [List.getElem?_drop, List.getElem?_take] at hj
  split at hj
  · exact h.2 _ v hj
  · cases hj
theorem By.sub {w : World} {x : Sl} {l : List UInt8} (h : By w x l) {a b : Nat} (hab : a ≤ b) (hb : b ≤ l.length) : By w ⟨subA x.a a x.cap 1, b - a, x.cap - a⟩ ((l.take b).drop a) := by
  have h1 := h.len
  have h2 := h.cap
  refine ⟨by simp; omega, ?_, by dsimp only; omega⟩
  have := h.cells.sub (i := a) (b := b) (m := x.cap) 1 (by omega) hab
  simpa [List.map_drop, List.map_take] using this
/-- a slice of ints -/
abbrev iv (x : Int) : Value := .int .i64 x
structure In (w : World) (s : Sl) (l : List Int) : Prop where
  len : s.len = l.length
  cells : Cells w s.a (l.map iv)
  cap : s.len ≤ s.cap
theorem In.ext {w w' : World} {s : Sl} {l : List Int} (h : In w s l) (he : Ext w w') : In w' s l := ⟨h.len, h.cells.ext he, h.cap⟩
theorem In.tw {B : Nat} {w w' : World} {s : Sl} {l : List Int} (h : In w s l) (he : Tw B w w') : In w' s l := ⟨h.len, h.cells.tw he, h.cap⟩
theorem In.plain {w : World} {s : Sl} {l : List Int} (h : In w s l) {i : Nat} (hi : i < l.length) : Plain s.a := h.cells.1 (by intro e; simp at e; subst e; simp at hi)
theorem In.cell {w : World} {s : Sl} {l : List Int} (h : In w s l) {i : Nat} (hi : i < l.length) : w.cell? ⟨ablk s.a, aoff s.a + i, none⟩ = some (iv l[i]) :=
  h.cells.2 i _ (by simp [hi])
/-- a slice of slices of bytes -/
structure Ch (w : World) (s : Sl) (ll : List (List UInt8)) : Prop where
  len : s.len = ll.length
  cap : s.len ≤ s.cap
  ex : ∃ hs : List Sl, hs.length = ll.length ∧ Cells w s.a (hs.map Sl.v) ∧ ∀ (i : Nat) (x : Sl) (l : List UInt8), hs[i]? = some x → ll[i]? = some l → By w x l
theorem Ch.ext {w w' : World} {s : Sl} {ll : List (List UInt8)} (h : Ch w s ll) (he : Ext w w') : Ch w' s ll := by
  obtain ⟨hs, h1, h2, h3⟩ := h.ex
  exact ⟨h.len, h.cap, hs, h1, h2.ext he, fun i x l hx hl => (h3 i x l hx hl).ext he⟩
theorem Ch.tw {B : Nat} {w w' : World} {s : Sl} {ll : List (List UInt8)} (h : Ch w s ll) (he : Tw B w w') : Ch w' s ll := by
  obtain ⟨hs, h1, h2, h3⟩ := h.ex
  exact ⟨h.len, h.cap, hs, h1, h2.tw he, fun i x l hx hl => (h3 i x l hx hl).tw he⟩
theorem Ch.get {w : World} {s : Sl} {ll : List (List UInt8)} (h : Ch w s ll) {i : Nat} (hi : i < ll.length) : Plain s.a ∧ ∃ x : Sl, w.cell? ⟨ablk s.a, aoff s.a + i, none⟩ = some x.v ∧ By w x ll[i] := by
  obtain ⟨hs, h1, h2, h3⟩ := h.ex
  have hi' : i < hs.length := by omega
  exact ⟨h2.1 (by intro e; simp at e; subst e; simp at hi'), hs[i], h2.2 i _ (by simp [hi']), h3 i _ _ (by simp [hi']) (by simp [hi])⟩
theorem Ext.byExt {a b c : World} (h : Ext a b) (k : Ext b c) : Ext a c := h.trans k
theorem Ext.byUpd {a w w' : World} {b : Nat} {l : List Value} {t : TypeId} (h : Ext a w) (hu : Upd w b l t w') (hb : a.heap.size ≤ b) : Ext a w' := Below.trans h (hu.below hb)
theorem Ext.byTw {B : Nat} {a w w' : World} (h : Ext a w) (ht : Tw B w w') (hb : a.heap.size ≤ B) : Ext a w' := Below.tw h ht hb
theorem Ext.byBelow {B : Nat} {a w w' : World} (h : Ext a w) (k : Below B w w') (hb : a.heap.size ≤ B) : Ext a w' := Below.trans h (k.mono hb)
theorem Blk.byExt {w w' : World} {b : Nat} {l : List Value} {t : TypeId} (h : Blk w b l t) (k : Ext w w') : Blk w' b l t := h.ext k
theorem Blk.byUpd {w w' : World} {b c : Nat} {l l' : List Value} {t t' : TypeId} (h : Blk w b l t) (hu : Upd w c l' t' w') (hb : b ≠ c) : Blk w' b l t := (hu.other hb).trans h
theorem Blk.byTw {B : Nat} {w w' : World} {b : Nat} {l : List Value} {t : TypeId} (h : Blk w b l t) (ht : Tw B w w') (_ : 0 ≤ b) : Blk w' b l t := h.tw ht
theorem Blk.byBelow {B : Nat} {w w' : World} {b : Nat} {l : List Value} {t : TypeId} (h : Blk w b l t) (k : Below B w w') (hb : b < B) : Blk w' b l t := h.mono k hb
theorem Blk.cel {w : World} {b : Nat} {l : List Value} {t : TypeId} (h : Blk w b l t) {i : Nat} {u : Value} (hu : l[i]? = some u) : w.cell? ⟨b, i, none⟩ = some u := (h.cell i).trans hu
/-- the cells from block B on that w has, W has too -/
structure Mid (B : Nat) (w W : World) : Prop where
  size : w.heap.size ≤ W.heap.size
  cel : ∀ j c t f, B ≤ j → w.heap[j]? = some (.cells c t f) → W.heap[j]? = some (.cells c t f)
theorem Mid.refl (B : Nat) (w : World) : Mid B w w := ⟨Nat.le_refl _, fun _ _ _ _ _ h => h⟩
theorem Mid.byExt {B : Nat} {a b c : World} (h : Mid B a b) (k : Ext b c) : Mid B a c :=
  ⟨Nat.le_trans h.size k.size, fun j c t f hj hc => by have := h.cel j c t f hj hc; rw [k.block j (Array.getElem?_eq_some_iff.1 this).1]; exact this⟩
theorem Mid.byUpd {B : Nat} {a w w' : World} {b : Nat} {l : List Value} {t : TypeId} (h : Mid B a w) (hu : Upd w b l t w') (hb : b < B ∨ a.heap.size ≤ b) : Mid B a w' :=
  ⟨by rw [hu.size]; exact h.size, fun j c t f hj hc => by
    have h1 := h.cel j c t f hj hc
    have h2 := (Array.getElem?_eq_some_iff.1 hc).1
    rw [hu.other (by omega)]; exact h1⟩
theorem Mid.byTw {B B' : Nat} {a w w' : World} (h : Mid B a w) (ht : Tw B' w w') (_ : 0 ≤ B) : Mid B a w' :=
  ⟨Nat.le_trans h.size ht.size, fun j c t f hj hc => ht.cel _ _ _ _ (h.cel j c t f hj hc)⟩
theorem Mid.byBelow {B B' : Nat} {a w w' : World} (h : Mid B a w) (k : Below B' w w') (hb : a.heap.size ≤ B') : Mid B a w' :=
  ⟨Nat.le_trans h.size k.size, fun j c t f hj hc => by
    have h2 := (Array.getElem?_eq_some_iff.1 hc).1
    rw [k.block j (by omega)]; exact h.cel j c t f hj hc⟩
theorem Ext.trans' {a b c : World} (h : Ext a b) (k : Below a.heap.size b c) : Ext a c := Below.trans h k
end Go.Proofs.YtffaffojkfalhaaGreatDoor
namespace Go.Proofs.YtffaffojkfalhaaGreatDoor
open Go Go.RowKit

/-! ### a row of the call's own -/
/-- s is nil, or the head of a block whose first cells are xs and to which nobody else writes -/
structure Row (w : World) (s : Sl) (e : TypeId) (sz : Nat) (xs : List Value) : Prop where
  len : xs.length = s.len * sz
  at_ : (s.a = none ∧ s.len = 0 ∧ s.cap = 0) ∨ ∃ b cur, s.a = some ⟨b, 0, none⟩ ∧ RowB w b cur e ∧ s.len ≤ s.cap ∧ s.cap ≤ maxLen ∧ cur.size = s.cap * sz ∧ cur.toList.take (s.len * sz) = xs
theorem Row.nil (w : World) (e : TypeId) (sz : Nat) : Row w ⟨none, 0, 0⟩ e sz [] := ⟨by simp, .inl ⟨rfl, rfl, rfl⟩⟩
theorem Row.mk1 {w : World} {b n : Nat} {l : List Value} {e : TypeId} {sz : Nat} (h : Blk w b l e) (hl : l.length = n * sz) (hn : n ≤ maxLen) : Row w ⟨some ⟨b, 0, none⟩, n, n⟩ e sz l :=
  ⟨hl, .inr ⟨b, l.toArray, rfl, h.f, Nat.le_refl _, hn, by simpa using hl, by simp [← hl]⟩⟩
theorem Row.cells {w : World} {s : Sl} {e : TypeId} {sz : Nat} {xs : List Value} (h : Row w s e sz xs) : Cells w s.a xs := by
  rcases h.at_ with ⟨h1, h2, h3⟩ | ⟨b, cur, h1, h2, h3, h4, h5, h6⟩
  · have : xs = [] := List.eq_nil_of_length_eq_zero (by rw [h.len, h2]; simp)
    subst this
    exact ⟨fun h => absurd rfl h, fun j v hj => by simp at hj⟩
  · refine ⟨fun _ => by rw [h1]; rfl, fun j v hj => ?_⟩
    rw [h1]
    simp only [ablk, aoff, Nat.zero_add]
    rw [← h6, List.getElem?_take] at hj
    split at hj
    · rw [h2.cell]; simpa using hj
    · cases hj
theorem Row.tw {w w' : World} {s : Sl} {e : TypeId} {sz : Nat} {xs : List Value} (h : Row w s e sz xs) (hb : ∀ b, s.a = some ⟨b, 0, none⟩ → w'.heap[b]? = w.heap[b]?) : Row w' s e sz xs := by
  refine ⟨h.len, ?_⟩
  rcases h.at_ with h1 | ⟨b, cur, h1, h2, r⟩
  · exact .inl h1
  · exact .inr ⟨b, cur, h1, h2.keep (hb b h1), r⟩
theorem Row.twb {B : Nat} {w w' : World} {s : Sl} {e : TypeId} {sz : Nat} {xs : List Value} (h : Row w s e sz xs) (hb : Tw B w w') : Row w' s e sz xs := by
  refine ⟨h.len, ?_⟩
  rcases h.at_ with h1 | ⟨b, cur, h1, h2, r⟩
  · exact .inl h1
  · obtain ⟨fz, h2, h3⟩ := h2
    exact .inr ⟨b, cur, h1, ⟨fz, hb.cel _ _ _ _ h2, h3⟩, r⟩
theorem Row.mid {B : Nat} {w w' : World} {s : Sl} {e : TypeId} {sz : Nat} {xs : List Value} (h : Row w s e sz xs) (hn : s.a = none ∨ B ≤ ablk s.a) (hb : Mid B w w') : Row w' s e sz xs := by
  refine ⟨h.len, ?_⟩
  rcases h.at_ with h1 | ⟨b, cur, h1, h2, r⟩
  · exact .inl h1
  · obtain ⟨fz, h2, h3⟩ := h2
    refine .inr ⟨b, cur, h1, ⟨fz, hb.cel _ _ _ _ ?_ h2, h3⟩, r⟩
    rw [h1] at hn
    exact hn.resolve_left (by simp)
theorem Row.cap {w : World} {s : Sl} {e : TypeId} {sz : Nat} {xs : List Value} (h : Row w s e sz xs) : s.len ≤ s.cap := by
  rcases h.at_ with ⟨_, h2, _⟩ | ⟨_, _, _, _, h3, _⟩
  · omega
  · exact h3
theorem Row.lt {w : World} {s : Sl} {e : TypeId} {sz : Nat} {xs : List Value} (h : Row w s e sz xs) : s.a ≠ none → ablk s.a < w.heap.size := by
  intro hn
  rcases h.at_ with ⟨h1, _⟩ | ⟨b, cur, h1, h2, r⟩
  · exact absurd h1 hn
  · rw [h1]; exact h2.lt
theorem Row.ext {w w' : World} {s : Sl} {e : TypeId} {sz : Nat} {xs : List Value} (h : Row w s e sz xs) (he : Ext w w') : Row w' s e sz xs :=
  h.tw fun b hb => he.block b (by have := h.lt (by rw [hb]; simp); rwa [hb] at this)
/-- w' is w but for s's own block, and new blocks; s' lies in s's block or in a new one -/
structure Grew (w : World) (s : Sl) (w' : World) (s' : Sl) : Prop where
  os : w'.os = w.os
  tape : w'.tape = w.tape
  output : w'.output = w.output
  size : w.heap.size ≤ w'.heap.size
  block : ∀ c, c < w.heap.size → (s.a = none ∨ c ≠ ablk s.a) → w'.heap[c]? = w.heap[c]?
  own : s'.a = none ∨ (s.a ≠ none ∧ ablk s'.a = ablk s.a) ∨ w.heap.size ≤ ablk s'.a
theorem Grew.below {w : World} {s : Sl} {w' : World} {s' : Sl} (h : Grew w s w' s') {B : Nat} (hB : B ≤ w.heap.size) (hs : s.a = none ∨ B ≤ ablk s.a) : Below B w w' :=
  ⟨h.os, h.tape, h.output, h.size, fun k hk => h.block k (by omega) (hs.imp id fun h => by omega)⟩
theorem Grew.refl (w : World) (s : Sl) : Grew w s w s := by
  refine ⟨rfl, rfl, rfl, Nat.le_refl _, fun _ _ _ => rfl, ?_⟩
  cases h : s.a with
  | none => exact .inl rfl
  | some p => exact .inr (.inl ⟨by simp, rfl⟩)
theorem Grew.blk {w : World} {s : Sl} {w' : World} {s' : Sl} (h : Grew w s w' s') {b : Nat} {l : List Value} {t : TypeId} (hb : Blk w b l t) (hn : s.a = none ∨ b ≠ ablk s.a) : Blk w' b l t := (h.block b hb.lt hn).trans hb
theorem Grew.cells {w : World} {s : Sl} {w' : World} {s' : Sl} (h : Grew w s w' s') {a : Option Addr} {l : List Value} (hc : Cells w a l) (hn : l ≠ [] → s.a = none ∨ ablk a ≠ ablk s.a) : Cells w' a l :=
  ⟨hc.1, fun j v hj => by
    have := hc.2 j v hj
    have hl : l ≠ [] := by intro e; subst e; simp at hj
    rw [World.cell?_of_block (h.block _ (hc.lt hl) (hn hl))]; exact this⟩
theorem run_append_zero {P : Program} {w : World} {t ty e : TypeId} {i : TypeInfo} (ht : P.underlying t = some (.slice e)) (hi : P.info? e = some i) {s x : Sl} (hx : x.len = 0) (hle : s.len ≤ s.cap) :
    (Builtin.append_ #[t, t] ty #[s.v, x.v]).run P w = .ok s.v w := by
  obtain ⟨sa, sl, sc⟩ := s
  obtain ⟨xa, xl, xc⟩ := x
  simp only at hx hle
  subst hx
  cases sa <;> cases xa <;> simp [Builtin.append_, run_underlying ht, sizeOf, typeInfo, hi, Builtin.lenOf, Builtin.firstCells, loadCells, loadCellsFrom, hle, storeCells]
theorem run_append_ok {P : Program} (w : World) (t ty e : TypeId) (i : TypeInfo) (ht : P.underlying t = some (.slice e)) (hi : P.info? e = some i)
    (g sLen sCap : Nat) (cur : Array Value) (fz : Nat × Nat) (hg : w.heap[g]? = some (.cells cur e fz)) (hok : OkF fz cur.size)
    (a : Addr) (m c : Nat) (news : List Value) (hl : news.length = m * i.size) (hnews : ∀ j u, news[j]? = some u → w.cell? (a.add j) = some u) (h1 : ∀ u ∈ news, u.oneCell' = true)
    (hroom : sLen + m ≤ sCap) (hfit : sLen * i.size + news.length ≤ cur.size) :
    (Builtin.append_ #[t, t] ty #[.slice (some ⟨g, 0, none⟩) sLen sCap, .slice (some a) m c]).run P w =
      .ok (.slice (some ⟨g, 0, none⟩) (sLen + m) sCap) (w.setRow g (cur.toList.take (sLen * i.size) ++ news ++ cur.toList.drop (sLen * i.size + news.length)).toArray) := by
  have hf := run_firstCells_some (P := P) w i.size m a m c news hl hnews
  have hst := run_storeCells_ok P g (sLen * i.size) e fz news 0 cur w hg hok (by simpa using hfit) h1
  simp only [Nat.add_zero] at hst
  simp [Builtin.append_, run_underlying ht, sizeOf, typeInfo, hi, Builtin.lenOf, hroom, hf, Addr.add_lit, hst]
/-- 'append(s, x...)', s a row of the call's own -/
theorem app_row {P : Program} {T : List TD} (hT : TabOk P T) {t ty e : TypeId} {d de : TD} (hd : T[t]? = some d) (hu : d.under = .slice e) (hde : T[e]? = some de) {z : Value} (hz : de.zero = some z) (hzs : z.cells.size = de.size) (hsz : 0 < de.size)
    {w : World} {s x : Sl} {xs ys : List Value} (hr : Row w s e de.size xs) (hx : Cells w x.a ys) (hxl : ys.length = x.len * de.size) (h1 : ∀ u ∈ ys, u.oneCell' = true) (hb : (s.len + x.len) * de.bytes ≤ 140737488355328) (hm : s.len + x.len ≤ 4611686018427387904)
    {k : Value → World → Prop} (hk : ∀ s' w', Row w' s' e de.size (xs ++ ys) → s'.len = s.len + x.len → Grew w s w' s' → k s'.v w') : SemOk P (Builtin.append_ #[t, t] ty #[s.v, x.v]) w k := by
  have hd' := hT t d hd
  have hde' := hT e de hde
  obtain ⟨i, hi, hi1, hi2, hi3⟩ := hde'.info
  have ht : P.underlying t = some (.slice e) := by
    obtain ⟨d0, q1, q2⟩ := hd'.under
    rw [hu] at q2
    cases d0 <;> first | (simp_all [undOf]; done) | (simp only [undOf] at q2; split at q2 <;> cases q2)
  by_cases hn : x.len = 0
  · have hys : ys = [] := List.eq_nil_of_length_eq_zero (by rw [hxl, hn]; simp)
    subst hys
    have hle : s.len ≤ s.cap := by
      rcases hr.at_ with ⟨_, h2, h3⟩ | ⟨_, _, _, _, h3, _⟩
      · omega
      · exact h3
    refine .of (v := s.v) (w' := w) ?_ (hk s w (by simpa using hr) (by omega) (Grew.refl w s))
    exact run_append_zero ht hi hn hle
  · have hys : ys ≠ [] := by
      intro e; subst e
      have : 0 < x.len * de.size := Nat.mul_pos (by omega) hsz
      simp at hxl; omega
    have hpl := hx.1 hys
    have hnews : ∀ j v, ys[j]? = some v → w.cell? ((⟨ablk x.a, aoff x.a, none⟩ : Addr).add j) = some v := fun j v hj => by rw [addr_add]; exact hx.2 j v hj
    have hxe : x.v = .slice (some ⟨ablk x.a, aoff x.a, none⟩) x.len x.cap := by
      show Value.slice x.a x.len x.cap = _
      conv => lhs; rw [hpl]
    have hsize : i.size = de.size := hi1
    have hbytes : i.bytes = de.bytes := hi2
    rw [hxe]
    have hcap : ∀ old, grownCap w (s.len + x.len) old e ≤ maxLen := fun old => grownCap_le_maxLen w _ old e (by simp only [maxLen]; omega)
    have hge : ∀ old, s.len + x.len ≤ grownCap w (s.len + x.len) old e := fun old => grownCap_ge w _ old e
    have hlen : (xs ++ ys).length = (s.len + x.len) * de.size := by rw [List.length_append, hr.len, hxl, Nat.add_mul]
    have fresh : ∀ old, k (.slice (some ⟨w.heap.size, 0, none⟩) (s.len + x.len) (grownCap w (s.len + x.len) old e))
        (w.drew.alloc (.cells (xs.toArray ++ ys.toArray ++ Builtin.zeroCells z.cells (grownCap w (s.len + x.len) old e - (s.len + x.len))) e)) := by
      intro old
      refine hk ⟨some ⟨w.heap.size, 0, none⟩, s.len + x.len, grownCap w (s.len + x.len) old e⟩ _ ⟨hlen, .inr ⟨w.heap.size, _, rfl, ⟨(0, 0), heap_alloc_new w.drew _, .zero _⟩, hge old, hcap old, ?_, ?_⟩⟩ rfl
        ⟨rfl, rfl, rfl, by simp, fun c hc _ => heap_alloc_old w.drew _ c hc, .inr (.inr (Nat.le_refl _))⟩
      · simp only [Array.size_append, List.size_toArray, size_zeroCells, hzs, hr.len, hxl, ← Nat.add_mul]
        congr 1
        have := hge old
        omega
      · simp only [Array.toList_append, List.append_assoc]
        rw [← List.append_assoc, ← hlen]
        exact List.take_left
    rcases hr.at_ with ⟨h1', h2, h3⟩ | ⟨b, cur, h1', h2, h3, h4, h5, h6⟩
    · have hxs : xs = [] := List.eq_nil_of_length_eq_zero (by rw [hr.len, h2]; simp)
      subst hxs
      have hb' : x.len * de.bytes ≤ 140737488355328 := by rw [h2, Nat.zero_add] at hb; exact hb
      have hrun := run_append_nil (P := P) w t ty e i z ht hi (hi3.trans hz) ⟨ablk x.a, aoff x.a, none⟩ x.len x.cap ys (by rw [hxl, hsize]) hnews (by omega) (by omega) (by rw [hbytes]; omega)
      have hf := fresh 0
      simp only [h2, Nat.zero_add, Array.empty_append] at hf
      have hse : s.v = .slice none 0 0 := by show Value.slice s.a s.len s.cap = _; rw [h1', h2, h3]
      rw [hse]
      exact .of hrun hf
    · have hse : s.v = .slice (some ⟨b, 0, none⟩) s.len s.cap := by show Value.slice s.a s.len s.cap = _; rw [h1']
      rw [hse]
      by_cases hroom : s.len + x.len ≤ s.cap
      · have hfit : s.len * i.size + ys.length ≤ cur.size := by rw [hxl, h5, hsize, ← Nat.add_mul]; exact Nat.mul_le_mul_right _ hroom
        obtain ⟨fz, h2, hok⟩ := h2
        have hrun := run_append_ok (P := P) w t ty e i ht hi b s.len s.cap cur fz h2 hok ⟨ablk x.a, aoff x.a, none⟩ x.len x.cap ys (by rw [hxl, hsize]) hnews h1 hroom hfit
        refine .of hrun (hk ⟨some ⟨b, 0, none⟩, s.len + x.len, s.cap⟩ _ ⟨hlen, .inr ⟨b, _, rfl, ⟨fz, setRow_heap w b cur _ e _ h2, ?_⟩, hroom, h4, ?_, ?_⟩⟩ rfl ⟨rfl, rfl, rfl, by simp, fun c _ hc => setRow_other w b c _ ?_, .inr (.inl ⟨by rw [h1']; simp, by rw [h1']⟩)⟩)
        · intro j hj
          refine hok j ?_
          simp only [List.size_toArray, List.length_append, List.length_take, List.length_drop, Array.length_toList] at hj
          omega
        · simp only [List.size_toArray, List.length_append, List.length_take, List.length_drop, Array.length_toList]
          omega
        · rw [hsize, h6, ← hlen]
          exact List.take_left
        · rcases hc with hc | hc
          · rw [h1'] at hc; cases hc
          · rw [h1'] at hc; exact hc
      · have holds : ∀ j v, xs[j]? = some v → w.cell? ((⟨b, 0, none⟩ : Addr).add j) = some v := fun j v hj => by
          have := hr.cells.2 j v hj
          rw [h1'] at this
          rw [addr_add]; exact this
        have hrun := run_append_grow (P := P) w t ty e i z ht hi (hi3.trans hz) ⟨b, 0, none⟩ s.len s.cap xs (by rw [hr.len, hsize]) holds ⟨ablk x.a, aoff x.a, none⟩ x.len x.cap ys (by rw [hxl, hsize]) hnews (by omega) (by omega) (growslice_fits (by omega) (by rw [hbytes]; exact hb))
        exact .of hrun (fresh s.cap)
theorem Blk.cells {w : World} {b : Nat} {l : List Value} {t : TypeId} (h : Blk w b l t) : Cells w (some ⟨b, 0, none⟩) l := ⟨fun _ => rfl, fun j v hj => by simp only [ablk, aoff, Nat.zero_add]; rw [h.cell]; exact hj⟩
/-- 'append(s, v)', one cell -/
theorem app_one {P : Program} {T : List TD} (hT : TabOk P T) {t ty e : TypeId} {d de : TD} (hd : T[t]? = some d) (hu : d.under = .slice e) (hde : T[e]? = some de) {z : Value} (hz : de.zero = some z) (hzs : z.cells.size = de.size) (hsz : de.size = 1)
    {w : World} {s : Sl} {xs : List Value} {v : Value} {b : Nat} {t' : TypeId} (hr : Row w s e 1 xs) (hx : Blk w b [v] t') (h1 : v.oneCell' = true) (hb : (xs.length + 1) * de.bytes ≤ 140737488355328) (hm : xs.length + 1 ≤ 4611686018427387904)
    {k : Value → World → Prop} (hk : ∀ s' w', Row w' s' e 1 (xs ++ [v]) → Grew w s w' s' → k s'.v w') : SemOk P (Builtin.append_ #[t, t] ty #[s.v, .slice (some ⟨b, 0, none⟩) 1 1]) w k := by
  have hl := hr.len
  simp at hl
  refine app_row (x := ⟨some ⟨b, 0, none⟩, 1, 1⟩) hT hd hu hde hz hzs (by omega) (xs := xs) (ys := [v]) (by rw [hsz]; exact hr) hx.cells (by simp [hsz]) (by simpa using h1) (by rw [← hl]; exact hb) (by rw [← hl]; exact hm) ?_
  intro s' w' hr' _ hg
  rw [hsz] at hr'
  exact hk s' w' hr' hg
/-- 'make' of a row whose elements take one cell each -/
theorem sem_make {P : Program} {T : List TD} (hT : TabOk P T) {t e : TypeId} {d de : TD} (hd : T[t]? = some d) (hu : d.under = .slice e) (hde : T[e]? = some de) {z : Value} (hz : de.zero = some z) (hzs : z.cells = #[z]) (hsz : de.size = 1)
    {w : World} {kl kc : IntKind} {n c : Int} (hn : 0 ≤ n ∧ n ≤ c) (hb : (de.bytes : Int) * c ≤ 281474976710656) (hm : c ≤ 4611686018427387904)
    {k : Value → World → Prop} (hk : ∀ w' b, NewBlk w b (List.replicate c.toNat z) e w' → k (.slice (some ⟨b, 0, none⟩) n.toNat c.toNat) w') : SemOk P (Instr.makeSlice t (.int kl n) (.int kc c)) w k := by
  have hd' := hT t d hd
  have hde' := hT e de hde
  obtain ⟨i, hi, hi1, hi2, hi3⟩ := hde'.info
  have ht : P.underlying t = some (.slice e) := by
    obtain ⟨d0, q1, q2⟩ := hd'.under
    rw [hu] at q2
    cases d0 <;> first | (simp_all [undOf]; done) | (simp only [undOf] at q2; split at q2 <;> cases q2)
  have hrun := run_make (P := P) w t e i z ht hi (hi3.trans hz) kl kc n c hn.1 hn.2 (by rw [hi2]; exact hb) (by omega)
  refine .of hrun (hk _ _ ⟨rfl, ?_⟩)
  congr 2
  apply Array.ext
  · simp [size_madeCells, hi1, hsz]
  · intro j h1 h2
    simp [madeCells, hzs, Nat.mod_one]
end Go.Proofs.YtffaffojkfalhaaGreatDoor
namespace Go.Proofs.YtffaffojkfalhaaGreatDoor
open Go Go.RowKit

/-- what holds no cells and lies from B on stays -/
def Keep (B : Nat) (w w' : World) : Prop := ∀ (j : Nat) (o : Obj), B ≤ j → w.heap[j]? = some o → (∀ c t f, o ≠ .cells c t f) → w'.heap[j]? = some o
theorem Keep.refl (B : Nat) (w : World) : Keep B w w := fun _ _ _ h _ => h
theorem Keep.trans {B : Nat} {a b c : World} (h : Keep B a b) (k : Keep B b c) : Keep B a c := fun j o hj ho hn => k j o hj (h j o hj ho hn) hn
theorem Keep.ext {B : Nat} {a b : World} (h : Ext a b) : Keep B a b := fun j _ _ ho _ => (h.block j (Array.getElem?_eq_some_iff.1 ho).1).trans ho
theorem Keep.upd {B : Nat} {w : World} {b : Nat} {c l : List Value} {t t' : TypeId} {w' : World} (hb : Blk w b c t) (h : Upd w b l t' w') : Keep B w w' := fun j o _ ho hn => by
  have hne : j ≠ b := by
    intro e; subst e
    rw [hb] at ho
    cases ho
    exact hn _ _ _ rfl
  rw [h.other hne]; exact ho
theorem Keep.grew {B : Nat} {w : World} {s : Sl} {e : TypeId} {sz : Nat} {xs : List Value} {w' : World} {s' : Sl} (hr : Row w s e sz xs) (h : Grew w s w' s') : Keep B w w' := fun j o _ ho hn => by
  rw [h.block j (Array.getElem?_eq_some_iff.1 ho).1 ?_]; exact ho
  rcases hr.at_ with ⟨h1, _⟩ | ⟨b, cur, h1, h2, _⟩
  · exact .inl h1
  · refine .inr fun e => ?_
    rw [h1] at e
    simp only [ablk] at e
    subst e
    obtain ⟨fz, h2, _⟩ := h2
    rw [h2] at ho
    cases ho
    exact hn _ _ _ rfl

/-- An iterator yields xs in their order, as long as the rounds say so; S: what it reads. -/
structure IterOk (P : Program) (gf : Nat) (lb : List Value) (xs : List (List Value)) (S : World → Prop) : Prop where
  enters : Enters P gf
  out : ∀ (l : Nat) (W : World) (J : Nat → World → Prop) (Jx : World → Prop), (∀ k W, J k W → S W) → (∀ k W W', J k W → Ext W W' → J k W') → (∀ W W', Jx W → Ext W W' → Jx W') →
    (∀ k x W1, xs[k]? = some x → J k W1 → Yld P l x.toArray W1 fun b W2 => (b = true → J (k + 1) W2) ∧ (b = false → Jx W2)) → J 0 W →
    Ret P gf (.func (.yield l) #[] #[] :: lb).toArray W fun _ W' => J xs.length W' ∨ Jx W'

def putAll : List Nat → List Value → Env → Env
  | p :: ps, v :: vs, env => putAll ps vs ((p, v) :: env)
  | _, _, env => env
theorem putAll_sat {n : Nat} : ∀ {ps : List Nat} {vs : List Value} {env : Env} {tm : Array Value}, Sat env tm → tm.size = n → (∀ p ∈ ps, p < n) →
    Sat (putAll ps vs env) ((ps.zip vs).foldl (fun t p => t.setIfInBounds p.1 p.2) tm) ∧ ((ps.zip vs).foldl (fun t p => t.setIfInBounds p.1 p.2) tm).size = n
  | [], vs, env, tm, hs, hn, _ => by cases vs <;> exact ⟨hs, hn⟩
  | p :: ps, [], env, tm, hs, hn, _ => ⟨hs, hn⟩
  | p :: ps, v :: vs, env, tm, hs, hn, hp => by
    simp only [putAll, List.zip_cons_cons, List.foldl_cons]
    exact putAll_sat (hs.put (by rw [hn]; exact hp p (by simp)) v) (by simpa using hn) (fun q hq => hp q (by simp [hq]))
/-- how a round may be left -/
def roundQ (B : Nat) (W : World) (I : World → Prop) (Ix : Code → World → Prop) : Post := fun e _ _ W' => match e with
  | .normal => Keep B W W' ∧ I W'
  | .ret => Keep B W W' ∧ Ix .ret W'
  | .exit id => Keep B W W' ∧ Ix (.exit id) W'
  | _ => False
theorem range_vc {C : Cx} (hT : TabOk C.P C.T) (hro : C.r = none) {g : Operand} {ps : Array Tmp} {assign body : Code} {env : Env} {ds : List Deferred} {w : World} {Q : Post} {gf : Nat} {lb : List Value}
    (hg : withV env g fun v => v = .func (.func gf) #[] lb.toArray) {xs : List (List Value)} {S : World → Prop} (hit : IterOk C.P gf lb xs S) (hps : ∀ x ∈ xs, x.length = ps.size) (hpn : (ps.toList.all fun p => decide (p < C.n)) = true)
    (I : Nat → World → Prop) (Ix : Code → World → Prop) (hI : ∀ k W W', I k W → Tw w.heap.size W W' → I k W') (hIx : ∀ c W W', Ix c W → Tw w.heap.size W W' → Ix c W') (hS : ∀ k W, I k W → S W) (h0 : I 0 w)
    (hround : ∀ l k x W, xs[k]? = some x → I k W → vcCode { C with r := some l } assign (putAll ps.toList x env) [] W fun e env1 ds1 W1 => (match e with
      | .normal => ds1 = [] ∧ Keep w.heap.size W W1 ∧ ∀ W2, Tw w.heap.size W1 W2 → vcCode { C with r := some l } body env1 [] W2 (roundQ w.heap.size W2 (I (k + 1)) Ix)
      | _ => False))
    (hdone : ∀ D W, w.heap.size ≤ D → W.heap[D]? = some (.deferred (some [])) → I xs.length W → Q .normal env ({ target := .collected D, args := #[] } :: ds) W)
    (hstop : ∀ D c W, w.heap.size ≤ D → W.heap[D]? = some (.deferred (some [])) → Ix c W → vcCode C c env ({ target := .collected D, args := #[] } :: ds) W Q) :
    SemC C (.rangeFunc g ps assign body) env ds w Q := by
  refine ⟨fun a hs hn hd => ?_⟩
  have hgv := withV_sound hg hs
  rw [hro]
  refine wpIn_rangeFunc ?_
  intro fn _
  obtain ⟨rec, hrec⟩ : ∃ rec : LoopState → Option Code → Loop, rec = fun st pe => { state := st, pending := pe, fn, tmps := a.tmps, params := ps, assign, body, defers := w.heap.size } := ⟨_, rfl⟩
  obtain ⟨W1, hW1⟩ : ∃ W1, (w.alloc (.deferred (some []))).alloc (.loop (rec .ready none)) = W1 := ⟨_, rfl⟩
  have hL1 : W1.heap[w.heap.size + 1]? = some (.loop (rec .ready none)) := by
    rw [← hW1]; have := heap_alloc_new (w.alloc (.deferred (some []))) (.loop (rec .ready none)); rwa [World.size_alloc] at this
  have hK1 : W1.heap[w.heap.size]? = some (.deferred (some [])) := by
    rw [← hW1]; exact (Below.heap_alloc _ _ _ (by simp)).trans (heap_alloc_new w _)
  have hE1 : Ext w W1 := by rw [← hW1]; exact ((Below.refl _ w).alloc (Nat.le_refl _) _).alloc (by simp) _
  refine ⟨w.heap.size + 1, [{ target := .collected w.heap.size, args := #[] }], W1, { target := .fn (.func gf) lb.toArray, args := #[.func (.yield (w.heap.size + 1)) #[] #[]] }, W1, gf,
    (.func (.yield (w.heap.size + 1)) #[] #[] :: lb).toArray, W1, ?_, ?_, fun _ _ => trivial, ?_, fun h => by simp [Fr, Fence.wide] at h, ?_⟩
  · rw [← hW1, hrec]; exact run_enterLoop_outer _ _ _ _ _
  · simp only [resolve, hgv]
    simp [Deferred.ofValue, go_sem]
  · have := hit.enters (.func (.yield (w.heap.size + 1)) #[] #[] :: lb).toArray W1
    simp only [invoke]
    rw [← this]
    simp
  · have nd : ∀ r c t f, Obj.loop r ≠ .cells c t f := fun _ _ _ _ => nofun
    have ndd : ∀ r c t f, Obj.deferred r ≠ .cells c t f := fun _ _ _ _ => nofun
    have tw1 : ∀ {W : World} {r : Loop} (o : Obj), W.heap[w.heap.size + 1]? = some (.loop r) → Tw w.heap.size W (W.putObj (w.heap.size + 1) o) := fun o h => (tw_putObj h (nd _)).mono (by omega)
    have lt1 : ∀ {W : World} {o : Obj}, W.heap[w.heap.size + 1]? = some o → w.heap.size + 1 < W.heap.size := fun h => (Array.getElem?_eq_some_iff.1 h).1
    refine callsIn_Fr.2 (Calls.mono' (Ret.calls hit.enters (hit.out (w.heap.size + 1) W1
      (fun k W => I k W ∧ W.heap[w.heap.size + 1]? = some (.loop (rec .ready none)) ∧ W.heap[w.heap.size]? = some (.deferred (some [])))
      (fun W => ∃ c, Ix c W ∧ W.heap[w.heap.size + 1]? = some (.loop (rec .done (some c))) ∧ W.heap[w.heap.size]? = some (.deferred (some [])))
      (fun k W h => hS k W h.1) ?_ ?_ ?_ ⟨hI _ _ _ h0 (hE1.tw (Nat.le_refl _)), hL1, hK1⟩)) ?_)
    · rintro k W W' ⟨h1, h2, h3⟩ he
      have := lt1 h2
      exact ⟨hI _ _ _ h1 (he.tw (by omega)), (he.block _ (by omega)).trans h2, (he.block _ (by omega)).trans h3⟩
    · rintro W W' ⟨c, h1, h2, h3⟩ he
      have := lt1 h2
      exact ⟨c, hIx _ _ _ h1 (he.tw (by omega)), (he.block _ (by omega)).trans h2, (he.block _ (by omega)).trans h3⟩
    · rintro k x W hx ⟨hi, hl, hk⟩
      have hlt := lt1 hl
      have hxm : x ∈ xs := List.mem_of_getElem? hx
      have hy := run_yield (P := C.P) (args := x.toArray) hl (by rw [hrec]; simpa using hps x hxm)
      rw [hrec] at hy
      have hzip : (ps.zip x.toArray).foldl (fun tmps (t, a) => tmps.setIfInBounds t a) a.tmps = (ps.toList.zip x).foldl (fun t p => t.setIfInBounds p.1 p.2) a.tmps := by
        rw [← Array.foldl_toList, Array.toList_zip]
      obtain ⟨hs1, hn1⟩ := putAll_sat (n := C.n) (ps := ps.toList) (vs := x) hs hn (fun p hp => by simpa using List.all_eq_true.1 hpn p hp)
      refine ⟨fn, _, assign, body, hy, ?_⟩
      simp only [hzip]
      refine roundIn_of_wpIn (F := Fr none) trivial ?_
      have hv := (vcCode_sound (C := { C with r := some (w.heap.size + 1) }) hT (hround (w.heap.size + 1) k x W hx hi)).out ⟨_, []⟩ hs1 hn1 rfl
      refine wpIn_mono hv ?_
      rintro e a1 Wa ⟨hn2, env1, hs2, hq⟩
      cases e with
      | normal =>
        obtain ⟨hd1, hkeep, hb⟩ := hq
        have hla := hkeep _ _ (by omega) hl (nd _)
        have hka := hkeep _ _ (by omega) hk (ndd _)
        have hlta := lt1 hla
        refine ⟨_, run_beginRound hla (by rw [hrec]), ?_⟩
        have hl2 : (Wa.putObj (w.heap.size + 1) (.loop { rec .ready none with state := .busy })).heap[w.heap.size + 1]? = some (.loop { rec .ready none with state := .busy }) := World.putObj_heap_same hlta
        have hk2 : (Wa.putObj (w.heap.size + 1) (.loop { rec .ready none with state := .busy })).heap[w.heap.size]? = some (.deferred (some [])) := (World.putObj_heap_other (by omega)).trans hka
        have hb := (vcCode_sound (C := { C with r := some (w.heap.size + 1) }) hT (hb _ (tw1 (.loop { rec .ready none with state := .busy }) hla))).out a1 hs2 hn2 hd1
        have fin : ∀ (jump : Option Code) (W3 : World), Keep w.heap.size (Wa.putObj (w.heap.size + 1) (.loop { rec .ready none with state := .busy })) W3 →
            (Instr.endRound (w.heap.size + 1) jump).run C.P W3 = .ok (.bool jump.isNone) (W3.putObj (w.heap.size + 1) (.loop (rec (if jump.isNone then .ready else .done) jump))) ∧
            Tw w.heap.size W3 (W3.putObj (w.heap.size + 1) (.loop (rec (if jump.isNone then .ready else .done) jump))) ∧
            (W3.putObj (w.heap.size + 1) (.loop (rec (if jump.isNone then .ready else .done) jump))).heap[w.heap.size + 1]? = some (.loop (rec (if jump.isNone then .ready else .done) jump)) ∧
            (W3.putObj (w.heap.size + 1) (.loop (rec (if jump.isNone then .ready else .done) jump))).heap[w.heap.size]? = some (.deferred (some [])) := fun jump W3 hk3 => by
          have hl3 := hk3 _ _ (by omega) hl2 (nd _)
          have h1 := run_endRound (P := C.P) jump hl3
          have h2 := hk3 _ _ (by omega) hk2 (ndd _)
          refine ⟨?_, tw1 _ hl3, World.putObj_heap_same (lt1 hl3), (World.putObj_heap_other (by omega)).trans h2⟩
          rw [hrec] at h1 ⊢
          exact h1
        refine wpIn_mono hb ?_
        rintro e a3 W3 ⟨_, _, _, hp⟩
        cases e with
        | normal =>
          obtain ⟨hk3, hi3⟩ := hp
          obtain ⟨hr, ht, hl4, hk4⟩ := fin none W3 hk3
          exact ⟨_, _, hr, true, rfl, fun _ => ⟨hI _ _ _ hi3 ht, hl4, hk4⟩, fun h => by cases h⟩
        | ret =>
          obtain ⟨hk3, hi3⟩ := hp
          obtain ⟨hr, ht, hl4, hk4⟩ := fin (some .ret) W3 hk3
          exact ⟨_, _, hr, false, rfl, fun h => (by cases h), fun _ => ⟨.ret, hIx _ _ _ hi3 ht, hl4, hk4⟩⟩
        | exit id =>
          obtain ⟨hk3, hi3⟩ := hp
          obtain ⟨hr, ht, hl4, hk4⟩ := fin (some (.exit id)) W3 hk3
          exact ⟨_, _, hr, false, rfl, fun h => (by cases h), fun _ => ⟨.exit id, hIx _ _ _ hi3 ht, hl4, hk4⟩⟩
        | goto t => exact hp.elim
        | panic ch => exact hp.elim
        | outgrown => exact hp.elim
      | _ => exact hq.elim
    · rintro e W2 ⟨v, rfl, (⟨hi, hl, hk⟩ | ⟨c, hi, hl, hk⟩)⟩
      · refine ⟨none, _, by have := run_endLoop (P := C.P) hl (by rw [hrec]; simp); rw [hrec] at this; exact this, hn, env, hs, ?_⟩
        have := hdone w.heap.size (W2.putObj (w.heap.size + 1) (.loop { rec .ready none with state := .exhausted })) (Nat.le_refl _) ((World.putObj_heap_other (by omega)).trans hk) (hI _ _ _ hi (tw1 _ hl))
        rw [hrec] at this
        simpa [hd] using this
      · refine ⟨some c, _, by have := run_endLoop (P := C.P) hl (by rw [hrec]; simp); rw [hrec] at this; exact this, ?_⟩
        have := hstop w.heap.size c (W2.putObj (w.heap.size + 1) (.loop { rec .done (some c) with state := .exhausted })) (Nat.le_refl _) ((World.putObj_heap_other (by omega)).trans hk) (hIx _ _ _ hi (tw1 _ hl))
        rw [hrec] at this
        have key := (vcCode_sound hT this).out { a with defers := [{ target := .collected w.heap.size, args := #[] }] ++ a.defers } hs hn (by simp [hd])
        rw [hro] at key
        exact key
end Go.Proofs.YtffaffojkfalhaaGreatDoor
