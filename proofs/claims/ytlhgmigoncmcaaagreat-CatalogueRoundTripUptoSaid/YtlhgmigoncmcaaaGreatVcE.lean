/-
  Slices in memory: what they read as.
-/
import Derived.Test.YtlhgmigoncmcaaaGreatVcD
namespace Go.Proofs.YtlhgmigoncmcaaaGreat
open Go Go.RowKit

/-- a slice's head -/
structure Sl where
  a : Option Addr
  len : Nat
  cap : Nat
abbrev Sl.v (s : Sl) : Value := .slice s.a s.len s.cap
/-- a slice of bytes -/
structure By (w : World) (s : Sl) (l : List UInt8) : Prop where
  len : s.len = l.length
  cells : Cells w s.a (l.map bv)
  cap : s.len ≤ s.cap
theorem By.ext {w w' : World} {s : Sl} {l : List UInt8} (h : By w s l) (he : Ext w w') : By w' s l := ⟨h.len, h.cells.ext he, h.cap⟩
theorem By.tw {B : Nat} {w w' : World} {s : Sl} {l : List UInt8} (h : By w s l) (he : Tw B w w') : By w' s l := ⟨h.len, h.cells.tw he, h.cap⟩
theorem By.plain {w : World} {s : Sl} {l : List UInt8} (h : By w s l) {i : Nat} (hi : i < l.length) : Plain s.a := h.cells.1 (by intro e; simp at e; subst e; simp at hi)
theorem By.cell {w : World} {s : Sl} {l : List UInt8} (h : By w s l) {i : Nat} (hi : i < l.length) : w.cell? ⟨ablk s.a, aoff s.a + i, none⟩ = some (bv l[i]) :=
  h.cells.2 i _ (by simp [hi])
theorem Cells.sub {w : World} {a : Option Addr} {l : List Value} (h : Cells w a l) {i m b : Nat} (sz : Nat) (hm : b ≤ m) (hi : i ≤ b) : Cells w (subA a i m sz) ((l.take (b * sz)).drop (i * sz)) := by
  by_cases hn : (l.take (b * sz)).drop (i * sz) = []
  · rw [hn]; exact ⟨fun h => absurd rfl h, fun j v hj => by simp at hj⟩
  have hl : l ≠ [] := by intro e; subst e; simp at hn
  have hib : m ≠ i := by
    intro e
    have : b = i := by omega
    subst this
    exact hn (List.drop_eq_nil_of_le (by simp; omega))
  refine ⟨fun _ => subA_plain (h.1 hl), fun j v hj => ?_⟩
  rw [subA_blk, subA_off (h.1 hl) hib, Nat.add_assoc]
  rw [List.getElem?_drop, List.getElem?_take] at hj
  split at hj
  · exact h.2 _ v hj
  · cases hj
theorem By.sub {w : World} {x : Sl} {l : List UInt8} (h : By w x l) {a b : Nat} (hab : a ≤ b) (hb : b ≤ l.length) : By w ⟨subA x.a a x.cap 1, b - a, x.cap - a⟩ ((l.take b).drop a) := by
  have h1 := h.len
  have h2 := h.cap
  refine ⟨by simp; omega, ?_, by dsimp only; omega⟩
  have := h.cells.sub (i := a) (b := b) (m := x.cap) 1 (by omega) hab
  simpa [List.map_drop, List.map_take] using this
/-- a slice of ints -/
abbrev iv (x : Int) : Value := .int .i64 x
structure In (w : World) (s : Sl) (l : List Int) : Prop where
  len : s.len = l.length
  cells : Cells w s.a (l.map iv)
  cap : s.len ≤ s.cap
theorem In.ext {w w' : World} {s : Sl} {l : List Int} (h : In w s l) (he : Ext w w') : In w' s l := ⟨h.len, h.cells.ext he, h.cap⟩
theorem In.tw {B : Nat} {w w' : World} {s : Sl} {l : List Int} (h : In w s l) (he : Tw B w w') : In w' s l := ⟨h.len, h.cells.tw he, h.cap⟩
theorem In.plain {w : World} {s : Sl} {l : List Int} (h : In w s l) {i : Nat} (hi : i < l.length) : Plain s.a := h.cells.1 (by intro e; simp at e; subst e; simp at hi)
theorem In.cell {w : World} {s : Sl} {l : List Int} (h : In w s l) {i : Nat} (hi : i < l.length) : w.cell? ⟨ablk s.a, aoff s.a + i, none⟩ = some (iv l[i]) :=
  h.cells.2 i _ (by simp [hi])
/-- a slice of slices of bytes -/
structure Ch (w : World) (s : Sl) (ll : List (List UInt8)) : Prop where
  len : s.len = ll.length
  cap : s.len ≤ s.cap
  ex : ∃ hs : List Sl, hs.length = ll.length ∧ Cells w s.a (hs.map Sl.v) ∧ ∀ (i : Nat) (x : Sl) (l : List UInt8), hs[i]? = some x → ll[i]? = some l → By w x l
theorem Ch.ext {w w' : World} {s : Sl} {ll : List (List UInt8)} (h : Ch w s ll) (he : Ext w w') : Ch w' s ll := by
  obtain ⟨hs, h1, h2, h3⟩ := h.ex
  exact ⟨h.len, h.cap, hs, h1, h2.ext he, fun i x l hx hl => (h3 i x l hx hl).ext he⟩
theorem Ch.tw {B : Nat} {w w' : World} {s : Sl} {ll : List (List UInt8)} (h : Ch w s ll) (he : Tw B w w') : Ch w' s ll := by
  obtain ⟨hs, h1, h2, h3⟩ := h.ex
  exact ⟨h.len, h.cap, hs, h1, h2.tw he, fun i x l hx hl => (h3 i x l hx hl).tw he⟩
theorem Ch.get {w : World} {s : Sl} {ll : List (List UInt8)} (h : Ch w s ll) {i : Nat} (hi : i < ll.length) : Plain s.a ∧ ∃ x : Sl, w.cell? ⟨ablk s.a, aoff s.a + i, none⟩ = some x.v ∧ By w x ll[i] := by
  obtain ⟨hs, h1, h2, h3⟩ := h.ex
  have hi' : i < hs.length := by omega
  exact ⟨h2.1 (by intro e; simp at e; subst e; simp at hi'), hs[i], h2.2 i _ (by simp [hi']), h3 i _ _ (by simp [hi']) (by simp [hi])⟩
theorem Ext.byExt {a b c : World} (h : Ext a b) (k : Ext b c) : Ext a c := h.trans k
theorem Ext.byUpd {a w w' : World} {b : Nat} {l : List Value} {t : TypeId} (h : Ext a w) (hu : Upd w b l t w') (hb : a.heap.size ≤ b) : Ext a w' := Below.trans h (hu.below hb)
theorem Ext.byTw {B : Nat} {a w w' : World} (h : Ext a w) (ht : Tw B w w') (hb : a.heap.size ≤ B) : Ext a w' := Below.tw h ht hb
theorem Ext.byBelow {B : Nat} {a w w' : World} (h : Ext a w) (k : Below B w w') (hb : a.heap.size ≤ B) : Ext a w' := Below.trans h (k.mono hb)
theorem Blk.byExt {w w' : World} {b : Nat} {l : List Value} {t : TypeId} (h : Blk w b l t) (k : Ext w w') : Blk w' b l t := h.ext k
theorem Blk.byUpd {w w' : World} {b c : Nat} {l l' : List Value} {t t' : TypeId} (h : Blk w b l t) (hu : Upd w c l' t' w') (hb : b ≠ c) : Blk w' b l t := (hu.other hb).trans h
theorem Blk.byTw {B : Nat} {w w' : World} {b : Nat} {l : List Value} {t : TypeId} (h : Blk w b l t) (ht : Tw B w w') (_ : 0 ≤ b) : Blk w' b l t := h.tw ht
theorem Blk.byBelow {B : Nat} {w w' : World} {b : Nat} {l : List Value} {t : TypeId} (h : Blk w b l t) (k : Below B w w') (hb : b < B) : Blk w' b l t := h.mono k hb
theorem Blk.cel {w : World} {b : Nat} {l : List Value} {t : TypeId} (h : Blk w b l t) {i : Nat} {u : Value} (hu : l[i]? = some u) : w.cell? ⟨b, i, none⟩ = some u := (h.cell i).trans hu
/-- the cells from block B on that w has, W has too -/
structure Mid (B : Nat) (w W : World) : Prop where
  size : w.heap.size ≤ W.heap.size
  cel : ∀ j c t f, B ≤ j → w.heap[j]? = some (.cells c t f) → W.heap[j]? = some (.cells c t f)
theorem Mid.refl (B : Nat) (w : World) : Mid B w w := ⟨Nat.le_refl _, fun _ _ _ _ _ h => h⟩
theorem Mid.byExt {B : Nat} {a b c : World} (h : Mid B a b) (k : Ext b c) : Mid B a c :=
  ⟨Nat.le_trans h.size k.size, fun j c t f hj hc => by have := h.cel j c t f hj hc; rw [k.block j (Array.getElem?_eq_some_iff.1 this).1]; exact this⟩
theorem Mid.byUpd {B : Nat} {a w w' : World} {b : Nat} {l : List Value} {t : TypeId} (h : Mid B a w) (hu : Upd w b l t w') (hb : b < B ∨ a.heap.size ≤ b) : Mid B a w' :=
  ⟨by rw [hu.size]; exact h.size, fun j c t f hj hc => by
    have h1 := h.cel j c t f hj hc
    have h2 := (Array.getElem?_eq_some_iff.1 hc).1
    rw [hu.other (by omega)]; exact h1⟩
theorem Mid.byTw {B B' : Nat} {a w w' : World} (h : Mid B a w) (ht : Tw B' w w') (_ : 0 ≤ B) : Mid B a w' :=
  ⟨Nat.le_trans h.size ht.size, fun j c t f hj hc => ht.cel _ _ _ _ (h.cel j c t f hj hc)⟩
theorem Mid.byBelow {B B' : Nat} {a w w' : World} (h : Mid B a w) (k : Below B' w w') (hb : a.heap.size ≤ B') : Mid B a w' :=
  ⟨Nat.le_trans h.size k.size, fun j c t f hj hc => by
    have h2 := (Array.getElem?_eq_some_iff.1 hc).1
    rw [k.block j (by omega)]; exact h.cel j c t f hj hc⟩
theorem Ext.trans' {a b c : World} (h : Ext a b) (k : Below a.heap.size b c) : Ext a c := Below.trans h k
end Go.Proofs.YtlhgmigoncmcaaaGreat
