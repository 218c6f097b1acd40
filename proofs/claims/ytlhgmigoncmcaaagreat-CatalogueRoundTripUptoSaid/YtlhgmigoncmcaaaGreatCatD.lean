/-
  Catalogues: what they hold, and how it lies in memory.
-/
import Derived.Test.YtlhgmigoncmcaaaGreatNamA
namespace Go.Proofs.YtlhgmigoncmcaaaGreat
open Go Go.RowKit

/-! ### slices whose elements take n cells -/
structure SlF {α : Type} (f : α → List Value) (V : World) (s : Sl) (l : List α) : Prop where
  len : s.len = l.length
  cap : s.len ≤ s.cap
  cells : Cells V s.a (l.flatMap f)
section
variable {α : Type} {f : α → List Value} {n : Nat} {V V' : World} {s : Sl} {l : List α}
theorem SlF.up (h : SlF f V s l) (k : Sub V V') : SlF f V' s l := ⟨h.len, h.cap, h.cells.sub' k⟩
theorem SlF.nil (f : α → List Value) (V : World) : SlF f V ⟨none, 0, 0⟩ [] := ⟨rfl, Nat.le_refl _, ⟨fun h => absurd rfl h, fun j v hj => by simp at hj⟩⟩
theorem flat_len (hf : ∀ x, (f x).length = n) : ∀ l : List α, (l.flatMap f).length = l.length * n
  | [] => by simp
  | x :: l => by simp only [List.flatMap_cons, List.length_append, hf, flat_len hf l, List.length_cons, Nat.succ_mul]; omega
theorem flat_take (hf : ∀ x, (f x).length = n) (b : Nat) : (l.flatMap f).take (b * n) = (l.take b).flatMap f := by
  induction b generalizing l with
  | zero => simp
  | succ b ih =>
    cases l with
    | nil => simp
    | cons x l =>
      simp only [List.flatMap_cons, List.take_succ_cons]
      rw [List.take_append, hf, List.take_of_length_le (by rw [hf, Nat.succ_mul]; omega), show (b + 1) * n - n = b * n by rw [Nat.succ_mul]; omega, ih]
theorem flat_drop (hf : ∀ x, (f x).length = n) (b : Nat) : (l.flatMap f).drop (b * n) = (l.drop b).flatMap f := by
  induction b generalizing l with
  | zero => simp
  | succ b ih =>
    cases l with
    | nil => simp
    | cons x l =>
      simp only [List.flatMap_cons, List.drop_succ_cons]
      rw [List.drop_append, hf, List.drop_of_length_le (by rw [hf, Nat.succ_mul]; omega), show (b + 1) * n - n = b * n by rw [Nat.succ_mul]; omega, ih]
      rfl
theorem flat_get (hf : ∀ x, (f x).length = n) {i j : Nat} (hi : i < l.length) (hj : j < n) : (l.flatMap f)[i * n + j]? = (f l[i])[j]? := by
  rw [← List.getElem?_drop, flat_drop hf, List.drop_eq_getElem_cons hi, List.flatMap_cons, List.getElem?_append_left (by rw [hf]; exact hj)]
theorem SlF.get (h : SlF f V s l) (hf : ∀ x, (f x).length = n) (hn : 0 < n) {i : Nat} (hi : i < l.length) : Plain s.a ∧ ∀ j v, (f l[i])[j]? = some v → V.cell? ⟨ablk s.a, aoff s.a + i * n + j, none⟩ = some v := by
  refine ⟨h.cells.1 fun e => ?_, fun j v hj => ?_⟩
  · have := congrArg List.length e
    rw [flat_len hf] at this
    have : 0 < l.length * n := Nat.mul_pos (by omega) hn
    simp_all
  · have hjn : j < n := by
      have := (List.getElem?_eq_some_iff.1 hj).1
      rwa [hf] at this
    rw [Nat.add_assoc]
    exact h.cells.2 _ v (by rw [flat_get hf hi hjn]; exact hj)
theorem SlF.sub (h : SlF f V s l) (hf : ∀ x, (f x).length = n) {a b : Nat} (hab : a ≤ b) (hb : b ≤ l.length) : SlF f V ⟨subA s.a a s.cap n, b - a, s.cap - a⟩ ((l.take b).drop a) := by
  have h1 := h.len
  have h2 := h.cap
  refine ⟨by simp; omega, by dsimp only; omega, ?_⟩
  have := h.cells.sub (i := a) (b := b) (m := s.cap) n (by omega) hab
  rw [flat_take hf, flat_drop hf] at this
  exact this
end

theorem SlF.get1 {α : Type} {f : α → List Value} {V : World} {s : Sl} {l : List α} (h : SlF f V s l) {g : α → Value} (hf : ∀ x, f x = [g x]) {i : Nat} (hi : i < l.length) : Plain s.a ∧ V.cell? ⟨ablk s.a, aoff s.a + i, none⟩ = some (g l[i]) := by
  obtain ⟨h1, h2⟩ := h.get (n := 1) (fun x => by rw [hf]; rfl) (by omega) hi
  refine ⟨h1, ?_⟩
  have := h2 0 (g l[i]) (by rw [hf]; rfl)
  simpa using this
/-! ### strings, references, digests, entries -/
abbrev strC (l : List UInt8) : List Value := [str l]
abbrev Strs := SlF strC
structure RefD where
  name : List UInt8
  ver : Int
  deriving DecidableEq, Inhabited
abbrev refC (r : RefD) : List Value := [str r.name, iv r.ver]
abbrev Refs := SlF refC
/-- a digest: 32 bytes -/
abbrev Dig := Nat → UInt8
def digC (d : Dig) : List Value := [bv (d 0), bv (d 1), bv (d 2), bv (d 3), bv (d 4), bv (d 5), bv (d 6), bv (d 7), bv (d 8), bv (d 9), bv (d 10), bv (d 11), bv (d 12), bv (d 13), bv (d 14), bv (d 15),
  bv (d 16), bv (d 17), bv (d 18), bv (d 19), bv (d 20), bv (d 21), bv (d 22), bv (d 23), bv (d 24), bv (d 25), bv (d 26), bv (d 27), bv (d 28), bv (d 29), bv (d 30), bv (d 31)]
abbrev Digs := SlF digC
structure Ent where
  name : List UInt8
  ver : Int
  kind : Int
  day : Int
  size : Int
  sum : Dig
  sources : List RefD
  groups : List (List UInt8)
  emb : Int
  need : Int
  keep : Int
  csize : Int
  csum : Dig
  pieces : List Dig
instance : Inhabited Ent := ⟨⟨[], 0, 0, 0, 0, fun _ => 0, [], [], 0, 0, 0, 0, fun _ => 0, []⟩⟩
/-- the heads of an entry's slices -/
structure EntH where
  so : Sl
  gr : Sl
  pi : Sl
def entC (e : Ent) (h : EntH) : List Value := [str e.name, iv e.ver, iv e.kind, iv e.day, iv e.size] ++ (digC e.sum ++ ([h.so.v, h.gr.v, iv e.emb, iv e.need, iv e.keep, iv e.csize] ++ (digC e.csum ++ [h.pi.v])))
theorem entC_len (e : Ent) (h : EntH) : (entC e h).length = 76 := rfl
structure EntOk (V : World) (e : Ent) (h : EntH) : Prop where
  so : Refs V h.so e.sources
  gr : Strs V h.gr e.groups
  pi : Digs V h.pi e.pieces
theorem EntOk.up {V V' : World} {e : Ent} {h : EntH} (k : EntOk V e h) (hs : Sub V V') : EntOk V' e h := ⟨k.so.up hs, k.gr.up hs, k.pi.up hs⟩
structure Ents (V : World) (s : Sl) (l : List Ent) : Prop where
  ex : ∃ ps : List (Ent × EntH), ps.map (·.1) = l ∧ SlF (fun p : Ent × EntH => entC p.1 p.2) V s ps ∧ ∀ p ∈ ps, EntOk V p.1 p.2
section
variable {V V' : World} {s : Sl} {l : List Ent}
theorem Ents.up (h : Ents V s l) (k : Sub V V') : Ents V' s l := by
  obtain ⟨ps, h1, h2, h3⟩ := h.ex
  exact ⟨ps, h1, h2.up k, fun p hp => (h3 p hp).up k⟩
theorem Ents.len (h : Ents V s l) : s.len = l.length := by
  obtain ⟨ps, rfl, h2, h3⟩ := h.ex
  rw [h2.len]; simp
theorem Ents.cap (h : Ents V s l) : s.len ≤ s.cap := by
  obtain ⟨ps, rfl, h2, h3⟩ := h.ex
  exact h2.cap
theorem Ents.get (h : Ents V s l) {i : Nat} (hi : i < l.length) : Plain s.a ∧ ∃ e, EntOk V l[i] e ∧ ∀ j v, (entC l[i] e)[j]? = some v → V.cell? ⟨ablk s.a, aoff s.a + i * 76 + j, none⟩ = some v := by
  obtain ⟨ps, rfl, h2, h3⟩ := h.ex
  have hi' : i < ps.length := by simpa using hi
  obtain ⟨g1, g2⟩ := h2.get (n := 76) (fun _ => rfl) (by omega) hi'
  refine ⟨g1, ps[i].2, ?_, ?_⟩
  · have := h3 ps[i] (List.getElem_mem hi')
    simpa using this
  · simpa using g2
theorem Ents.sub (h : Ents V s l) {a b : Nat} (hab : a ≤ b) (hb : b ≤ l.length) : Ents V ⟨subA s.a a s.cap 76, b - a, s.cap - a⟩ ((l.take b).drop a) := by
  obtain ⟨ps, rfl, h2, h3⟩ := h.ex
  have := h2.sub (n := 76) (fun _ => rfl) hab (by simpa using hb)
  exact ⟨(ps.take b).drop a, by simp [List.map_drop, List.map_take], this, fun p hp => h3 p (List.mem_of_mem_take (List.mem_of_mem_drop hp))⟩
end
theorem Ents.ctake {V : World} {s : Sl} {l : List Ent} (h : Ents V s l) {b : Nat} (hb : b ≤ l.length) : Ents V ⟨subA s.a 0 s.cap 76, b - 0, s.cap - 0⟩ (l.take b) := by
  have := h.sub (Nat.zero_le b) hb
  simpa using this
theorem SlF.ctake {α : Type} {f : α → List Value} {n : Nat} {V : World} {s : Sl} {l : List α} (h : SlF f V s l) (hf : ∀ x, (f x).length = n) {b : Nat} (hb : b ≤ l.length) : SlF f V ⟨subA s.a 0 s.cap n, b - 0, s.cap - 0⟩ (l.take b) := by
  have := h.sub hf (Nat.zero_le b) hb
  simpa using this

/-! ### the first code -/
/-- the first of f 0, f 1, .. below n that is not 0, or 0 -/
def firstCode (f : Nat → Int) : Nat → Int
  | 0 => 0
  | k + 1 => if firstCode f k ≠ 0 then firstCode f k else f k
theorem firstCode_zero {f : Nat → Int} {k : Nat} (h : firstCode f k = 0) (hk : f k = 0) : firstCode f (k + 1) = 0 := by simp [firstCode, h, hk]
theorem firstCode_hit {f : Nat → Int} {k n : Nat} (h : firstCode f k = 0) (hk : f k ≠ 0) (hn : k < n) : firstCode f n = f k := by
  have h1 : firstCode f (k + 1) = f k := by simp [firstCode, h]
  have key : ∀ m, firstCode f (k + 1 + m) = f k := by
    intro m
    induction m with
    | zero => exact h1
    | succ m ih => rw [← Nat.add_assoc, firstCode, ih, if_pos hk]
  have := key (n - (k + 1))
  rwa [show k + 1 + (n - (k + 1)) = n by omega] at this
theorem firstCode_congr {f g : Nat → Int} {n : Nat} (h : ∀ i, i < n → f i = g i) : firstCode f n = firstCode g n := by
  induction n with
  | zero => rfl
  | succ n ih => simp only [firstCode, ih fun i hi => h i (by omega), h n (by omega)]
theorem firstCode_all {f : Nat → Int} {n : Nat} (h : firstCode f n = 0) {i : Nat} (hi : i < n) : f i = 0 := by
  refine Decidable.byContradiction fun hne => ?_
  induction n with
  | zero => omega
  | succ n ih =>
    by_cases h0 : firstCode f n = 0
    · by_cases hin : i = n
      · subst hin
        simp [firstCode, h0] at h
        exact hne h
      · exact ih h0 (by omega)
    · simp [firstCode, h0] at h
end Go.Proofs.YtlhgmigoncmcaaaGreat
