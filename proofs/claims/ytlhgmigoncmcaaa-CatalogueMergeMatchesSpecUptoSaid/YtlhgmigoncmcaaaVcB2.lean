/-
  Parts of slices and strings; struct literals; struct equality.
-/
import Derived.Test.YtlhgmigoncmcaaaVcB
import Derived.Laws.Strings2
import Derived.Laws.StructEq
namespace Go.Proofs.Ytlhgmigoncmcaaa
open Go Go.RowKit

/-! ### parts of slices and strings -/
def subA (a : Option Addr) (l m size : Nat) : Option Addr := if m = l then a else a.map fun p => p.add (l * size)
theorem subA_none (l m size : Nat) : subA none l m size = none := by unfold subA; split <;> rfl
theorem subA_plain {a : Option Addr} (h : Plain a) {l m size : Nat} : Plain (subA a l m size) := by
  unfold subA
  split
  · exact h
  · rw [h]; simp [Plain, ablk, aoff, addr_add]
theorem subA_blk {a : Option Addr} {l m size : Nat} : ablk (subA a l m size) = ablk a := by
  unfold subA
  split
  · rfl
  · cases a with
    | none => rfl
    | some p => simp only [Option.map_some, ablk, Addr.add]; split <;> rfl
theorem subA_off {a : Option Addr} (h : Plain a) {l m size : Nat} (hm : m ≠ l) : aoff (subA a l m size) = aoff a + l * size := by
  unfold subA
  rw [if_neg hm, h]
  simp [aoff, addr_add]
def boundK (x : Option Value) (dflt : Nat) (most : Nat) (k : Nat → Prop) : Prop :=
  match x with
  | none => k dflt
  | some (.int _ i) => (0 ≤ i ∧ i ≤ (most : Int)) ∧ k i.toNat
  | _ => False
theorem boundK_some {P : Program} {v : Value} {y d : Nat} {k : Nat → Prop} {code : BoundsCode} {w : World} (h : boundK (some v) d y k) : ∃ n, n ≤ y ∧ (Instr.sliceBound v y code).run P w = .ok n w ∧ k n := by
  unfold boundK at h
  split at h
  · rename_i hx; cases hx
  · rename_i q i hx
    cases hx
    exact ⟨i.toNat, by omega, by simp [Instr.sliceBound, asIntOf, h.1], h.2⟩
  · exact h.elim
def sliceV (C : Cx) (t : TypeId) (x : Value) (lo hi mx : Option Value) (w : World) (k : Value → World → Prop) : Prop :=
  tdK C.T t fun d => match d.under, x with
    | .string, .string ⟨⟨b⟩⟩ => (match mx with
      | none => boundK hi b.length b.length fun h => boundK lo 0 h fun l => k (.string ⟨⟨(b.take h).drop l⟩⟩) w
      | some _ => False)
    | .slice e, .slice a len cap => tdK C.T e fun de => (match mx with
      | none => boundK hi len cap fun h => boundK lo 0 h fun l => (l ≤ h) ∧ k (.slice (subA a l cap de.size) (h - l) (cap - l)) w
      | some mx => boundK (some mx) cap cap fun m => (match hi with
        | some hi => boundK (some hi) len m fun h => boundK lo 0 h fun l => k (.slice (subA a l m de.size) (h - l) (m - l)) w
        | none => False))
    | .array n e, .pointer (some ⟨b, o, none⟩) => tdK C.T e fun de => (match mx with
      | none => boundK hi n n fun h => boundK lo 0 h fun l => k (.slice (subA (some ⟨b, o, none⟩) l n de.size) (h - l) (n - l)) w
      | some _ => False)
    | _, _ => False
theorem run_bounds {P : Program} {isS : Bool} {len cap : Nat} {lo hi : Option Value} {k : Nat → Nat → Prop} {w : World}
    (h : boundK hi len cap fun h => boundK lo 0 h fun l => k l h) : ∃ l h, (Instr.sliceBounds isS len cap lo hi none).run P w = .ok (l, h, cap) w ∧ k l h := by
  cases hi with
  | none =>
    cases lo with
    | none => exact ⟨0, len, by simp [Instr.sliceBounds], h⟩
    | some v =>
      have h : boundK (some v) 0 len fun l => k l len := h
      obtain ⟨l, hle, hr, hk⟩ := boundK_some (P := P) (w := w) (code := .sliceB) (d := 0) h
      exact ⟨l, len, by simp [Instr.sliceBounds, hr], hk⟩
  | some u =>
    obtain ⟨m, hle, hr, h⟩ := boundK_some (P := P) (w := w) (code := if isS then .sliceAcap else .sliceAlen) (d := len) h
    cases lo with
    | none => exact ⟨0, m, by simp [Instr.sliceBounds, hr], h⟩
    | some v =>
      obtain ⟨l, hle, hr', hk⟩ := boundK_some (P := P) (w := w) (code := .sliceB) (d := 0) h
      exact ⟨l, m, by simp [Instr.sliceBounds, hr, hr'], hk⟩
theorem sliceV_sound {C : Cx} (hT : TabOk C.P C.T) {t : TypeId} {x : Value} {lo hi mx : Option Value} {w : World} {k : Value → World → Prop} (h : sliceV C t x lo hi mx w k) :
    SemOk C.P (Instr.sliceAt t x lo hi mx) w k := by
  replace h := tdK_sound hT h; obtain ⟨d, hd, h⟩ := h
  split at h
  · rename_i b hu
    have hru := hd.string hu w
    split at h
    · obtain ⟨l, h', hr, hk⟩ := run_bounds (P := C.P) (isS := false) (w := w) (k := fun l h => k (.string ⟨⟨(b.take h).drop l⟩⟩) w) h
      refine .of (v := .string ⟨⟨(b.take h').drop l⟩⟩) (w' := w) ?_ hk
      have hsz : (ByteArray.mk ⟨b⟩).size = b.length := rfl
      have hex : (ByteArray.mk ⟨b⟩).extract l h' = ⟨⟨(b.take h').drop l⟩⟩ := by
        have := ByteArray.extract_mk b l h'
        rw [List.drop_take]
        exact this
      simp only [Instr.sliceAt, Instr.slice, Sem.run_bind, hru, Result.andThen_ok, hsz, hr, Option.isSome_none, Bool.false_eq_true, if_false, Sem.run_pure, hex]
    · exact h.elim
  · rename_i e a len cap hu
    have hru := hd.slice hu w
    replace h := tdK_sound hT h; obtain ⟨de, hde, h⟩ := h
    split at h
    · obtain ⟨l, h', hr, hle, hk⟩ := run_bounds (P := C.P) (isS := true) (w := w) (k := fun l h => l ≤ h ∧ k (.slice (subA a l cap de.size) (h - l) (cap - l)) w) h
      refine .of ?_ hk
      simp [Instr.sliceAt, Instr.slice, hru, hr, hde.run_size, subA]
    · rename_i mx
      obtain ⟨m, _, hr0, h⟩ := boundK_some (P := C.P) (w := w) (code := .slice3Acap) h
      split at h
      · rename_i hi
        obtain ⟨h', _, hr1, h⟩ := boundK_some (P := C.P) (w := w) (code := .slice3B) h
        cases lo with
        | none =>
          refine .of (v := .slice (subA a 0 m de.size) (h' - 0) (m - 0)) (w' := w) ?_ h
          simp [Instr.sliceAt, Instr.slice, Instr.sliceBounds, hru, hr0, hr1, hde.run_size, subA]
        | some v =>
          obtain ⟨l, _, hr2, hk⟩ := boundK_some (P := C.P) (w := w) (code := .slice3C) h
          refine .of ?_ hk
          simp [Instr.sliceAt, Instr.slice, Instr.sliceBounds, hru, hr0, hr1, hr2, hde.run_size, subA]
      · exact h.elim
  · rename_i n e b o hu
    have hru := hd.array hu w
    replace h := tdK_sound hT h; obtain ⟨de, hde, h⟩ := h
    split at h
    · obtain ⟨l, h', hr, hk⟩ := run_bounds (P := C.P) (isS := false) (w := w) (k := fun l h => k (.slice (subA (some ⟨b, o, none⟩) l n de.size) (h - l) (n - l)) w) h
      refine .of ?_ hk
      simp only [Instr.sliceAt, Instr.sureAddr, Sem.run_bind, hru, hr, hde.run_size, Result.andThen_ok, Sem.run_pure, subA]
      split <;> rfl
    · exact h.elim
  · exact h.elim

/-! ### struct literals -/
/-- the parts of a struct's literal, put over its zero -/
def fillK (C : Cx) (fs : List (Nat × TypeId)) : List (Nat × Value) → List Value → (List Value → Prop) → Prop
  | [], c, k => k c
  | (i, v) :: r, c, k => match fs[i]? with
    | some f => tdK C.T f.2 fun df => cellsK v fun l => (match Nat.beq l.length df.size with
      | true => replK c f.1 l fun c' => fillK C fs r c' k
      | false => False)
    | none => False
theorem foldl_set (off : Nat) : ∀ (l : List Value) (k : Nat) (acc : Array Value), off + k + l.length ≤ acc.size →
    ((l.zipIdx k).foldl (fun cs p => cs.setIfInBounds (off + p.2) p.1) acc).toList = acc.toList.take (off + k) ++ l ++ acc.toList.drop (off + k + l.length)
  | [], k, acc, _ => by simp
  | v :: l, k, acc, h => by
    simp only [List.length_cons] at h
    rw [List.zipIdx_cons, List.foldl_cons, foldl_set off l (k + 1) _ (by simp; omega)]
    have hlt : off + k < acc.toList.length := by simp; omega
    simp only [Array.toList_setIfInBounds, List.set_eq_take_append_cons_drop, hlt, if_true]
    generalize hA : acc.toList = A at hlt ⊢
    have key : ∀ (p q : List Value) (n m : Nat), p.length = n → (p ++ v :: q).take (n + 1) = p ++ [v] ∧ (p ++ v :: q).drop (n + 1 + m) = q.drop m := by
      rintro p q n m rfl
      refine ⟨by rw [List.take_append, List.take_of_length_le (by omega)]; simp, ?_⟩
      rw [List.drop_append, List.drop_of_length_le (by omega), show p.length + 1 + m - p.length = m + 1 by omega]
      simp
    obtain ⟨k1, k2⟩ := key (A.take (off + k)) (A.drop (off + k + 1)) (off + k) l.length (by simp; omega)
    rw [show off + (k + 1) = off + k + 1 by omega, k1, k2, List.drop_drop]
    simp only [List.append_assoc, List.cons_append, List.nil_append, List.length_cons]
    rw [show off + k + 1 + l.length = off + k + (l.length + 1) by omega]
theorem run_fill {places : Nat → Option (Nat × Nat)} {c : List Value} {i off size : Nat} {v : Value} {r : List (Nat × Value)} (hp : places i = some (off, size)) (hs : v.cells.size = size) (hle : off + v.cells.size ≤ c.length) :
    Instr.fill places ⟨c⟩ ((i, v) :: r) = Instr.fill places ⟨c.take off ++ v.cells.toList ++ c.drop (off + v.cells.toList.length)⟩ r := by
  have h1 : ¬ (v.cells.size ≠ size) := by simp [hs]
  have h2 : ¬ (off + v.cells.size > c.length) := by omega
  have key := foldl_set off v.cells.toList 0 ⟨c⟩ (by simpa using hle)
  simp only [Nat.add_zero] at key
  have e : (v.cells.zipIdx.foldl (fun cs (p : Value × Nat) => cs.setIfInBounds (off + p.2) p.1) (⟨c⟩ : Array Value)) = ⟨c.take off ++ v.cells.toList ++ c.drop (off + v.cells.toList.length)⟩ := by
    apply Array.ext'
    rw [← Array.foldl_toList, Array.toList_zipIdx]
    exact key
  simp only [Instr.fill, hp]
  rw [if_neg (by simp [hs]; simpa [hs] using hle)]
  rw [← e]
theorem fillK_sound {C : Cx} (hT : TabOk C.P C.T) {fs : List (Nat × TypeId)} {places : Array (Nat × Nat)}
    (hpl : ∀ (i : Nat) (f : Nat × TypeId), fs[i]? = some f → ∀ df, TdOk C.P f.2 df → places[i]? = some (f.1, df.size)) : ∀ {ps : List (Nat × Value)} {c : List Value} {k : List Value → Prop}, fillK C fs ps c k →
    ∃ c', Instr.fill (places[·]?) ⟨c⟩ ps = some ⟨c'⟩ ∧ k c'
  | [], c, k, h => ⟨c, rfl, h⟩
  | (i, v) :: r, c, k, h => by
    simp only [fillK] at h
    split at h
    · rename_i f hf
      replace h := tdK_sound hT h; obtain ⟨df, hdf, h⟩ := h
      replace h := cellsK_sound h
      split at h
      · rename_i hl
        have hl := Nat.eq_of_beq_eq_true hl
        obtain ⟨hle, h⟩ := replK_sound h
        obtain ⟨c', h1, h2⟩ := fillK_sound hT hpl h
        refine ⟨c', ?_, h2⟩
        rw [run_fill (hpl i f hf df hdf) (by simpa using hl) (by simpa using hle)]
        exact h1
      · exact h.elim
    · exact h.elim
theorem run_places {C : Cx} {w : World} : ∀ (fs : List Field), (∀ f ∈ fs, ∃ df, TdOk C.P f.type df) →
    ∃ l : List (Nat × Nat), ((fs.mapM fun f => do pure (f.offset, ← sizeOf f.type) : Sem (List (Nat × Nat)))).run C.P w = .ok l w ∧
      ∀ (i : Nat) (f : Field), fs[i]? = some f → ∀ df, TdOk C.P f.type df → l[i]? = some (f.offset, df.size)
  | [], _ => ⟨[], by simp, by simp⟩
  | f :: fs, h => by
    obtain ⟨df, hdf⟩ := h f (by simp)
    obtain ⟨l, hl, hi⟩ := run_places (w := w) fs (fun g hg => h g (by simp [hg]))
    refine ⟨(f.offset, df.size) :: l, by rw [List.mapM_cons]; simp only [Sem.run_bind, hdf.run_size, Result.andThen_ok, Sem.run_pure, hl], ?_⟩
    intro i g hg dg hdg
    cases i with
    | zero =>
      simp at hg
      subst hg
      have h1 := hdf.run_size w
      have h2 := hdg.run_size w
      rw [h1] at h2
      simp only [Result.ok.injEq, and_true] at h2
      simp [h2]
    | succ i => simp at hg ⊢; exact hi i g hg dg hdg
def allTd (C : Cx) : List (Nat × TypeId) → Prop → Prop
  | [], k => k
  | f :: r, k => tdK C.T f.2 fun _ => allTd C r k
theorem allTd_sound {C : Cx} (hT : TabOk C.P C.T) : ∀ {fs : List (Nat × TypeId)} {k : Prop}, allTd C fs k → (∀ f ∈ fs, ∃ df, TdOk C.P f.2 df) ∧ k
  | [], _, h => ⟨by simp, h⟩
  | f :: r, k, h => by
    obtain ⟨d, hd, h⟩ := tdK_sound hT h
    obtain ⟨h1, h2⟩ := allTd_sound hT h
    exact ⟨fun g hg => (List.mem_cons.1 hg).elim (fun e => e ▸ ⟨d, hd⟩) (fun hg => h1 g hg), h2⟩
def buildV (C : Cx) (t : TypeId) (ps : List (Nat × Value)) (w : World) (k : Value → World → Prop) : Prop :=
  tdK C.T t fun d => zeroK d fun z => (match d.under, z with
    | .struct fs, .agg ⟨c⟩ => allTd C fs (fillK C fs ps c fun c' => k (.agg ⟨c'⟩) w)
    | .array _ _, _ => SemOk C.P (Instr.build t ps.toArray) w k
    | _, _ => False)
theorem buildV_sound {C : Cx} (hT : TabOk C.P C.T) {t : TypeId} {ps : List (Nat × Value)} {w : World} {k : Value → World → Prop} (h : buildV C t ps w k) : SemOk C.P (Instr.build t ps.toArray) w k := by
  replace h := tdK_sound hT h; obtain ⟨d, hd, h⟩ := h
  replace h := zeroK_sound h; obtain ⟨z, hz, h⟩ := h
  split at h
  · rename_i fs c hu
    obtain ⟨fls, hru, rfl⟩ := hd.struct hu w
    obtain ⟨hall, h⟩ := allTd_sound hT h
    obtain ⟨l, hl, hi⟩ := run_places (C := C) (w := w) fls.toList (fun f hf => hall (f.offset, f.type) (List.mem_map.2 ⟨f, hf, rfl⟩))
    obtain ⟨c', hc, hk⟩ := fillK_sound hT (places := l.toArray) (fun i f hf df hdf => by
      rw [List.getElem?_map] at hf
      cases hg : fls.toList[i]? with
      | none => simp [hg] at hf
      | some g =>
        simp only [hg, Option.map_some, Option.some.injEq] at hf
        subst hf
        simpa using hi i g hg df hdf) h
    refine .of (v := .agg ⟨c'⟩) (w' := w) ?_ hk
    simp only [Instr.build, Sem.run_bind, hd.run_zero hz, Result.andThen_ok, hru]
    rw [← Array.toArray_toList (xs := fls), Array.mapM_eq_mapM_toList]
    simp only [Sem.run_map, hl, Result.andThen_ok, Value.cells, hc, Sem.run_pure]
  · exact h
  · exact h.elim

/-! ### slice literals -/
def bsK (sz : Nat) : Nat → List (Nat × Value) → (List Value → Prop) → Prop
  | _, [], k => k []
  | i, (j, v) :: r, k => match Nat.beq i j with
    | true => cellsK v fun l => (match Nat.beq l.length sz with
      | true => bsK sz (i + 1) r fun m => (match l with | [u] => k (u :: m) | l => k (l ++ m))
      | false => False)
    | false => False
theorem bsK_sound {sz n : Nat} : ∀ {ps : List (Nat × Value)} {i : Nat} {c : List Value} {k : List Value → Prop}, c.length = n * sz → ps.length + i = n → bsK sz i ps k →
    ∃ l, l.length = ps.length * sz ∧ Instr.fill (fun i => some (i * sz, sz)) ⟨c⟩ ps = some ⟨c.take (i * sz) ++ l⟩ ∧ k l
  | [], i, c, k, hc, hn, h => ⟨[], by simp, by simp at hn; subst hn; simp [Instr.fill, ← hc], h⟩
  | (j, v) :: r, i, c, k, hc, hn, h => by
    simp only [bsK] at h
    split at h
    · rename_i hij
      have hij := Nat.eq_of_beq_eq_true hij
      subst hij
      replace h := cellsK_sound h
      split at h
      · rename_i hl
        have hl : v.cells.size = sz := by simpa using Nat.eq_of_beq_eq_true hl
        simp only [List.length_cons] at hn
        have hle : i * sz + v.cells.size ≤ c.length := by
          rw [hc, hl, ← Nat.succ_mul]
          exact Nat.mul_le_mul_right _ (by omega)
        have hvl : v.cells.toList.length = sz := by simpa using hl
        have hc' : (c.take (i * sz) ++ v.cells.toList ++ c.drop (i * sz + v.cells.toList.length)).length = n * sz := by
          simp only [List.length_append, List.length_take, List.length_drop, hvl]
          omega
        obtain ⟨l, h1, h2, h3⟩ := bsK_sound hc' (by omega) h
        refine ⟨v.cells.toList ++ l, by simp [hvl, h1, Nat.succ_mul, Nat.add_comm], ?_, ?_⟩
        · rw [run_fill (off := i * sz) (size := sz) rfl hl hle, h2]
          have : (c.take (i * sz) ++ v.cells.toList ++ c.drop (i * sz + v.cells.toList.length)).take ((i + 1) * sz) = c.take (i * sz) ++ v.cells.toList := by
            rw [List.take_append_of_le_length (by simp [hl, Nat.succ_mul]; omega), List.take_of_length_le (by simp [hl, Nat.succ_mul]; omega)]
          rw [this, List.append_assoc]
        · revert h3
          generalize v.cells.toList = q
          intro h3
          split at h3
          · exact h3
          · exact h3
      · exact h.elim
    · exact h.elim
def bsV (C : Cx) (t : TypeId) (n : Nat) (ps : List (Nat × Value)) (w : World) (k : Value → World → Prop) : Prop :=
  tdK C.T t fun d => match d.under with
    | .slice e => tdK C.T e fun de => (match Nat.ble (n * de.size) 16777216, Nat.beq ps.length n, de.zero with
      | true, true, some z => (match Nat.beq z.cells.size de.size with
        | true => bsK de.size 0 ps fun l => ∀ w' b, NewBlk w b l e w' → k (.slice (some ⟨b, 0, none⟩) n n) w'
        | false => False)
      | _, _, _ => False)
    | _ => False
theorem bsV_sound {C : Cx} (hT : TabOk C.P C.T) {t : TypeId} {n : Nat} {ps : List (Nat × Value)} {w : World} {k : Value → World → Prop} (h : bsV C t n ps w k) : SemOk C.P (Instr.buildSlice t n ps.toArray) w k := by
  replace h := tdK_sound hT h; obtain ⟨d, hd, h⟩ := h
  split at h
  · rename_i e hu
    have hru := hd.slice hu w
    replace h := tdK_sound hT h; obtain ⟨de, hde, h⟩ := h
    split at h
    · rename_i z h1 h2 hz
      split at h
      · rename_i hzs
        have h1 := Nat.le_of_ble_eq_true h1
        have h2 := Nat.eq_of_beq_eq_true h2
        have hn : ¬ (n * de.size > 2 ^ 24) := by omega
        have base : ∀ q : Array Value, ((Array.range (n * de.size)).map (q[· % q.size]!)).toList.length = n * de.size := by simp
        obtain ⟨Z, hZ⟩ : ∃ Z : Array Value, ((if n * de.size = 0 then pure #[] else do pure (← zeroValue e).cells : Sem (Array Value))).run C.P w = .ok Z w := by
          by_cases hz0 : n * de.size = 0
          · exact ⟨#[], by simp [hz0]⟩
          · exact ⟨z.cells, by rw [if_neg hz0]; simp [hde.run_zero hz]⟩
        obtain ⟨l, g1, g2, g3⟩ := bsK_sound (n := n) (c := ((Array.range (n * de.size)).map (Z[· % Z.size]!)).toList) (base _) (by omega) h
        simp only [Nat.zero_mul, List.take_zero, List.nil_append] at g2
        have g2' : Instr.fill (fun i => some (i * de.size, de.size)) ((Array.range (n * de.size)).map (Z[· % Z.size]!)) ps = some ⟨l⟩ := g2
        refine .of (v := .slice (some ⟨w.heap.size, 0, none⟩) n n) (w' := w.alloc (.cells l.toArray e)) ?_ (g3 _ _ ⟨rfl, rfl⟩)
        unfold Instr.buildSlice
        simp only [Sem.run_bind, hru, Result.andThen_ok, hde.run_size, hn, if_false, Sem.run_pure]
        by_cases hz0 : n * de.size = 0
        · rw [if_pos hz0] at hZ ⊢
          simp only [Sem.run_pure, Result.ok.injEq, and_true] at hZ
          subst hZ
          simp only [Sem.run_bind, Sem.run_pure, Result.andThen_ok, g2']
          simp [newRow]
        · rw [if_neg hz0] at hZ ⊢
          simp only [Sem.run_bind, hde.run_zero hz, Sem.run_pure, Result.andThen_ok, Result.ok.injEq, and_true] at hZ ⊢
          subst hZ
          simp only [g2']
          simp [newRow]
      · exact h.elim
    · exact h.elim
  · exact h.elim

/-! ### cells -/
/-- the cells from an address on -/
def Cells (w : World) (a : Option Addr) (l : List Value) : Prop :=
  (l ≠ [] → Plain a) ∧ ∀ j v, l[j]? = some v → w.cell? ⟨ablk a, aoff a + j, none⟩ = some v
theorem Cells.ext {w w' : World} {a : Option Addr} {l : List Value} (h : Cells w a l) (he : Ext w w') : Cells w' a l :=
  ⟨h.1, fun j v hj => by have := h.2 j v hj; rw [he.cell (World.block_lt_of_cell? _ _ this)]; exact this⟩
theorem Cells.tw {B : Nat} {w w' : World} {a : Option Addr} {l : List Value} (h : Cells w a l) (he : Tw B w w') : Cells w' a l := ⟨h.1, fun j v hj => he.cell (h.2 j v hj)⟩
theorem Cells.below {B : Nat} {w w' : World} {a : Option Addr} {l : List Value} (h : Cells w a l) (he : Below B w w') (hb : l ≠ [] → ablk a < B) : Cells w' a l :=
  ⟨h.1, fun j v hj => by
    have := h.2 j v hj
    rw [he.cell (hb (by intro e; subst e; simp at hj))]; exact this⟩
theorem Cells.lt {w : World} {a : Option Addr} {l : List Value} (h : Cells w a l) (hl : l ≠ []) : ablk a < w.heap.size := by
  obtain ⟨v, r, rfl⟩ := List.exists_cons_of_ne_nil hl
  exact World.block_lt_of_cell? _ _ (h.2 0 v (by simp))
abbrev bv (b : UInt8) : Value := .int .u8 (b.toNat : Int)

/-! ### struct equality -/
abbrev PK := (p : Prop) → Decidable p → Prop
def scalK (u : Und) (x y : Value) (k : PK) : Prop :=
  match u, x, y with
  | .int _, .int ka a, .int kb b => (match decide (ka = kb) with | true => k (a = b) inferInstance | false => False)
  | .string, .string ⟨⟨a⟩⟩, .string ⟨⟨b⟩⟩ => k (a = b) inferInstance
  | .bool, .bool a, .bool b => k (a = b) inferInstance
  | _, _, _ => False
theorem scalK_sound {P : Program} {t : TypeId} {d : TD} (hd : TdOk P t d) {x y : Value} {k : PK} (h : scalK d.under x y k) (w : World) (m : Nat) :
    ∃ (p : Prop) (i : Decidable p), (Op.equalIn (m + 1) t x y).run P w = .ok (@decide p i) w ∧ isAggD d.under = false ∧ k p i := by
  unfold scalK at h
  split at h
  · rename_i k0 ka a kb b hu
    have hru := hd.int hu w
    split at h
    · rename_i hk
      have hk := of_decide_eq_true hk
      subst hk
      refine ⟨_, _, ?_, by rw [hu]; rfl, h⟩
      simp only [Op.equalIn, Sem.run_bind, hru, Result.andThen_ok, if_true, Sem.run_pure]
      by_cases e : a = b <;> simp [e]
    · exact h.elim
  · rename_i a b hu
    have hru := hd.string hu w
    refine ⟨_, _, ?_, by rw [hu]; rfl, h⟩
    simp only [Op.equalIn, Sem.run_bind, hru, Result.andThen_ok, Sem.run_pure]
    rw [beq_toListBytes]
    have e1 : (ByteArray.mk ⟨a⟩).toList = a := ByteArray.toList_mk a
    have e2 : (ByteArray.mk ⟨b⟩).toList = b := ByteArray.toList_mk b
    rw [e1, e2]
    by_cases e : a = b <;> simp [e]
  · rename_i a b hu
    have hru := hd.bool hu w
    refine ⟨_, _, ?_, by rw [hu]; rfl, h⟩
    simp only [Op.equalIn, Sem.run_bind, hru, Result.andThen_ok, Sem.run_pure]
    cases a <;> cases b <;> rfl
  · exact h.elim
def eqFK (C : Cx) : List (Nat × TypeId) → List Value → List Value → PK → Prop
  | [], _, _, k => k True inferInstance
  | [f], xs, ys, k => tdK C.T f.2 fun d => nthK xs f.1 fun x => nthK ys f.1 fun y => scalK d.under x y k
  | f :: r, xs, ys, k => tdK C.T f.2 fun d => nthK xs f.1 fun x => nthK ys f.1 fun y => scalK d.under x y fun p i => eqFK C r xs ys fun q j => k (p ∧ q) (@instDecidableAnd p q i j)
theorem run_part_scal {P : Program} {t : TypeId} {d : TD} (hd : TdOk P t d) (ha : isAggD d.under = false) {l : List Value} {off : Nat} {v : Value} (hv : l[off]? = some v) (w : World) : (part t ⟨l⟩ off).run P w = .ok v w := by
  have h1 : (isAgg t).run P w = .ok false w := by rw [hd.isAgg, ha]
  have hv' : (⟨l⟩ : Array Value)[off]? = some v := by simpa using hv
  simp [part, h1, hv']
theorem eqFK_sound {C : Cx} (hT : TabOk C.P C.T) {xs ys : List Value} {w : World} {m : Nat} : ∀ {fs : List Field} {k : PK}, (∀ f ∈ fs, f.name ≠ "_") → eqFK C (fs.map fun f => (f.offset, f.type)) xs ys k →
    ∃ (p : Prop) (i : Decidable p), (Op.eqFields (m + 1) ⟨xs⟩ ⟨ys⟩ fs).run C.P w = .ok (@decide p i) w ∧ k p i
  | [], k, _, h => ⟨True, inferInstance, by simp [Op.eqFields], h⟩
  | f :: r, k, hn, h => by
    have key : ∀ k', (tdK C.T f.type fun d => nthK xs f.offset fun x => nthK ys f.offset fun y => scalK d.under x y k') → ∃ (p : Prop) (i : Decidable p), k' p i ∧
        ∀ R : Sem Bool, ((do
          let a ← part f.type ⟨xs⟩ f.offset
          let b ← part f.type ⟨ys⟩ f.offset
          let r ← Op.equalIn (m + 1) f.type a b
          if (!r) = true then pure false else R : Sem Bool)).run C.P w = if (!@decide p i) = true then .ok false w else R.run C.P w := by
      intro k' h
      obtain ⟨d, hd, h⟩ := tdK_sound hT h
      obtain ⟨x, hx, h⟩ := nthK_iff.1 h
      obtain ⟨y, hy, h⟩ := nthK_iff.1 h
      obtain ⟨p, i, hr, ha, hk⟩ := scalK_sound hd h w m
      refine ⟨p, i, hk, fun R => ?_⟩
      simp only [Sem.run_bind, run_part_scal hd ha hx, run_part_scal hd ha hy, hr, Result.andThen_ok, Sem.run_ite, Sem.run_pure]
    have hname := hn f (by simp)
    cases r with
    | nil =>
      obtain ⟨p, i, hk, hR⟩ := key k h
      refine ⟨p, i, ?_, hk⟩
      simp only [Op.eqFields, hname, ne_eq, not_false_eq_true, if_true]
      rw [hR]
      simp only [Sem.run_pure]
      cases @decide p i <;> rfl
    | cons g r =>
      obtain ⟨p, i, hk, hR⟩ := key _ h
      obtain ⟨q, j, hrq, hkq⟩ := eqFK_sound hT (fs := g :: r) (fun f hf => hn f (by simp [hf])) hk
      refine ⟨p ∧ q, @instDecidableAnd p q i j, ?_, hkq⟩
      rw [Op.eqFields, if_pos hname, hR, hrq]
      by_cases hp : p <;> by_cases hq : q <;> simp [hp, hq]
theorem eqAgg_sound {C : Cx} (hT : TabOk C.P C.T) {t : TypeId} {d : TD} (hd : TdOk C.P t d) (he : d.eq = true) {fs : List (Nat × TypeId)} (hu : d.under = .struct fs) {xs ys : List Value} {k : PK} (h : eqFK C fs xs ys k) (w : World) :
    ∃ (p : Prop) (i : Decidable p), k p i ∧ ∀ x y, ((do eqGuard .eql t x y (.agg ⟨xs⟩) (.agg ⟨ys⟩); binOp .eql t (.agg ⟨xs⟩) (.agg ⟨ys⟩) : Sem Value)).run C.P w = .ok (.bool (@decide p i)) w ∧
      ((do eqGuard .neq t x y (.agg ⟨xs⟩) (.agg ⟨ys⟩); binOp .neq t (.agg ⟨xs⟩) (.agg ⟨ys⟩) : Sem Value)).run C.P w = .ok (.bool (!@decide p i)) w := by
  obtain ⟨d0, h1, h2⟩ := hd.under
  obtain ⟨fls, rfl, hnm, rfl⟩ := undOf_struct (h2.trans hu)
  obtain ⟨hg, hs⟩ := hd.eq he
  have hf : C.P.fieldsOf t = fls := by simp [Program.fieldsOf, h1]
  have hn : ∀ f ∈ fls.toList, f.name ≠ "_" := by
    intro f hf hc
    have : (fls.any fun f => f.name == "_") = true := by
      rw [Array.any_eq_true']
      exact ⟨f, by simpa using hf, by simp [hc]⟩
    rw [hnm] at this
    cases this
  obtain ⟨p, i, hr, hk⟩ := eqFK_sound hT (m := 9998) (w := w) hn h
  have hst := run_equalIn_struct (P := C.P) w 9999 t ⟨xs⟩ ⟨ys⟩ (by rw [hf]; exact h1) hs
  rw [hf] at hst
  refine ⟨p, i, hk, fun x y => ⟨?_, ?_⟩⟩
  · rw [Sem.run_bind, run_eqGuard_agg (P := C.P) w .eql t x y _ _ hg]
    simp only [Result.andThen_ok]
    rw [run_eql_struct, hst.trans hr]
    rfl
  · rw [Sem.run_bind, run_eqGuard_agg (P := C.P) w .neq t x y _ _ hg]
    simp only [Result.andThen_ok]
    rw [run_neq_struct, hst.trans hr]
    rfl
end Go.Proofs.Ytlhgmigoncmcaaa
