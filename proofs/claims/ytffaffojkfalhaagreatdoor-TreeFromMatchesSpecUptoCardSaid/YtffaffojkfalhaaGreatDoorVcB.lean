/-
  The rules, one an operation: a condition over values and the world, and that the operation's run comes to what the condition says.
-/
import Derived.Test.YtffaffojkfalhaaGreatDoorVcA
import Derived.Laws.Tables
import Derived.Laws.Strings
import Derived.Laws.Strings2
import Derived.Laws.StructEq
namespace Go.Proofs.YtffaffojkfalhaaGreatDoor
open Go Go.RowKit

structure Cx where
  P : Program
  T : List TD
  n : Nat
  live : List Nat
  r : Option Nat := none

theorem addr_add (b o n : Nat) : (⟨b, o, none⟩ : Addr).add n = ⟨b, o + n, none⟩ := by
  unfold Addr.add
  split
  · rename_i h; subst h; rfl
  · rfl

/-! ### load, store -/
def isAggD : Und → Bool
  | .struct _ | .array _ _ | .blank => true
  | _ => false
theorem TdOk.isAgg {P : Program} {t : TypeId} {d : TD} (h : TdOk P t d) (w : World) : (isAgg t).run P w = .ok (isAggD d.under) w := by
  obtain ⟨d0, h1, h2⟩ := h.run_under w
  unfold Go.isAgg
  simp only [Sem.run_bind, h1, Result.andThen_ok, ← h2]
  cases d0 with
  | struct fs => simp only [undOf]; cases (fs.any fun f => f.name == "_") <;> simp [isAggD]
  | _ => simp [undOf, isAggD]
def loadN (w : World) (b : Nat) : Nat → Nat → (List Value → Prop) → Prop
  | 0, _, k => k []
  | n + 1, o, k => ∃ v, w.cell? ⟨b, o, none⟩ = some v ∧ loadN w b n (o + 1) fun l => k (v :: l)
def loadL (w : World) (b o n : Nat) (k : List Value → Prop) : Prop :=
  ∃ l : List Value, l.length = n ∧ (∀ j v, l[j]? = some v → w.cell? ⟨b, o + j, none⟩ = some v) ∧ k l
theorem loadN_loadL {w : World} {b : Nat} : ∀ {n o : Nat} {k : List Value → Prop}, loadN w b n o k → loadL w b o n k
  | 0, o, k, h => ⟨[], rfl, fun j v hj => by simp at hj, h⟩
  | n + 1, o, k, ⟨v, hv, h⟩ => by
    obtain ⟨l, hl, hc, hk⟩ := loadN_loadL h
    refine ⟨v :: l, by simp [hl], fun j u hj => ?_, hk⟩
    cases j with
    | zero => simp at hj; subst hj; exact hv
    | succ j =>
      simp at hj
      have := hc j u hj
      rw [show o + (j + 1) = o + 1 + j by omega]
      exact this
def loadV (C : Cx) (t : TypeId) (v : Value) (w : World) (k : Value → World → Prop) : Prop :=
  match v with
  | .pointer (some ⟨b, o, none⟩) => tdK C.T t fun d =>
    match isAggD d.under with
    | true => (match Nat.ble d.size 16 with
      | true => loadN w b d.size o fun l => k (.agg l.toArray) w
      | false => loadL w b o d.size fun l => k (.agg l.toArray) w)
    | false => ∃ u, w.cell? ⟨b, o, none⟩ = some u ∧ k u w
  | _ => False
theorem run_loadVar_agg {P : Program} {t : TypeId} {d : TD} (hd : TdOk P t d) (ha : isAggD d.under = true) {w : World} {b o : Nat} {l : List Value}
    (hl : l.length = d.size) (hc : ∀ j v, l[j]? = some v → w.cell? ⟨b, o + j, none⟩ = some v) : (loadVar t ⟨b, o, none⟩).run P w = .ok (.agg l.toArray) w := by
  have h1 : (isAgg t).run P w = .ok true w := by rw [hd.isAgg, ha]
  have h2 := run_loadCells_list (P := P) w ⟨b, o, none⟩ l (fun j v hj => by rw [addr_add]; exact hc j v hj)
  rw [hl] at h2
  simp [loadVar, h1, hd.run_size, h2]
theorem run_loadVar_one {P : Program} {t : TypeId} {d : TD} (hd : TdOk P t d) (ha : isAggD d.under = false) {w : World} {a : Addr} {u : Value}
    (hc : w.cell? a = some u) : (loadVar t a).run P w = .ok u w := by
  have h1 : (isAgg t).run P w = .ok false w := by rw [hd.isAgg, ha]
  simp [loadVar, h1, hc]
theorem loadV_var {C : Cx} (hT : TabOk C.P C.T) {t : TypeId} {v : Value} {w : World} {k : Value → World → Prop} (h : loadV C t v w k) :
    ∃ a u, v = .pointer (some a) ∧ (loadVar t a).run C.P w = .ok u w ∧ k u w := by
  unfold loadV at h
  split at h
  · rename_i b o
    replace h := tdK_sound hT h; obtain ⟨d, hd, h⟩ := h
    split at h
    · rename_i ha
      have h' : loadL w b o d.size fun l => k (.agg l.toArray) w := by
        split at h
        · exact loadN_loadL h
        · exact h
      obtain ⟨l, hl, hc, hk⟩ := h'
      exact ⟨_, _, rfl, run_loadVar_agg hd ha hl hc, hk⟩
    · rename_i ha
      obtain ⟨u, hu, hk⟩ := h
      exact ⟨_, _, rfl, run_loadVar_one hd ha hu, hk⟩
  · exact h.elim
theorem loadV_sound {C : Cx} (hT : TabOk C.P C.T) {t : TypeId} {v : Value} {w : World} {k : Value → World → Prop} (h : loadV C t v w k) : SemOk C.P (Instr.loadAt t v) w k := by
  obtain ⟨a, u, rfl, hr, hk⟩ := loadV_var hT h
  exact .of (by simp [Instr.loadAt, Instr.sureAddr, hr]) hk

def cellsK (v : Value) (k : List Value → Prop) : Prop := match v with | .agg ⟨l⟩ => k l | v => k [v]
theorem cellsK_sound {v : Value} {k : List Value → Prop} (h : cellsK v k) : k v.cells.toList := by
  cases v <;> exact h
def oneL : List Value → Prop → Prop
  | [], k => k
  | v :: r, k => match v with | .agg _ => False | .tuple _ => False | _ => oneL r k
theorem oneL_sound : ∀ {l : List Value} {k : Prop}, oneL l k → (∀ v ∈ l, v.oneCell' = true) ∧ k
  | [], _, h => ⟨fun _ h => by simp at h, h⟩
  | v :: r, k, h => by
    have key : v.oneCell' = true ∧ oneL r k := by cases v <;> first | exact ⟨rfl, h⟩ | exact h.elim
    obtain ⟨h1, h2⟩ := oneL_sound key.2
    refine ⟨fun u hu => ?_, h2⟩
    rcases List.mem_cons.1 hu with rfl | hu
    · exact key.1
    · exact h1 u hu
/-- cells from a place on, replaced -/
def replK : List Value → Nat → List Value → (List Value → Prop) → Prop
  | c, 0, [], k => k c
  | _ :: c, 0, v :: l, k => replK c 0 l fun r => k (v :: r)
  | u :: c, o + 1, l, k => replK c o l fun r => k (u :: r)
  | [], _, _, _ => False
theorem replK_sound : ∀ {c : List Value} {o : Nat} {l : List Value} {k : List Value → Prop}, replK c o l k → o + l.length ≤ c.length ∧ k (c.take o ++ l ++ c.drop (o + l.length))
  | c, 0, [], k, h => by
    have h : k c := by cases c <;> exact h
    exact ⟨by simp, by simpa using h⟩
  | u :: c, 0, v :: l, k, h => by
    obtain ⟨h1, h2⟩ := replK_sound (c := c) (o := 0) (l := l) h
    refine ⟨by simp at h1 ⊢; omega, ?_⟩
    simpa [Nat.add_comm] using h2
  | u :: c, o + 1, l, k, h => by
    have h' : replK c o l fun r => k (u :: r) := by cases l <;> exact h
    obtain ⟨h1, h2⟩ := replK_sound h'
    refine ⟨by simp; omega, ?_⟩
    rw [show o + 1 + l.length = (o + l.length) + 1 by omega]
    simpa using h2
  | [], 0, v :: l, k, h => h.elim
  | [], o + 1, l, k, h => by cases l <;> exact h.elim
theorem setRow_upd {w : World} {b : Nat} {c l : List Value} {t : TypeId} (h : Blk w b c t) : Upd w b l t (w.setRow b l.toArray) := by
  refine ⟨?_⟩
  have hlt := h.lt
  have hv : w.heap[b] = .cells c.toArray t (0, 0) := (Array.getElem?_eq_some_iff.1 h).2
  unfold World.setRow
  congr 1
  apply Array.ext
  · simp
  · intro i h1 h2
    by_cases e : b = i
    · subst e; simp [Array.getElem_modify, hv]
    · rw [Array.getElem_setIfInBounds (by simpa using h1), Array.getElem_modify, if_neg e, if_neg e]
theorem setRow_updF {w : World} {b : Nat} {cs : Array Value} {l : List Value} {t : TypeId} (h : RowB w b cs t) : UpdF w b l t (w.setRow b l.toArray) := by
  obtain ⟨fz, h1, _⟩ := h
  refine ⟨fz, cs, h1, ?_⟩
  have hlt := (Array.getElem?_eq_some_iff.1 h1).1
  have hv : w.heap[b] = .cells cs t fz := (Array.getElem?_eq_some_iff.1 h1).2
  unfold World.setRow
  congr 1
  apply Array.ext
  · simp
  · intro i h1 h2
    by_cases e : b = i
    · subst e; simp [Array.getElem_modify, hv]
    · rw [Array.getElem_setIfInBounds (by simpa using h1), Array.getElem_modify, if_neg e, if_neg e]
/-- cells written of which none is frozen -/
theorem run_storeCells_ok (P : Program) (g o : Nat) (t : TypeId) (fz : Nat × Nat) : ∀ (vs : List Value) (i : Nat) (cur : Array Value) (w : World), w.heap[g]? = some (.cells cur t fz) → OkF fz cur.size → o + i + vs.length ≤ cur.size → (∀ v ∈ vs, v.oneCell' = true) →
    (storeCells ⟨g, o, none⟩ vs i).run P w = .ok () (w.setRow g (cur.toList.take (o + i) ++ vs ++ cur.toList.drop (o + i + vs.length)).toArray)
  | [], i, cur, w, hg, _, _, _ => by
    simp only [storeCells, List.append_nil, List.length_nil, Nat.add_zero, List.take_append_drop, Array.toArray_toList]
    rw [setRow_self w g cur t fz hg]
    rfl
  | v :: rest, i, cur, w, hg, hfz, hl, h1 => by
    have hi : o + i < cur.size := by simp at hl; omega
    have hadd : (⟨g, o, none⟩ : Addr).add i = ⟨g, o + i, none⟩ := by unfold Addr.add; split <;> simp_all
    have hcell : w.cell? ⟨g, o + i, none⟩ = some cur[o + i] := by simp [World.cell?, hg, hi]
    have hfro : w.frozen? ⟨g, o + i, none⟩ = false := by
      have hz := hfz (o + i) hi
      obtain ⟨lo, hi'⟩ := fz
      simp only [World.frozen?, hg, Bool.and_eq_false_iff, decide_eq_false_iff_not]
      simp only at hz
      omega
    have hst : (store ((⟨g, o, none⟩ : Addr).add i) v).run P w = .ok () (w.setRow g (cur.setIfInBounds (o + i) v)) := by
      rw [hadd, run_store P w _ v _ (h1 v (by simp)), hcell]
      simp [hfro, setCell_eq_setRow w g (o + i) cur t fz v hg]
    have ih := run_storeCells_ok P g o t fz rest (i + 1) (cur.setIfInBounds (o + i) v) (w.setRow g (cur.setIfInBounds (o + i) v)) (setRow_heap w g cur _ t _ hg) (by simpa using hfz) (by simp at hl ⊢; omega) (fun x hx => h1 x (by simp [hx]))
    simp only [storeCells, Sem.run_bind, hst, Result.andThen_ok, ih, setRow_setRow]
    congr 3
    have e := list_seg_step cur.toList (o + i) v rest (by simp at hl ⊢; omega)
    simpa [Array.toList_setIfInBounds, Nat.add_assoc] using e
def storeV (C : Cx) (t : TypeId) (a v : Value) (w : World) (k : World → Prop) : Prop :=
  match a with
  | .pointer (some ⟨b, o, none⟩) => tdK C.T t fun d => cellsK v fun l =>
    match Nat.beq l.length d.size with
    | true => oneL l (∃ c t', BlkF w b c t' ∧ replK c o l fun c' => ∀ w', UpdF w b c' t' w' → k w')
    | false => False
  | _ => False
theorem storeV_sound {C : Cx} (hT : TabOk C.P C.T) {t : TypeId} {a v : Value} {w : World} {k : World → Prop} (h : storeV C t a v w k) :
    ∃ w', (Instr.storeAt t a v).run C.P w = .ok () w' ∧ k w' := by
  unfold storeV at h
  split at h
  · rename_i b o
    replace h := tdK_sound hT h; obtain ⟨d, hd, h⟩ := h
    replace h := cellsK_sound h
    split at h
    · rename_i hl
      have hl := Nat.eq_of_beq_eq_true hl
      obtain ⟨h1, c, t', hb, hrp⟩ := oneL_sound h
      obtain ⟨hle, hk⟩ := replK_sound hrp
      refine ⟨_, ?_, hk _ (setRow_updF hb)⟩
      obtain ⟨fz, hb1, hb2⟩ := hb
      have hs := run_storeCells_ok C.P b o t' fz v.cells.toList 0 c.toArray w hb1 hb2 (by simpa using hle) h1
      have hsz : v.cells.size = d.size := by simpa using hl
      simp only [Nat.add_zero] at hs
      simp only [Instr.storeAt, Instr.sureAddr, storeVar, Sem.run_bind, Sem.run_pure, Result.andThen_ok, hd.run_size, hsz, ne_eq, not_true, if_false]
      simpa using hs
    · exact h.elim
  · exact h.elim

/-! ### new memory -/
def zeroK (d : TD) (k : Value → Prop) : Prop := match d.zero with | some z => k z | none => False
theorem zeroK_sound {d : TD} {k : Value → Prop} (h : zeroK d k) : ∃ z, d.zero = some z ∧ k z := by
  unfold zeroK at h
  split at h
  · rename_i z hz; exact ⟨z, hz, h⟩
  · exact h.elim
def allocV (C : Cx) (t : TypeId) (w : World) (k : Value → World → Prop) : Prop :=
  tdK C.T t fun d => zeroK d fun z => cellsK z fun l => ∀ w' b, NewBlk w b l t w' → k (.pointer (some ⟨b, 0, none⟩)) w'
theorem allocV_sound {C : Cx} (hT : TabOk C.P C.T) {t : TypeId} {w : World} {k : Value → World → Prop} (h : allocV C t w k) : SemOk C.P (Instr.alloc t true (.tuple #[])) w k := by
  replace h := tdK_sound hT h; obtain ⟨d, hd, h⟩ := h
  replace h := zeroK_sound h; obtain ⟨z, hz, h⟩ := h
  replace h := cellsK_sound h
  refine .of (v := .pointer (some ⟨w.heap.size, 0, none⟩)) (w' := w.alloc (.cells z.cells.toList.toArray t)) ?_ (h _ _ ⟨rfl, rfl⟩)
  simp [Instr.alloc, hd.run_zero hz, newVar, newRow]
def boxV (t : TypeId) (v : Value) (w : World) (k : Value → World → Prop) : Prop :=
  cellsK v fun l => ∀ w' b, NewBlk w b l t w' → k (.pointer (some ⟨b, 0, none⟩)) w'
theorem boxV_sound {P : Program} {t : TypeId} {v : Value} {w : World} {k : Value → World → Prop} (h : boxV t v w k) : SemOk P (Instr.box t v) w k := by
  replace h := cellsK_sound h
  refine .of (v := .pointer (some ⟨w.heap.size, 0, none⟩)) (w' := w.alloc (.cells v.cells.toList.toArray t)) ?_ (h _ _ ⟨rfl, rfl⟩)
  simp [Instr.box, newVar, newRow]

/-! ### addresses -/
def ablk (a : Option Addr) : Nat := match a with | some p => p.block | none => 0
def aoff (a : Option Addr) : Nat := match a with | some p => p.off | none => 0
def Plain (a : Option Addr) : Prop := a = some ⟨ablk a, aoff a, none⟩
def placeOf (o i s : Nat) : Nat := match s with | 1 => o + i | s => o + i * s
theorem placeOf_eq (o i s : Nat) : placeOf o i s = o + i * s := by
  unfold placeOf
  split
  · simp
  · rfl
def indexAddrV (C : Cx) (t : TypeId) (x i : Value) (w : World) (k : Value → World → Prop) : Prop :=
  match i with
  | .int _ i => tdK C.T t fun d =>
    match d.under, x with
    | .slice e, .slice a len _ => tdK C.T e fun de => (0 ≤ i ∧ i < (len : Int)) ∧ Plain a ∧ k (.pointer (some ⟨ablk a, placeOf (aoff a) i.toNat de.size, none⟩)) w
    | .array len e, .pointer (some ⟨b, o, none⟩) => tdK C.T e fun de => (0 ≤ i ∧ i < (len : Int)) ∧ k (.pointer (some ⟨b, placeOf o i.toNat de.size, none⟩)) w
    | _, _ => False
  | _ => False
theorem indexAddrV_sound {C : Cx} (hT : TabOk C.P C.T) {t : TypeId} {x i : Value} {w : World} {k : Value → World → Prop} (h : indexAddrV C t x i w k) : SemOk C.P (Instr.indexAt t x i) w k := by
  unfold indexAddrV at h
  split at h
  · rename_i ki i
    replace h := tdK_sound hT h; obtain ⟨d, hd, h⟩ := h
    split at h
    · rename_i e a len cap hu
      replace h := tdK_sound hT h; obtain ⟨de, hde, hi, hp, hk⟩ := h
      have hru := hd.slice hu w
      refine .of ?_ hk
      rw [hp]
      simp [Instr.indexAt, asIntOf, hru, hi, hde.run_size, addr_add, placeOf_eq, ablk, aoff]
    · rename_i len e b o hu
      replace h := tdK_sound hT h; obtain ⟨de, hde, hi, hk⟩ := h
      have hru := hd.array hu w
      refine .of ?_ hk
      simp [Instr.indexAt, Instr.sureAddr, asIntOf, hru, hi, hde.run_size, addr_add, placeOf_eq]
    · exact h.elim
  · exact h.elim
/-- a field's place: the offset of a field that takes room -/
def fieldK (C : Cx) (d : Und) (f : Nat) (k : Nat → TypeId → TD → Prop) : Prop :=
  match d with
  | .struct fs => (match fs[f]? with
    | some fl => tdK C.T fl.2 fun df => k fl.1 fl.2 df
    | none => False)
  | _ => False
def fieldAddrV (C : Cx) (t : TypeId) (x : Value) (f : Nat) (w : World) (k : Value → World → Prop) : Prop :=
  match x with
  | .pointer (some ⟨b, o, none⟩) => tdK C.T t fun d => fieldK C d.under f fun off _ df =>
    match df.size with
    | 0 => False
    | _ + 1 => k (.pointer (some ⟨b, o + off, none⟩)) w
  | _ => False
theorem fieldK_sound {C : Cx} (hT : TabOk C.P C.T) {t : TypeId} {d : TD} (hd : TdOk C.P t d) {f : Nat} {k : Nat → TypeId → TD → Prop} (h : fieldK C d.under f k) (w : World) :
    ∃ fs fl df, (underlying t).run C.P w = .ok (.struct fs) w ∧ fs[f]? = some fl ∧ TdOk C.P fl.type df ∧ k fl.offset fl.type df := by
  unfold fieldK at h
  split at h
  · rename_i l hu
    obtain ⟨fs, hr, rfl⟩ := hd.struct hu w
    split at h
    · rename_i fl hfl
      rw [List.getElem?_map] at hfl
      cases hf : fs.toList[f]? with
      | none => simp [hf] at hfl
      | some g =>
        simp only [hf, Option.map_some, Option.some.injEq] at hfl
        subst hfl
        obtain ⟨df, hdf, hk⟩ := tdK_sound hT h
        exact ⟨fs, g, df, hr, by simpa using hf, hdf, hk⟩
    · exact h.elim
  · exact h.elim
theorem fieldAddrV_sound {C : Cx} (hT : TabOk C.P C.T) {t : TypeId} {x : Value} {f : Nat} {w : World} {k : Value → World → Prop} (h : fieldAddrV C t x f w k) : SemOk C.P (Instr.fieldAt t x f) w k := by
  unfold fieldAddrV at h
  split at h
  · rename_i b o
    replace h := tdK_sound hT h; obtain ⟨d, hd, h⟩ := h
    replace h := fieldK_sound hT hd h w; obtain ⟨fs, fl, df, hru, hfl, hdf, hk⟩ := h
    split at hk
    · exact hk.elim
    · rename_i m hm
      refine .of ?_ hk
      simp [Instr.fieldAt, Instr.sureAddr, hru, hfl, fieldPlace, hdf.run_size, hm, addr_add]
  · exact h.elim
def partK (d : TD) (off : Nat) (l : List Value) (k : Value → Prop) : Prop :=
  match isAggD d.under with
  | true => k (.agg ((l.drop off).take d.size).toArray)
  | false => (match l[off]? with | some v => k v | none => False)
def fieldV (C : Cx) (t : TypeId) (x : Value) (f : Nat) (w : World) (k : Value → World → Prop) : Prop :=
  match x with
  | .agg ⟨l⟩ => tdK C.T t fun d => fieldK C d.under f fun off _ df => partK df off l fun v => k v w
  | _ => False
theorem partK_sound {P : Program} {t : TypeId} {d : TD} (hd : TdOk P t d) {off : Nat} {l : List Value} {w : World} {k : Value → Prop} (h : partK d off l k) :
    ∃ v, (part t ⟨l⟩ off).run P w = .ok v w ∧ k v := by
  unfold partK at h
  split at h
  · rename_i ha
    have h1 : (isAgg t).run P w = .ok true w := by rw [hd.isAgg, ha]
    refine ⟨_, ?_, h⟩
    simp only [part, Sem.run_bind, h1, Result.andThen_ok, if_true, hd.run_size, Sem.run_pure]
    congr 2
    apply Array.ext'
    simp
  · rename_i ha
    have h1 : (isAgg t).run P w = .ok false w := by rw [hd.isAgg, ha]
    split at h
    · rename_i v hv
      refine ⟨v, ?_, h⟩
      have hv' : (⟨l⟩ : Array Value)[off]? = some v := by simpa using hv
      simp [part, h1, hv']
    · exact h.elim
theorem fieldV_sound {C : Cx} (hT : TabOk C.P C.T) {t : TypeId} {x : Value} {f : Nat} {w : World} {k : Value → World → Prop} (h : fieldV C t x f w k) : SemOk C.P (Instr.field t x f) w k := by
  unfold fieldV at h
  split at h
  · rename_i l
    replace h := tdK_sound hT h; obtain ⟨d, hd, h⟩ := h
    replace h := fieldK_sound hT hd h w; obtain ⟨fs, fl, df, hru, hfl, hdf, hk⟩ := h
    obtain ⟨v, hr, hk⟩ := partK_sound (w := w) hdf hk
    refine .of ?_ hk
    simp [Instr.field, hru, hfl, asAgg, hr]
  · exact h.elim
def indexV (C : Cx) (t : TypeId) (x i : Value) (w : World) (k : Value → World → Prop) : Prop :=
  match i with
  | .int _ i => tdK C.T t fun d =>
    match d.under, x with
    | .string, .string ⟨⟨l⟩⟩ => 0 ≤ i ∧ ∃ c : UInt8, l[i.toNat]? = some c ∧ k (.int .u8 (c.toNat : Int)) w
    | .array len e, .agg ⟨l⟩ => tdK C.T e fun de => (0 ≤ i ∧ i < (len : Int)) ∧ partK de (i.toNat * de.size) l fun v => k v w
    | _, _ => False
  | _ => False
theorem indexV_sound {C : Cx} (hT : TabOk C.P C.T) {t : TypeId} {x i : Value} {w : World} {k : Value → World → Prop} (h : indexV C t x i w k) : SemOk C.P (Instr.index t x i) w k := by
  unfold indexV at h
  split at h
  · rename_i ki i
    replace h := tdK_sound hT h; obtain ⟨d, hd, h⟩ := h
    split at h
    · rename_i l hu
      obtain ⟨hi, c, hc, hk⟩ := h
      have hru := hd.string hu w
      have hc' : (ByteArray.mk ⟨l⟩)[i.toNat]? = some c := by
        have hlt : i.toNat < l.length := (List.getElem?_eq_some_iff.1 hc).1
        have hlt' : i.toNat < (ByteArray.mk ⟨l⟩).size := hlt
        rw [ByteArray.getElem?_lt' _ _ hlt']
        have := (List.getElem?_eq_some_iff.1 hc).2
        exact congrArg some this
      refine .of ?_ hk
      simp [Instr.index, asIntOf, hru, hi, hc']
    · rename_i len e l hu
      replace h := tdK_sound hT h; obtain ⟨de, hde, hi, hk⟩ := h
      have hru := hd.array hu w
      obtain ⟨v, hr, hk⟩ := partK_sound (w := w) hde hk
      refine .of ?_ hk
      simp [Instr.index, asIntOf, hru, hi, hde.run_size, hr]
    · exact h.elim
  · exact h.elim

/-! ### results of calls -/
def nthK : List Value → Nat → (Value → Prop) → Prop
  | [], _, _ => False
  | v :: _, 0, k => k v
  | _ :: r, i + 1, k => nthK r i k
theorem nthK_iff {l : List Value} {i : Nat} {k : Value → Prop} : nthK l i k ↔ ∃ v, l[i]? = some v ∧ k v := by
  induction l generalizing i with
  | nil => simp [nthK]
  | cons d r ih =>
    cases i with
    | zero => simp [nthK]
    | succ t => simp only [nthK, List.getElem?_cons_succ]; exact ih
def extractV (x : Value) (i : Nat) (w : World) (k : Value → World → Prop) : Prop :=
  match x with
  | .tuple ⟨l⟩ => nthK l i fun v => k v w
  | _ => False
theorem extractV_sound {P : Program} {x : Value} {i : Nat} {w : World} {k : Value → World → Prop} (h : extractV x i w k) : SemOk P (Instr.extract x i) w k := by
  unfold extractV at h
  split at h
  · rename_i l
    obtain ⟨v, hv, hk⟩ := nthK_iff.1 h
    have hv' : (⟨l⟩ : Array Value)[i]? = some v := by simpa using hv
    refine .of ?_ hk
    simp [Instr.extract, hv']
  · exact h.elim

/-! ### integers -/
abbrev I64 (x : Int) : Prop := -9223372036854775808 ≤ x ∧ x ≤ 9223372036854775807
def wr (k : IntKind) (x : Int) : Int :=
  match k with
  | .u8 => x % 256 | .u16 => x % 65536 | .u32 => x % 4294967296 | .u64 => x % 18446744073709551616
  | k => k.wrap x
theorem wr_eq (k : IntKind) (x : Int) : wr k x = k.wrap x := by
  cases k <;> simp [wr, IntKind.wrap, IntKind.bits, IntKind.signed]
theorem wrap_i64 {x : Int} (h : I64 x) : IntKind.i64.wrap x = x := by
  obtain ⟨h1, h2⟩ := h
  have key : ∀ m p : Int, m = 18446744073709551616 → p = 9223372036854775808 → (if (true && decide (x % m ≥ p)) = true then x % m - m else x % m) = x := by
    rintro m p rfl rfl
    simp only [Bool.true_and, ge_iff_le, decide_eq_true_eq]
    split <;> omega
  exact key (2 ^ 64) (2 ^ 63) (by decide) (by decide)
/-- a result of an int's arithmetic: where it is an int64 it must fit -/
def fitK (k : IntKind) (x : Int) (c : Value → Prop) : Prop :=
  match k with
  | .i64 => I64 x ∧ c (.int .i64 x)
  | k => c (.int k (wr k x))
theorem fitK_sound {k : IntKind} {x : Int} {c : Value → Prop} (h : fitK k x c) : c (.int k (k.wrap x)) := by
  cases k <;> first
    | (rw [← wr_eq]; exact h)
    | (rw [wrap_i64 h.1]; exact h.2)
def bitsI (op : BinOp) (k : IntKind) (x y : Int) : Int :=
  let a := BitVec.ofInt k.bits x
  let b := BitVec.ofInt k.bits y
  k.wrap (match op with
    | .and => a &&& b
    | .or => a ||| b
    | .xor => a ^^^ b
    | _ => a &&& ~~~b).toNat
def intK (op : BinOp) (k : IntKind) (x y : Int) (c : Value → Prop) : Prop :=
  match op with
  | .add => fitK k (x + y) c
  | .sub => fitK k (x - y) c
  | .mul => fitK k (x * y) c
  | .quo => ((0 ≤ x ∧ 0 < y) ∧ fitK k (x / y) c) ∨ (0 < y ∧ fitK k (x.tdiv y) c)
  | .rem => ((0 ≤ x ∧ 0 < y) ∧ c (.int k (x % y))) ∨ (0 < y ∧ c (.int k (x.tmod y)))
  | .and => c (.int k (bitsI .and k x y))
  | .or => c (.int k (bitsI .or k x y))
  | .xor => c (.int k (bitsI .xor k x y))
  | .andNot => c (.int k (bitsI .andNot k x y))
  | .eql => c (.bool (decide (x = y)))
  | .neq => c (.bool (decide (x ≠ y)))
  | .lss => c (.bool (decide (x < y)))
  | .leq => c (.bool (decide (x ≤ y)))
  | .gtr => c (.bool (decide (y < x)))
  | .geq => c (.bool (decide (y ≤ x)))
  | .shl => (0 ≤ y ∧ y ≤ 64) ∧ fitK k (x * 2 ^ (min y.toNat k.bits)) c
  | .shr => (0 ≤ y ∧ y ≤ 64) ∧ c (.int k (x / 2 ^ (min y.toNat k.bits)))
theorem intK_sound {P : Program} {op : BinOp} {k : IntKind} {t : TypeId} {x y : Int} {w : World} {c : Value → World → Prop} (h : intK op k x y fun v => c v w) :
    SemOk P (binOp op t (.int k x) (.int k y)) w c := by
  cases op
  case add => exact .of (v := .int k (k.wrap (x + y))) (w' := w) (by simp [binOp, Op.intArith]) (fitK_sound (k := k) (x := x + y) (c := fun v => c v w) h)
  case sub => exact .of (v := .int k (k.wrap (x - y))) (w' := w) (by simp [binOp, Op.intArith]) (fitK_sound (k := k) (x := x - y) (c := fun v => c v w) h)
  case mul => exact .of (v := .int k (k.wrap (x * y))) (w' := w) (by simp [binOp, Op.intArith]) (fitK_sound (k := k) (x := x * y) (c := fun v => c v w) h)
  case quo =>
    rcases h with ⟨⟨h1, h2⟩, h⟩ | ⟨h2, h⟩
    rotate_left
    · exact .of (v := .int k (k.wrap (x.tdiv y))) (w' := w) (by simp [binOp, Op.intDiv, show y ≠ 0 by omega]) (fitK_sound (k := k) (x := x.tdiv y) (c := fun v => c v w) h)
    have e : x.tdiv y = x / y := Int.tdiv_eq_ediv_of_nonneg h1
    exact .of (v := .int k (k.wrap (x.tdiv y))) (w' := w) (by simp [binOp, Op.intDiv, show y ≠ 0 by omega]) (by rw [e]; exact fitK_sound (k := k) (x := x / y) (c := fun v => c v w) h)
  case rem =>
    rcases h with ⟨⟨h1, h2⟩, h⟩ | ⟨h2, h⟩
    rotate_left
    · exact .of (v := .int k (x.tmod y)) (w' := w) (by simp [binOp, Op.intDiv, show y ≠ 0 by omega]) h
    have e : x.tmod y = x % y := Int.tmod_eq_emod_of_nonneg h1
    exact .of (v := .int k (x.tmod y)) (w' := w) (by simp [binOp, Op.intDiv, show y ≠ 0 by omega]) (by rw [e]; exact h)
  case and => exact .of (v := .int k (bitsI .and k x y)) (w' := w) (by simp [binOp, Op.intBits, bitsI]) h
  case or => exact .of (v := .int k (bitsI .or k x y)) (w' := w) (by simp [binOp, Op.intBits, bitsI]) h
  case xor => exact .of (v := .int k (bitsI .xor k x y)) (w' := w) (by simp [binOp, Op.intBits, bitsI]) h
  case andNot => exact .of (v := .int k (bitsI .andNot k x y)) (w' := w) (by simp [binOp, Op.intBits, bitsI]) h
  case eql => exact .of (v := .bool (decide (x = y))) (w' := w) (by simp [binOp, Op.intCmp]; by_cases e : x = y <;> simp [e]) h
  case neq => exact .of (v := .bool (decide (x ≠ y))) (w' := w) (by simp [binOp, Op.intCmp]; by_cases e : x = y <;> simp [e]) h
  case lss => exact .of (v := .bool (decide (x < y))) (w' := w) (by simp [binOp, Op.intCmp]) h
  case leq => exact .of (v := .bool (decide (x ≤ y))) (w' := w) (by simp [binOp, Op.intCmp]) h
  case gtr => exact .of (v := .bool (decide (y < x))) (w' := w) (by simp [binOp, Op.intCmp]) h
  case geq => exact .of (v := .bool (decide (y ≤ x))) (w' := w) (by simp [binOp, Op.intCmp]) h
  case shl =>
    obtain ⟨h1, h⟩ := h
    exact .of (v := .int k (k.wrap (x * 2 ^ (min y.toNat k.bits)))) (w' := w) (by simp [binOp, Op.shift, show ¬ y < 0 by omega]) (fitK_sound (k := k) (c := fun v => c v w) h)
  case shr =>
    obtain ⟨h1, h⟩ := h
    refine .of (v := .int k (x.fdiv (2 ^ (min y.toNat k.bits)))) (w' := w) (by simp [binOp, Op.shift, show ¬ y < 0 by omega]) ?_
    rw [Int.fdiv_eq_ediv_of_nonneg _ (Int.pow_nonneg (by decide))]
    exact h
end Go.Proofs.YtffaffojkfalhaaGreatDoor
namespace Go.Proofs.YtffaffojkfalhaaGreatDoor
open Go Go.RowKit

/-! ### parts of slices and strings -/
def subA (a : Option Addr) (l m size : Nat) : Option Addr := if m = l then a else a.map fun p => p.add (l * size)
theorem subA_none (l m size : Nat) : subA none l m size = none := by unfold subA; split <;> rfl
theorem subA_plain {a : Option Addr} (h : Plain a) {l m size : Nat} : Plain (subA a l m size) := by
  unfold subA
  split
  · exact h
  · rw [h]; simp [Plain, ablk, aoff, addr_add]
theorem subA_blk {a : Option Addr} {l m size : Nat} : ablk (subA a l m size) = ablk a := by
  unfold subA
  split
  · rfl
  · cases a with
    | none => rfl
    | some p => simp only [Option.map_some, ablk, Addr.add]; split <;> rfl
theorem subA_off {a : Option Addr} (h : Plain a) {l m size : Nat} (hm : m ≠ l) : aoff (subA a l m size) = aoff a + l * size := by
  unfold subA
  rw [if_neg hm, h]
  simp [aoff, addr_add]
def boundK (x : Option Value) (dflt : Nat) (most : Nat) (k : Nat → Prop) : Prop :=
  match x with
  | none => k dflt
  | some (.int _ i) => (0 ≤ i ∧ i ≤ (most : Int)) ∧ k i.toNat
  | _ => False
theorem boundK_some {P : Program} {v : Value} {y d : Nat} {k : Nat → Prop} {code : BoundsCode} {w : World} (h : boundK (some v) d y k) : ∃ n, n ≤ y ∧ (Instr.sliceBound v y code).run P w = .ok n w ∧ k n := by
  unfold boundK at h
  split at h
  · rename_i hx; cases hx
  · rename_i q i hx
    cases hx
    exact ⟨i.toNat, by omega, by simp [Instr.sliceBound, asIntOf, h.1], h.2⟩
  · exact h.elim
def sliceV (C : Cx) (t : TypeId) (x : Value) (lo hi mx : Option Value) (w : World) (k : Value → World → Prop) : Prop :=
  tdK C.T t fun d => match d.under, x with
    | .string, .string ⟨⟨b⟩⟩ => (match mx with
      | none => boundK hi b.length b.length fun h => boundK lo 0 h fun l => k (.string ⟨⟨(b.take h).drop l⟩⟩) w
      | some _ => False)
    | .slice e, .slice a len cap => tdK C.T e fun de => (match mx with
      | none => boundK hi len cap fun h => boundK lo 0 h fun l => (l ≤ h) ∧ k (.slice (subA a l cap de.size) (h - l) (cap - l)) w
      | some mx => boundK (some mx) cap cap fun m => (match hi with
        | some hi => boundK (some hi) len m fun h => boundK lo 0 h fun l => k (.slice (subA a l m de.size) (h - l) (m - l)) w
        | none => False))
    | .array n e, .pointer (some ⟨b, o, none⟩) => tdK C.T e fun de => (match mx with
      | none => boundK hi n n fun h => boundK lo 0 h fun l => k (.slice (subA (some ⟨b, o, none⟩) l n de.size) (h - l) (n - l)) w
      | some _ => False)
    | _, _ => False
theorem run_bounds {P : Program} {isS : Bool} {len cap : Nat} {lo hi : Option Value} {k : Nat → Nat → Prop} {w : World}
    (h : boundK hi len cap fun h => boundK lo 0 h fun l => k l h) : ∃ l h, (Instr.sliceBounds isS len cap lo hi none).run P w = .ok (l, h, cap) w ∧ k l h := by
  cases hi with
  | none =>
    cases lo with
    | none => exact ⟨0, len, by simp [Instr.sliceBounds], h⟩
    | some v =>
      have h : boundK (some v) 0 len fun l => k l len := h
      obtain ⟨l, hle, hr, hk⟩ := boundK_some (P := P) (w := w) (code := .sliceB) (d := 0) h
      exact ⟨l, len, by simp [Instr.sliceBounds, hr], hk⟩
  | some u =>
    obtain ⟨m, hle, hr, h⟩ := boundK_some (P := P) (w := w) (code := if isS then .sliceAcap else .sliceAlen) (d := len) h
    cases lo with
    | none => exact ⟨0, m, by simp [Instr.sliceBounds, hr], h⟩
    | some v =>
      obtain ⟨l, hle, hr', hk⟩ := boundK_some (P := P) (w := w) (code := .sliceB) (d := 0) h
      exact ⟨l, m, by simp [Instr.sliceBounds, hr, hr'], hk⟩
theorem sliceV_sound {C : Cx} (hT : TabOk C.P C.T) {t : TypeId} {x : Value} {lo hi mx : Option Value} {w : World} {k : Value → World → Prop} (h : sliceV C t x lo hi mx w k) :
    SemOk C.P (Instr.sliceAt t x lo hi mx) w k := by
  replace h := tdK_sound hT h; obtain ⟨d, hd, h⟩ := h
  split at h
  · rename_i b hu
    have hru := hd.string hu w
    split at h
    · obtain ⟨l, h', hr, hk⟩ := run_bounds (P := C.P) (isS := false) (w := w) (k := fun l h => k (.string ⟨⟨(b.take h).drop l⟩⟩) w) h
      refine .of (v := .string ⟨⟨(b.take h').drop l⟩⟩) (w' := w) ?_ hk
      have hsz : (ByteArray.mk ⟨b⟩).size = b.length := rfl
      have hex : (ByteArray.mk ⟨b⟩).extract l h' = ⟨⟨(b.take h').drop l⟩⟩ := by
        have := ByteArray.extract_mk b l h'
        rw [List.drop_take]
        exact this
      simp only [Instr.sliceAt, Instr.slice, Sem.run_bind, hru, Result.andThen_ok, hsz, hr, Option.isSome_none, Bool.false_eq_true, if_false, Sem.run_pure, hex]
    · exact h.elim
  · rename_i e a len cap hu
    have hru := hd.slice hu w
    replace h := tdK_sound hT h; obtain ⟨de, hde, h⟩ := h
    split at h
    · obtain ⟨l, h', hr, hle, hk⟩ := run_bounds (P := C.P) (isS := true) (w := w) (k := fun l h => l ≤ h ∧ k (.slice (subA a l cap de.size) (h - l) (cap - l)) w) h
      refine .of ?_ hk
      simp [Instr.sliceAt, Instr.slice, hru, hr, hde.run_size, subA]
    · rename_i mx
      obtain ⟨m, _, hr0, h⟩ := boundK_some (P := C.P) (w := w) (code := .slice3Acap) h
      split at h
      · rename_i hi
        obtain ⟨h', _, hr1, h⟩ := boundK_some (P := C.P) (w := w) (code := .slice3B) h
        cases lo with
        | none =>
          refine .of (v := .slice (subA a 0 m de.size) (h' - 0) (m - 0)) (w' := w) ?_ h
          simp [Instr.sliceAt, Instr.slice, Instr.sliceBounds, hru, hr0, hr1, hde.run_size, subA]
        | some v =>
          obtain ⟨l, _, hr2, hk⟩ := boundK_some (P := C.P) (w := w) (code := .slice3C) h
          refine .of ?_ hk
          simp [Instr.sliceAt, Instr.slice, Instr.sliceBounds, hru, hr0, hr1, hr2, hde.run_size, subA]
      · exact h.elim
  · rename_i n e b o hu
    have hru := hd.array hu w
    replace h := tdK_sound hT h; obtain ⟨de, hde, h⟩ := h
    split at h
    · obtain ⟨l, h', hr, hk⟩ := run_bounds (P := C.P) (isS := false) (w := w) (k := fun l h => k (.slice (subA (some ⟨b, o, none⟩) l n de.size) (h - l) (n - l)) w) h
      refine .of ?_ hk
      simp only [Instr.sliceAt, Instr.sureAddr, Sem.run_bind, hru, hr, hde.run_size, Result.andThen_ok, Sem.run_pure, subA]
      split <;> rfl
    · exact h.elim
  · exact h.elim

/-! ### struct literals -/
/-- the parts of a struct's literal, put over its zero -/
def fillK (C : Cx) (fs : List (Nat × TypeId)) : List (Nat × Value) → List Value → (List Value → Prop) → Prop
  | [], c, k => k c
  | (i, v) :: r, c, k => match fs[i]? with
    | some f => tdK C.T f.2 fun df => cellsK v fun l => (match Nat.beq l.length df.size with
      | true => replK c f.1 l fun c' => fillK C fs r c' k
      | false => False)
    | none => False
theorem foldl_set (off : Nat) : ∀ (l : List Value) (k : Nat) (acc : Array Value), off + k + l.length ≤ acc.size →
    ((l.zipIdx k).foldl (fun cs p => cs.setIfInBounds (off + p.2) p.1) acc).toList = acc.toList.take (off + k) ++ l ++ acc.toList.drop (off + k + l.length)
  | [], k, acc, _ => by simp
  | v :: l, k, acc, h => by
    simp only [List.length_cons] at h
    rw [List.zipIdx_cons, List.foldl_cons, foldl_set off l (k + 1) _ (by simp; omega)]
    have hlt : off + k < acc.toList.length := by simp; omega
    simp only [Array.toList_setIfInBounds, List.set_eq_take_append_cons_drop, hlt, if_true]
    generalize hA : acc.toList = A at hlt ⊢
    have key : ∀ (p q : List Value) (n m : Nat), p.length = n → (p ++ v :: q).take (n + 1) = p ++ [v] ∧ (p ++ v :: q).drop (n + 1 + m) = q.drop m := by
      rintro p q n m rfl
      refine ⟨by rw [List.take_append, List.take_of_length_le (by omega)]; simp, ?_⟩
      rw [List.drop_append, List.drop_of_length_le (by omega), show p.length + 1 + m - p.length = m + 1 by omega]
      simp
    obtain ⟨k1, k2⟩ := key (A.take (off + k)) (A.drop (off + k + 1)) (off + k) l.length (by simp; omega)
    rw [show off + (k + 1) = off + k + 1 by omega, k1, k2, List.drop_drop]
    simp only [List.append_assoc, List.cons_append, List.nil_append, List.length_cons]
    rw [show off + k + 1 + l.length = off + k + (l.length + 1) by omega]
theorem run_fill {places : Nat → Option (Nat × Nat)} {c : List Value} {i off size : Nat} {v : Value} {r : List (Nat × Value)} (hp : places i = some (off, size)) (hs : v.cells.size = size) (hle : off + v.cells.size ≤ c.length) :
    Instr.fill places ⟨c⟩ ((i, v) :: r) = Instr.fill places ⟨c.take off ++ v.cells.toList ++ c.drop (off + v.cells.toList.length)⟩ r := by
  have h1 : ¬ (v.cells.size ≠ size) := by simp [hs]
  have h2 : ¬ (off + v.cells.size > c.length) := by omega
  have key := foldl_set off v.cells.toList 0 ⟨c⟩ (by simpa using hle)
  simp only [Nat.add_zero] at key
  have e : (v.cells.zipIdx.foldl (fun cs (p : Value × Nat) => cs.setIfInBounds (off + p.2) p.1) (⟨c⟩ : Array Value)) = ⟨c.take off ++ v.cells.toList ++ c.drop (off + v.cells.toList.length)⟩ := by
    apply Array.ext'
    rw [← Array.foldl_toList, Array.toList_zipIdx]
    exact key
  simp only [Instr.fill, hp]
  rw [if_neg (by simp [hs]; simpa [hs] using hle)]
  rw [← e]
theorem fillK_sound {C : Cx} (hT : TabOk C.P C.T) {fs : List (Nat × TypeId)} {places : Array (Nat × Nat)}
    (hpl : ∀ (i : Nat) (f : Nat × TypeId), fs[i]? = some f → ∀ df, TdOk C.P f.2 df → places[i]? = some (f.1, df.size)) : ∀ {ps : List (Nat × Value)} {c : List Value} {k : List Value → Prop}, fillK C fs ps c k →
    ∃ c', Instr.fill (places[·]?) ⟨c⟩ ps = some ⟨c'⟩ ∧ k c'
  | [], c, k, h => ⟨c, rfl, h⟩
  | (i, v) :: r, c, k, h => by
    simp only [fillK] at h
    split at h
    · rename_i f hf
      replace h := tdK_sound hT h; obtain ⟨df, hdf, h⟩ := h
      replace h := cellsK_sound h
      split at h
      · rename_i hl
        have hl := Nat.eq_of_beq_eq_true hl
        obtain ⟨hle, h⟩ := replK_sound h
        obtain ⟨c', h1, h2⟩ := fillK_sound hT hpl h
        refine ⟨c', ?_, h2⟩
        rw [run_fill (hpl i f hf df hdf) (by simpa using hl) (by simpa using hle)]
        exact h1
      · exact h.elim
    · exact h.elim
theorem run_places {C : Cx} {w : World} : ∀ (fs : List Field), (∀ f ∈ fs, ∃ df, TdOk C.P f.type df) →
    ∃ l : List (Nat × Nat), ((fs.mapM fun f => do pure (f.offset, ← sizeOf f.type) : Sem (List (Nat × Nat)))).run C.P w = .ok l w ∧
      ∀ (i : Nat) (f : Field), fs[i]? = some f → ∀ df, TdOk C.P f.type df → l[i]? = some (f.offset, df.size)
  | [], _ => ⟨[], by simp, by simp⟩
  | f :: fs, h => by
    obtain ⟨df, hdf⟩ := h f (by simp)
    obtain ⟨l, hl, hi⟩ := run_places (w := w) fs (fun g hg => h g (by simp [hg]))
    refine ⟨(f.offset, df.size) :: l, by rw [List.mapM_cons]; simp only [Sem.run_bind, hdf.run_size, Result.andThen_ok, Sem.run_pure, hl], ?_⟩
    intro i g hg dg hdg
    cases i with
    | zero =>
      simp at hg
      subst hg
      have h1 := hdf.run_size w
      have h2 := hdg.run_size w
      rw [h1] at h2
      simp only [Result.ok.injEq, and_true] at h2
      simp [h2]
    | succ i => simp at hg ⊢; exact hi i g hg dg hdg
def allTd (C : Cx) : List (Nat × TypeId) → Prop → Prop
  | [], k => k
  | f :: r, k => tdK C.T f.2 fun _ => allTd C r k
theorem allTd_sound {C : Cx} (hT : TabOk C.P C.T) : ∀ {fs : List (Nat × TypeId)} {k : Prop}, allTd C fs k → (∀ f ∈ fs, ∃ df, TdOk C.P f.2 df) ∧ k
  | [], _, h => ⟨by simp, h⟩
  | f :: r, k, h => by
    obtain ⟨d, hd, h⟩ := tdK_sound hT h
    obtain ⟨h1, h2⟩ := allTd_sound hT h
    exact ⟨fun g hg => (List.mem_cons.1 hg).elim (fun e => e ▸ ⟨d, hd⟩) (fun hg => h1 g hg), h2⟩
def buildV (C : Cx) (t : TypeId) (ps : List (Nat × Value)) (w : World) (k : Value → World → Prop) : Prop :=
  tdK C.T t fun d => zeroK d fun z => (match d.under, z with
    | .struct fs, .agg ⟨c⟩ => allTd C fs (fillK C fs ps c fun c' => k (.agg ⟨c'⟩) w)
    | .array _ _, _ => SemOk C.P (Instr.build t ps.toArray) w k
    | _, _ => False)
theorem buildV_sound {C : Cx} (hT : TabOk C.P C.T) {t : TypeId} {ps : List (Nat × Value)} {w : World} {k : Value → World → Prop} (h : buildV C t ps w k) : SemOk C.P (Instr.build t ps.toArray) w k := by
  replace h := tdK_sound hT h; obtain ⟨d, hd, h⟩ := h
  replace h := zeroK_sound h; obtain ⟨z, hz, h⟩ := h
  split at h
  · rename_i fs c hu
    obtain ⟨fls, hru, rfl⟩ := hd.struct hu w
    obtain ⟨hall, h⟩ := allTd_sound hT h
    obtain ⟨l, hl, hi⟩ := run_places (C := C) (w := w) fls.toList (fun f hf => hall (f.offset, f.type) (List.mem_map.2 ⟨f, hf, rfl⟩))
    obtain ⟨c', hc, hk⟩ := fillK_sound hT (places := l.toArray) (fun i f hf df hdf => by
      rw [List.getElem?_map] at hf
      cases hg : fls.toList[i]? with
      | none => simp [hg] at hf
      | some g =>
        simp only [hg, Option.map_some, Option.some.injEq] at hf
        subst hf
        simpa using hi i g hg df hdf) h
    refine .of (v := .agg ⟨c'⟩) (w' := w) ?_ hk
    simp only [Instr.build, Sem.run_bind, hd.run_zero hz, Result.andThen_ok, hru]
    rw [← Array.toArray_toList (xs := fls), Array.mapM_eq_mapM_toList]
    simp only [Sem.run_map, hl, Result.andThen_ok, Value.cells, hc, Sem.run_pure]
  · exact h
  · exact h.elim

/-! ### slice literals -/
def bsK (sz : Nat) : Nat → List (Nat × Value) → (List Value → Prop) → Prop
  | _, [], k => k []
  | i, (j, v) :: r, k => match Nat.beq i j with
    | true => cellsK v fun l => (match Nat.beq l.length sz with
      | true => bsK sz (i + 1) r fun m => (match l with | [u] => k (u :: m) | l => k (l ++ m))
      | false => False)
    | false => False
theorem bsK_sound {sz n : Nat} : ∀ {ps : List (Nat × Value)} {i : Nat} {c : List Value} {k : List Value → Prop}, c.length = n * sz → ps.length + i = n → bsK sz i ps k →
    ∃ l, l.length = ps.length * sz ∧ Instr.fill (fun i => some (i * sz, sz)) ⟨c⟩ ps = some ⟨c.take (i * sz) ++ l⟩ ∧ k l
  | [], i, c, k, hc, hn, h => ⟨[], by simp, by simp at hn; subst hn; simp [Instr.fill, ← hc], h⟩
  | (j, v) :: r, i, c, k, hc, hn, h => by
    simp only [bsK] at h
    split at h
    · rename_i hij
      have hij := Nat.eq_of_beq_eq_true hij
      subst hij
      replace h := cellsK_sound h
      split at h
      · rename_i hl
        have hl : v.cells.size = sz := by simpa using Nat.eq_of_beq_eq_true hl
        simp only [List.length_cons] at hn
        have hle : i * sz + v.cells.size ≤ c.length := by
          rw [hc, hl, ← Nat.succ_mul]
          exact Nat.mul_le_mul_right _ (by omega)
        have hvl : v.cells.toList.length = sz := by simpa using hl
        have hc' : (c.take (i * sz) ++ v.cells.toList ++ c.drop (i * sz + v.cells.toList.length)).length = n * sz := by
          simp only [List.length_append, List.length_take, List.length_drop, hvl]
          omega
        obtain ⟨l, h1, h2, h3⟩ := bsK_sound hc' (by omega) h
        refine ⟨v.cells.toList ++ l, by simp [hvl, h1, Nat.succ_mul, Nat.add_comm], ?_, ?_⟩
        · rw [run_fill (off := i * sz) (size := sz) rfl hl hle, h2]
          have : (c.take (i * sz) ++ v.cells.toList ++ c.drop (i * sz + v.cells.toList.length)).take ((i + 1) * sz) = c.take (i * sz) ++ v.cells.toList := by
            rw [List.take_append_of_le_length (by simp [hl, Nat.succ_mul]; omega), List.take_of_length_le (by simp [hl, Nat.succ_mul]; omega)]
          rw [this, List.append_assoc]
        · revert h3
          generalize v.cells.toList = q
          intro h3
          split at h3
          · exact h3
          · exact h3
      · exact h.elim
    · exact h.elim
def bsV (C : Cx) (t : TypeId) (n : Nat) (ps : List (Nat × Value)) (w : World) (k : Value → World → Prop) : Prop :=
  tdK C.T t fun d => match d.under with
    | .slice e => tdK C.T e fun de => (match Nat.ble (n * de.size) 16777216, Nat.beq ps.length n, de.zero with
      | true, true, some z => (match Nat.beq z.cells.size de.size with
        | true => bsK de.size 0 ps fun l => ∀ w' b, NewBlk w b l e w' → k (.slice (some ⟨b, 0, none⟩) n n) w'
        | false => False)
      | _, false, _ => SemOk C.P (Instr.buildSlice t n ps.toArray) w k
      | _, _, _ => False)
    | _ => False
theorem bsV_sound {C : Cx} (hT : TabOk C.P C.T) {t : TypeId} {n : Nat} {ps : List (Nat × Value)} {w : World} {k : Value → World → Prop} (h : bsV C t n ps w k) : SemOk C.P (Instr.buildSlice t n ps.toArray) w k := by
  replace h := tdK_sound hT h; obtain ⟨d, hd, h⟩ := h
  split at h
  · rename_i e hu
    have hru := hd.slice hu w
    replace h := tdK_sound hT h; obtain ⟨de, hde, h⟩ := h
    split at h
    · rename_i z h1 h2 hz
      split at h
      · rename_i hzs
        have h1 := Nat.le_of_ble_eq_true h1
        have h2 := Nat.eq_of_beq_eq_true h2
        have hn : ¬ (n * de.size > 2 ^ 24) := by omega
        have base : ∀ q : Array Value, ((Array.range (n * de.size)).map (q[· % q.size]!)).toList.length = n * de.size := by simp
        obtain ⟨Z, hZ⟩ : ∃ Z : Array Value, ((if n * de.size = 0 then pure #[] else do pure (← zeroValue e).cells : Sem (Array Value))).run C.P w = .ok Z w := by
          by_cases hz0 : n * de.size = 0
          · exact ⟨#[], by simp [hz0]⟩
          · exact ⟨z.cells, by rw [if_neg hz0]; simp [hde.run_zero hz]⟩
        obtain ⟨l, g1, g2, g3⟩ := bsK_sound (n := n) (c := ((Array.range (n * de.size)).map (Z[· % Z.size]!)).toList) (base _) (by omega) h
        simp only [Nat.zero_mul, List.take_zero, List.nil_append] at g2
        have g2' : Instr.fill (fun i => some (i * de.size, de.size)) ((Array.range (n * de.size)).map (Z[· % Z.size]!)) ps = some ⟨l⟩ := g2
        refine .of (v := .slice (some ⟨w.heap.size, 0, none⟩) n n) (w' := w.alloc (.cells l.toArray e)) ?_ (g3 _ _ ⟨rfl, rfl⟩)
        unfold Instr.buildSlice
        simp only [Sem.run_bind, hru, Result.andThen_ok, hde.run_size, hn, if_false]
        by_cases hz0 : n * de.size = 0
        · rw [if_pos hz0] at hZ ⊢
          simp only [Sem.run_pure, Result.ok.injEq, and_true] at hZ
          subst hZ
          simp only [Sem.run_bind, Sem.run_pure, Result.andThen_ok, g2']
          simp [newRow]
        · rw [if_neg hz0] at hZ ⊢
          simp only [Sem.run_bind, hde.run_zero hz, Sem.run_pure, Result.andThen_ok, Result.ok.injEq, and_true] at hZ ⊢
          subst hZ
          simp only [g2']
          simp [newRow]
      · exact h.elim
    · exact h
    · exact h.elim
  · exact h.elim

/-! ### cells -/
/-- the cells from an address on -/
def Cells (w : World) (a : Option Addr) (l : List Value) : Prop :=
  (l ≠ [] → Plain a) ∧ ∀ j v, l[j]? = some v → w.cell? ⟨ablk a, aoff a + j, none⟩ = some v
theorem Cells.ext {w w' : World} {a : Option Addr} {l : List Value} (h : Cells w a l) (he : Ext w w') : Cells w' a l :=
  ⟨h.1, fun j v hj => by have := h.2 j v hj; rw [he.cell (World.block_lt_of_cell? _ _ this)]; exact this⟩
theorem Cells.tw {B : Nat} {w w' : World} {a : Option Addr} {l : List Value} (h : Cells w a l) (he : Tw B w w') : Cells w' a l := ⟨h.1, fun j v hj => he.cell (h.2 j v hj)⟩
theorem Cells.below {B : Nat} {w w' : World} {a : Option Addr} {l : List Value} (h : Cells w a l) (he : Below B w w') (hb : l ≠ [] → ablk a < B) : Cells w' a l :=
  ⟨h.1, fun j v hj => by
    have := h.2 j v hj
    rw [he.cell (hb (by intro e; subst e; simp at hj))]; exact this⟩
theorem Cells.lt {w : World} {a : Option Addr} {l : List Value} (h : Cells w a l) (hl : l ≠ []) : ablk a < w.heap.size := by
  obtain ⟨v, r, rfl⟩ := List.exists_cons_of_ne_nil hl
  exact World.block_lt_of_cell? _ _ (h.2 0 v (by simp))
abbrev bv (b : UInt8) : Value := .int .u8 (b.toNat : Int)

/-! ### struct equality -/
abbrev PK := (p : Prop) → Decidable p → Prop
def scalK (u : Und) (x y : Value) (k : PK) : Prop :=
  match u, x, y with
  | .int _, .int ka a, .int kb b => (match decide (ka = kb) with | true => k (a = b) inferInstance | false => False)
  | .string, .string ⟨⟨a⟩⟩, .string ⟨⟨b⟩⟩ => k (a = b) inferInstance
  | .bool, .bool a, .bool b => k (a = b) inferInstance
  | _, _, _ => False
theorem scalK_sound {P : Program} {t : TypeId} {d : TD} (hd : TdOk P t d) {x y : Value} {k : PK} (h : scalK d.under x y k) (w : World) (m : Nat) :
    ∃ (p : Prop) (i : Decidable p), (Op.equalIn (m + 1) t x y).run P w = .ok (@decide p i) w ∧ isAggD d.under = false ∧ k p i := by
  unfold scalK at h
  split at h
  · rename_i k0 ka a kb b hu
    have hru := hd.int hu w
    split at h
    · rename_i hk
      have hk := of_decide_eq_true hk
      subst hk
      refine ⟨_, _, ?_, by rw [hu]; rfl, h⟩
      simp only [Op.equalIn, Sem.run_bind, hru, Result.andThen_ok, if_true, Sem.run_pure]
      by_cases e : a = b <;> simp [e]
    · exact h.elim
  · rename_i a b hu
    have hru := hd.string hu w
    refine ⟨_, _, ?_, by rw [hu]; rfl, h⟩
    simp only [Op.equalIn, Sem.run_bind, hru, Result.andThen_ok, Sem.run_pure]
    rw [beq_toListBytes]
    have e1 : (ByteArray.mk ⟨a⟩).toList = a := ByteArray.toList_mk a
    have e2 : (ByteArray.mk ⟨b⟩).toList = b := ByteArray.toList_mk b
    rw [e1, e2]
    by_cases e : a = b <;> simp [e]
  · rename_i a b hu
    have hru := hd.bool hu w
    refine ⟨_, _, ?_, by rw [hu]; rfl, h⟩
    simp only [Op.equalIn, Sem.run_bind, hru, Result.andThen_ok, Sem.run_pure]
    cases a <;> cases b <;> rfl
  · exact h.elim
def eqFK (C : Cx) : List (Nat × TypeId) → List Value → List Value → PK → Prop
  | [], _, _, k => k True inferInstance
  | [f], xs, ys, k => tdK C.T f.2 fun d => nthK xs f.1 fun x => nthK ys f.1 fun y => scalK d.under x y k
  | f :: r, xs, ys, k => tdK C.T f.2 fun d => nthK xs f.1 fun x => nthK ys f.1 fun y => scalK d.under x y fun p i => eqFK C r xs ys fun q j => k (p ∧ q) (@instDecidableAnd p q i j)
theorem run_part_scal {P : Program} {t : TypeId} {d : TD} (hd : TdOk P t d) (ha : isAggD d.under = false) {l : List Value} {off : Nat} {v : Value} (hv : l[off]? = some v) (w : World) : (part t ⟨l⟩ off).run P w = .ok v w := by
  have h1 : (isAgg t).run P w = .ok false w := by rw [hd.isAgg, ha]
  have hv' : (⟨l⟩ : Array Value)[off]? = some v := by simpa using hv
  simp [part, h1, hv']
theorem eqFK_sound {C : Cx} (hT : TabOk C.P C.T) {xs ys : List Value} {w : World} {m : Nat} : ∀ {fs : List Field} {k : PK}, (∀ f ∈ fs, f.name ≠ "_") → eqFK C (fs.map fun f => (f.offset, f.type)) xs ys k →
    ∃ (p : Prop) (i : Decidable p), (Op.eqFields (m + 1) ⟨xs⟩ ⟨ys⟩ fs).run C.P w = .ok (@decide p i) w ∧ k p i
  | [], k, _, h => ⟨True, inferInstance, by simp [Op.eqFields], h⟩
  | f :: r, k, hn, h => by
    have key : ∀ k', (tdK C.T f.type fun d => nthK xs f.offset fun x => nthK ys f.offset fun y => scalK d.under x y k') → ∃ (p : Prop) (i : Decidable p), k' p i ∧
        ∀ R : Sem Bool, ((do
          let a ← part f.type ⟨xs⟩ f.offset
          let b ← part f.type ⟨ys⟩ f.offset
          let r ← Op.equalIn (m + 1) f.type a b
          if (!r) = true then pure false else R : Sem Bool)).run C.P w = if (!@decide p i) = true then .ok false w else R.run C.P w := by
      intro k' h
      obtain ⟨d, hd, h⟩ := tdK_sound hT h
      obtain ⟨x, hx, h⟩ := nthK_iff.1 h
      obtain ⟨y, hy, h⟩ := nthK_iff.1 h
      obtain ⟨p, i, hr, ha, hk⟩ := scalK_sound hd h w m
      refine ⟨p, i, hk, fun R => ?_⟩
      simp only [Sem.run_bind, run_part_scal hd ha hx, run_part_scal hd ha hy, hr, Result.andThen_ok, Sem.run_ite, Sem.run_pure]
    have hname := hn f (by simp)
    cases r with
    | nil =>
      obtain ⟨p, i, hk, hR⟩ := key k h
      refine ⟨p, i, ?_, hk⟩
      simp only [Op.eqFields, hname, ne_eq, not_false_eq_true, if_true]
      rw [hR]
      simp only [Sem.run_pure]
      cases @decide p i <;> rfl
    | cons g r =>
      obtain ⟨p, i, hk, hR⟩ := key _ h
      obtain ⟨q, j, hrq, hkq⟩ := eqFK_sound hT (fs := g :: r) (fun f hf => hn f (by simp [hf])) hk
      refine ⟨p ∧ q, @instDecidableAnd p q i j, ?_, hkq⟩
      rw [Op.eqFields, if_pos hname, hR, hrq]
      by_cases hp : p <;> by_cases hq : q <;> simp [hp, hq]
theorem eqAgg_sound {C : Cx} (hT : TabOk C.P C.T) {t : TypeId} {d : TD} (hd : TdOk C.P t d) (he : d.eq = true) {fs : List (Nat × TypeId)} (hu : d.under = .struct fs) {xs ys : List Value} {k : PK} (h : eqFK C fs xs ys k) (w : World) :
    ∃ (p : Prop) (i : Decidable p), k p i ∧ ∀ x y, ((do eqGuard .eql t x y (.agg ⟨xs⟩) (.agg ⟨ys⟩); binOp .eql t (.agg ⟨xs⟩) (.agg ⟨ys⟩) : Sem Value)).run C.P w = .ok (.bool (@decide p i)) w ∧
      ((do eqGuard .neq t x y (.agg ⟨xs⟩) (.agg ⟨ys⟩); binOp .neq t (.agg ⟨xs⟩) (.agg ⟨ys⟩) : Sem Value)).run C.P w = .ok (.bool (!@decide p i)) w := by
  obtain ⟨d0, h1, h2⟩ := hd.under
  obtain ⟨fls, rfl, hnm, rfl⟩ := undOf_struct (h2.trans hu)
  obtain ⟨hg, hs⟩ := hd.eq he
  have hf : C.P.fieldsOf t = fls := by simp [Program.fieldsOf, h1]
  have hn : ∀ f ∈ fls.toList, f.name ≠ "_" := by
    intro f hf hc
    have : (fls.any fun f => f.name == "_") = true := by
      rw [Array.any_eq_true']
      exact ⟨f, by simpa using hf, by simp [hc]⟩
    rw [hnm] at this
    cases this
  obtain ⟨p, i, hr, hk⟩ := eqFK_sound hT (m := 9998) (w := w) hn h
  have hst := run_equalIn_struct (P := C.P) w 9999 t ⟨xs⟩ ⟨ys⟩ (by rw [hf]; exact h1) hs
  rw [hf] at hst
  refine ⟨p, i, hk, fun x y => ⟨?_, ?_⟩⟩
  · rw [Sem.run_bind, run_eqGuard_agg (P := C.P) w .eql t x y _ _ hg]
    simp only [Result.andThen_ok]
    rw [run_eql_struct, hst.trans hr]
    rfl
  · rw [Sem.run_bind, run_eqGuard_agg (P := C.P) w .neq t x y _ _ hg]
    simp only [Result.andThen_ok]
    rw [run_neq_struct, hst.trans hr]
    rfl
end Go.Proofs.YtffaffojkfalhaaGreatDoor
