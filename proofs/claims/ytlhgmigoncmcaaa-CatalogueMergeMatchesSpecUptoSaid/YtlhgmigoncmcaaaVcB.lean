/-
  The rules, one an operation: a condition over values and the world, and that the operation's run comes to what the condition says.
-/
import Derived.Test.YtlhgmigoncmcaaaVcA
import Derived.Laws.Tables
import Derived.Laws.Strings
namespace Go.Proofs.Ytlhgmigoncmcaaa
open Go Go.RowKit

structure Cx where
  P : Program
  T : List TD
  n : Nat
  live : List Nat
  r : Option Nat := none

theorem addr_add (b o n : Nat) : (⟨b, o, none⟩ : Addr).add n = ⟨b, o + n, none⟩ := by
  unfold Addr.add
  split
  · rename_i h; subst h; rfl
  · rfl

/-! ### load, store -/
def isAggD : Und → Bool
  | .struct _ | .array _ _ | .blank => true
  | _ => false
theorem TdOk.isAgg {P : Program} {t : TypeId} {d : TD} (h : TdOk P t d) (w : World) : (isAgg t).run P w = .ok (isAggD d.under) w := by
  obtain ⟨d0, h1, h2⟩ := h.run_under w
  unfold Go.isAgg
  simp only [Sem.run_bind, h1, Result.andThen_ok, ← h2]
  cases d0 with
  | struct fs => simp only [undOf]; cases (fs.any fun f => f.name == "_") <;> simp [isAggD]
  | _ => simp [undOf, isAggD]
def loadN (w : World) (b : Nat) : Nat → Nat → (List Value → Prop) → Prop
  | 0, _, k => k []
  | n + 1, o, k => ∃ v, w.cell? ⟨b, o, none⟩ = some v ∧ loadN w b n (o + 1) fun l => k (v :: l)
def loadL (w : World) (b o n : Nat) (k : List Value → Prop) : Prop :=
  ∃ l : List Value, l.length = n ∧ (∀ j v, l[j]? = some v → w.cell? ⟨b, o + j, none⟩ = some v) ∧ k l
theorem loadN_loadL {w : World} {b : Nat} : ∀ {n o : Nat} {k : List Value → Prop}, loadN w b n o k → loadL w b o n k
  | 0, o, k, h => ⟨[], rfl, fun j v hj => by simp at hj, h⟩
  | n + 1, o, k, ⟨v, hv, h⟩ => by
    obtain ⟨l, hl, hc, hk⟩ := loadN_loadL h
    refine ⟨v :: l, by simp [hl], fun j u hj => ?_, hk⟩
    cases j with
    | zero => simp at hj; subst hj; exact hv
    | succ j =>
      simp at hj
      have := hc j u hj
      rw [show o + (j + 1) = o + 1 + j by omega]
      exact this
def loadV (C : Cx) (t : TypeId) (v : Value) (w : World) (k : Value → World → Prop) : Prop :=
  match v with
  | .pointer (some ⟨b, o, none⟩) => tdK C.T t fun d =>
    match isAggD d.under with
    | true => (match Nat.ble d.size 16 with
      | true => loadN w b d.size o fun l => k (.agg l.toArray) w
      | false => loadL w b o d.size fun l => k (.agg l.toArray) w)
    | false => ∃ u, w.cell? ⟨b, o, none⟩ = some u ∧ k u w
  | _ => False
theorem run_loadVar_agg {P : Program} {t : TypeId} {d : TD} (hd : TdOk P t d) (ha : isAggD d.under = true) {w : World} {b o : Nat} {l : List Value}
    (hl : l.length = d.size) (hc : ∀ j v, l[j]? = some v → w.cell? ⟨b, o + j, none⟩ = some v) : (loadVar t ⟨b, o, none⟩).run P w = .ok (.agg l.toArray) w := by
  have h1 : (isAgg t).run P w = .ok true w := by rw [hd.isAgg, ha]
  have h2 := run_loadCells_list (P := P) w ⟨b, o, none⟩ l (fun j v hj => by rw [addr_add]; exact hc j v hj)
  rw [hl] at h2
  simp [loadVar, h1, hd.run_size, h2]
theorem run_loadVar_one {P : Program} {t : TypeId} {d : TD} (hd : TdOk P t d) (ha : isAggD d.under = false) {w : World} {a : Addr} {u : Value}
    (hc : w.cell? a = some u) : (loadVar t a).run P w = .ok u w := by
  have h1 : (isAgg t).run P w = .ok false w := by rw [hd.isAgg, ha]
  simp [loadVar, h1, hc]
theorem loadV_var {C : Cx} (hT : TabOk C.P C.T) {t : TypeId} {v : Value} {w : World} {k : Value → World → Prop} (h : loadV C t v w k) :
    ∃ a u, v = .pointer (some a) ∧ (loadVar t a).run C.P w = .ok u w ∧ k u w := by
  unfold loadV at h
  split at h
  · rename_i b o
    replace h := tdK_sound hT h; obtain ⟨d, hd, h⟩ := h
    split at h
    · rename_i ha
      have h' : loadL w b o d.size fun l => k (.agg l.toArray) w := by
        split at h
        · exact loadN_loadL h
        · exact h
      obtain ⟨l, hl, hc, hk⟩ := h'
      exact ⟨_, _, rfl, run_loadVar_agg hd ha hl hc, hk⟩
    · rename_i ha
      obtain ⟨u, hu, hk⟩ := h
      exact ⟨_, _, rfl, run_loadVar_one hd ha hu, hk⟩
  · exact h.elim
theorem loadV_sound {C : Cx} (hT : TabOk C.P C.T) {t : TypeId} {v : Value} {w : World} {k : Value → World → Prop} (h : loadV C t v w k) : SemOk C.P (Instr.loadAt t v) w k := by
  obtain ⟨a, u, rfl, hr, hk⟩ := loadV_var hT h
  exact .of (by simp [Instr.loadAt, Instr.sureAddr, hr]) hk

def cellsK (v : Value) (k : List Value → Prop) : Prop := match v with | .agg ⟨l⟩ => k l | v => k [v]
theorem cellsK_sound {v : Value} {k : List Value → Prop} (h : cellsK v k) : k v.cells.toList := by
  cases v <;> exact h
def oneL : List Value → Prop → Prop
  | [], k => k
  | v :: r, k => match v with | .agg _ => False | .tuple _ => False | _ => oneL r k
theorem oneL_sound : ∀ {l : List Value} {k : Prop}, oneL l k → (∀ v ∈ l, v.oneCell' = true) ∧ k
  | [], _, h => ⟨fun _ h => by simp at h, h⟩
  | v :: r, k, h => by
    have key : v.oneCell' = true ∧ oneL r k := by cases v <;> first | exact ⟨rfl, h⟩ | exact h.elim
    obtain ⟨h1, h2⟩ := oneL_sound key.2
    refine ⟨fun u hu => ?_, h2⟩
    rcases List.mem_cons.1 hu with rfl | hu
    · exact key.1
    · exact h1 u hu
/-- cells from a place on, replaced -/
def replK : List Value → Nat → List Value → (List Value → Prop) → Prop
  | c, 0, [], k => k c
  | _ :: c, 0, v :: l, k => replK c 0 l fun r => k (v :: r)
  | u :: c, o + 1, l, k => replK c o l fun r => k (u :: r)
  | [], _, _, _ => False
theorem replK_sound : ∀ {c : List Value} {o : Nat} {l : List Value} {k : List Value → Prop}, replK c o l k → o + l.length ≤ c.length ∧ k (c.take o ++ l ++ c.drop (o + l.length))
  | c, 0, [], k, h => by
    have h : k c := by cases c <;> exact h
    exact ⟨by simp, by simpa using h⟩
  | u :: c, 0, v :: l, k, h => by
    obtain ⟨h1, h2⟩ := replK_sound (c := c) (o := 0) (l := l) h
    refine ⟨by simp at h1 ⊢; omega, ?_⟩
    simpa [Nat.add_comm] using h2
  | u :: c, o + 1, l, k, h => by
    have h' : replK c o l fun r => k (u :: r) := by cases l <;> exact h
    obtain ⟨h1, h2⟩ := replK_sound h'
    refine ⟨by simp; omega, ?_⟩
    rw [show o + 1 + l.length = (o + l.length) + 1 by omega]
    simpa using h2
  | [], 0, v :: l, k, h => h.elim
  | [], o + 1, l, k, h => by cases l <;> exact h.elim
theorem setRow_upd {w : World} {b : Nat} {c l : List Value} {t : TypeId} (h : Blk w b c t) : Upd w b l t (w.setRow b l.toArray) := by
  refine ⟨?_⟩
  have hlt := h.lt
  have hv : w.heap[b] = .cells c.toArray t (0, 0) := (Array.getElem?_eq_some_iff.1 h).2
  unfold World.setRow
  congr 1
  apply Array.ext
  · simp
  · intro i h1 h2
    by_cases e : b = i
    · subst e; simp [Array.getElem_modify, hv]
    · rw [Array.getElem_setIfInBounds (by simpa using h1), Array.getElem_modify, if_neg e, if_neg e]
def storeV (C : Cx) (t : TypeId) (a v : Value) (w : World) (k : World → Prop) : Prop :=
  match a with
  | .pointer (some ⟨b, o, none⟩) => tdK C.T t fun d => cellsK v fun l =>
    match Nat.beq l.length d.size with
    | true => oneL l (∃ c t', Blk w b c t' ∧ replK c o l fun c' => ∀ w', Upd w b c' t' w' → k w')
    | false => False
  | _ => False
theorem storeV_sound {C : Cx} (hT : TabOk C.P C.T) {t : TypeId} {a v : Value} {w : World} {k : World → Prop} (h : storeV C t a v w k) :
    ∃ w', (Instr.storeAt t a v).run C.P w = .ok () w' ∧ k w' := by
  unfold storeV at h
  split at h
  · rename_i b o
    replace h := tdK_sound hT h; obtain ⟨d, hd, h⟩ := h
    replace h := cellsK_sound h
    split at h
    · rename_i hl
      have hl := Nat.eq_of_beq_eq_true hl
      obtain ⟨h1, c, t', hb, hrp⟩ := oneL_sound h
      obtain ⟨hle, hk⟩ := replK_sound hrp
      refine ⟨_, ?_, hk _ (setRow_upd hb)⟩
      have hs := run_storeCells_at C.P b o t' v.cells.toList 0 c.toArray w hb (by simpa using hle) h1
      have hsz : v.cells.size = d.size := by simpa using hl
      simp only [Nat.add_zero] at hs
      simp only [Instr.storeAt, Instr.sureAddr, storeVar, Sem.run_bind, Sem.run_pure, Result.andThen_ok, hd.run_size, hsz, ne_eq, not_true, if_false]
      simpa using hs
    · exact h.elim
  · exact h.elim

/-! ### new memory -/
def zeroK (d : TD) (k : Value → Prop) : Prop := match d.zero with | some z => k z | none => False
theorem zeroK_sound {d : TD} {k : Value → Prop} (h : zeroK d k) : ∃ z, d.zero = some z ∧ k z := by
  unfold zeroK at h
  split at h
  · rename_i z hz; exact ⟨z, hz, h⟩
  · exact h.elim
def allocV (C : Cx) (t : TypeId) (w : World) (k : Value → World → Prop) : Prop :=
  tdK C.T t fun d => zeroK d fun z => cellsK z fun l => ∀ w' b, NewBlk w b l t w' → k (.pointer (some ⟨b, 0, none⟩)) w'
theorem allocV_sound {C : Cx} (hT : TabOk C.P C.T) {t : TypeId} {w : World} {k : Value → World → Prop} (h : allocV C t w k) : SemOk C.P (Instr.alloc t true (.tuple #[])) w k := by
  replace h := tdK_sound hT h; obtain ⟨d, hd, h⟩ := h
  replace h := zeroK_sound h; obtain ⟨z, hz, h⟩ := h
  replace h := cellsK_sound h
  refine .of (v := .pointer (some ⟨w.heap.size, 0, none⟩)) (w' := w.alloc (.cells z.cells.toList.toArray t)) ?_ (h _ _ ⟨rfl, rfl⟩)
  simp [Instr.alloc, hd.run_zero hz, newVar, newRow]
def boxV (t : TypeId) (v : Value) (w : World) (k : Value → World → Prop) : Prop :=
  cellsK v fun l => ∀ w' b, NewBlk w b l t w' → k (.pointer (some ⟨b, 0, none⟩)) w'
theorem boxV_sound {P : Program} {t : TypeId} {v : Value} {w : World} {k : Value → World → Prop} (h : boxV t v w k) : SemOk P (Instr.box t v) w k := by
  replace h := cellsK_sound h
  refine .of (v := .pointer (some ⟨w.heap.size, 0, none⟩)) (w' := w.alloc (.cells v.cells.toList.toArray t)) ?_ (h _ _ ⟨rfl, rfl⟩)
  simp [Instr.box, newVar, newRow]

/-! ### addresses -/
def ablk (a : Option Addr) : Nat := match a with | some p => p.block | none => 0
def aoff (a : Option Addr) : Nat := match a with | some p => p.off | none => 0
def Plain (a : Option Addr) : Prop := a = some ⟨ablk a, aoff a, none⟩
def placeOf (o i s : Nat) : Nat := match s with | 1 => o + i | s => o + i * s
theorem placeOf_eq (o i s : Nat) : placeOf o i s = o + i * s := by
  unfold placeOf
  split
  · simp
  · rfl
def indexAddrV (C : Cx) (t : TypeId) (x i : Value) (w : World) (k : Value → World → Prop) : Prop :=
  match i with
  | .int _ i => tdK C.T t fun d =>
    match d.under, x with
    | .slice e, .slice a len _ => tdK C.T e fun de => (0 ≤ i ∧ i < (len : Int)) ∧ Plain a ∧ k (.pointer (some ⟨ablk a, placeOf (aoff a) i.toNat de.size, none⟩)) w
    | .array len e, .pointer (some ⟨b, o, none⟩) => tdK C.T e fun de => (0 ≤ i ∧ i < (len : Int)) ∧ k (.pointer (some ⟨b, placeOf o i.toNat de.size, none⟩)) w
    | _, _ => False
  | _ => False
theorem indexAddrV_sound {C : Cx} (hT : TabOk C.P C.T) {t : TypeId} {x i : Value} {w : World} {k : Value → World → Prop} (h : indexAddrV C t x i w k) : SemOk C.P (Instr.indexAt t x i) w k := by
  unfold indexAddrV at h
  split at h
  · rename_i ki i
    replace h := tdK_sound hT h; obtain ⟨d, hd, h⟩ := h
    split at h
    · rename_i e a len cap hu
      replace h := tdK_sound hT h; obtain ⟨de, hde, hi, hp, hk⟩ := h
      have hru := hd.slice hu w
      refine .of ?_ hk
      rw [hp]
      simp [Instr.indexAt, asIntOf, hru, hi, hde.run_size, addr_add, placeOf_eq, ablk, aoff]
    · rename_i len e b o hu
      replace h := tdK_sound hT h; obtain ⟨de, hde, hi, hk⟩ := h
      have hru := hd.array hu w
      refine .of ?_ hk
      simp [Instr.indexAt, Instr.sureAddr, asIntOf, hru, hi, hde.run_size, addr_add, placeOf_eq]
    · exact h.elim
  · exact h.elim
/-- a field's place: the offset of a field that takes room -/
def fieldK (C : Cx) (d : Und) (f : Nat) (k : Nat → TypeId → TD → Prop) : Prop :=
  match d with
  | .struct fs => (match fs[f]? with
    | some fl => tdK C.T fl.2 fun df => k fl.1 fl.2 df
    | none => False)
  | _ => False
def fieldAddrV (C : Cx) (t : TypeId) (x : Value) (f : Nat) (w : World) (k : Value → World → Prop) : Prop :=
  match x with
  | .pointer (some ⟨b, o, none⟩) => tdK C.T t fun d => fieldK C d.under f fun off _ df =>
    match df.size with
    | 0 => False
    | _ + 1 => k (.pointer (some ⟨b, o + off, none⟩)) w
  | _ => False
theorem fieldK_sound {C : Cx} (hT : TabOk C.P C.T) {t : TypeId} {d : TD} (hd : TdOk C.P t d) {f : Nat} {k : Nat → TypeId → TD → Prop} (h : fieldK C d.under f k) (w : World) :
    ∃ fs fl df, (underlying t).run C.P w = .ok (.struct fs) w ∧ fs[f]? = some fl ∧ TdOk C.P fl.type df ∧ k fl.offset fl.type df := by
  unfold fieldK at h
  split at h
  · rename_i l hu
    obtain ⟨fs, hr, rfl⟩ := hd.struct hu w
    split at h
    · rename_i fl hfl
      rw [List.getElem?_map] at hfl
      cases hf : fs.toList[f]? with
      | none => simp [hf] at hfl
      | some g =>
        simp only [hf, Option.map_some, Option.some.injEq] at hfl
        subst hfl
        obtain ⟨df, hdf, hk⟩ := tdK_sound hT h
        exact ⟨fs, g, df, hr, by simpa using hf, hdf, hk⟩
    · exact h.elim
  · exact h.elim
theorem fieldAddrV_sound {C : Cx} (hT : TabOk C.P C.T) {t : TypeId} {x : Value} {f : Nat} {w : World} {k : Value → World → Prop} (h : fieldAddrV C t x f w k) : SemOk C.P (Instr.fieldAt t x f) w k := by
  unfold fieldAddrV at h
  split at h
  · rename_i b o
    replace h := tdK_sound hT h; obtain ⟨d, hd, h⟩ := h
    replace h := fieldK_sound hT hd h w; obtain ⟨fs, fl, df, hru, hfl, hdf, hk⟩ := h
    split at hk
    · exact hk.elim
    · rename_i m hm
      refine .of ?_ hk
      simp [Instr.fieldAt, Instr.sureAddr, hru, hfl, fieldPlace, hdf.run_size, hm, addr_add]
  · exact h.elim
def partK (d : TD) (off : Nat) (l : List Value) (k : Value → Prop) : Prop :=
  match isAggD d.under with
  | true => k (.agg ((l.drop off).take d.size).toArray)
  | false => (match l[off]? with | some v => k v | none => False)
def fieldV (C : Cx) (t : TypeId) (x : Value) (f : Nat) (w : World) (k : Value → World → Prop) : Prop :=
  match x with
  | .agg ⟨l⟩ => tdK C.T t fun d => fieldK C d.under f fun off _ df => partK df off l fun v => k v w
  | _ => False
theorem partK_sound {P : Program} {t : TypeId} {d : TD} (hd : TdOk P t d) {off : Nat} {l : List Value} {w : World} {k : Value → Prop} (h : partK d off l k) :
    ∃ v, (part t ⟨l⟩ off).run P w = .ok v w ∧ k v := by
  unfold partK at h
  split at h
  · rename_i ha
    have h1 : (isAgg t).run P w = .ok true w := by rw [hd.isAgg, ha]
    refine ⟨_, ?_, h⟩
    simp only [part, Sem.run_bind, h1, Result.andThen_ok, if_true, hd.run_size, Sem.run_pure]
    congr 2
    apply Array.ext'
    simp
  · rename_i ha
    have h1 : (isAgg t).run P w = .ok false w := by rw [hd.isAgg, ha]
    split at h
    · rename_i v hv
      refine ⟨v, ?_, h⟩
      have hv' : (⟨l⟩ : Array Value)[off]? = some v := by simpa using hv
      simp [part, h1, hv']
    · exact h.elim
theorem fieldV_sound {C : Cx} (hT : TabOk C.P C.T) {t : TypeId} {x : Value} {f : Nat} {w : World} {k : Value → World → Prop} (h : fieldV C t x f w k) : SemOk C.P (Instr.field t x f) w k := by
  unfold fieldV at h
  split at h
  · rename_i l
    replace h := tdK_sound hT h; obtain ⟨d, hd, h⟩ := h
    replace h := fieldK_sound hT hd h w; obtain ⟨fs, fl, df, hru, hfl, hdf, hk⟩ := h
    obtain ⟨v, hr, hk⟩ := partK_sound (w := w) hdf hk
    refine .of ?_ hk
    simp [Instr.field, hru, hfl, asAgg, hr]
  · exact h.elim
def indexV (C : Cx) (t : TypeId) (x i : Value) (w : World) (k : Value → World → Prop) : Prop :=
  match i with
  | .int _ i => tdK C.T t fun d =>
    match d.under, x with
    | .string, .string ⟨⟨l⟩⟩ => 0 ≤ i ∧ ∃ c : UInt8, l[i.toNat]? = some c ∧ k (.int .u8 (c.toNat : Int)) w
    | .array len e, .agg ⟨l⟩ => tdK C.T e fun de => (0 ≤ i ∧ i < (len : Int)) ∧ partK de (i.toNat * de.size) l fun v => k v w
    | _, _ => False
  | _ => False
theorem indexV_sound {C : Cx} (hT : TabOk C.P C.T) {t : TypeId} {x i : Value} {w : World} {k : Value → World → Prop} (h : indexV C t x i w k) : SemOk C.P (Instr.index t x i) w k := by
  unfold indexV at h
  split at h
  · rename_i ki i
    replace h := tdK_sound hT h; obtain ⟨d, hd, h⟩ := h
    split at h
    · rename_i l hu
      obtain ⟨hi, c, hc, hk⟩ := h
      have hru := hd.string hu w
      have hc' : (ByteArray.mk ⟨l⟩)[i.toNat]? = some c := by
        have hlt : i.toNat < l.length := (List.getElem?_eq_some_iff.1 hc).1
        have hlt' : i.toNat < (ByteArray.mk ⟨l⟩).size := hlt
        rw [ByteArray.getElem?_lt' _ _ hlt']
        have := (List.getElem?_eq_some_iff.1 hc).2
        exact congrArg some this
      refine .of ?_ hk
      simp [Instr.index, asIntOf, hru, hi, hc']
    · rename_i len e l hu
      replace h := tdK_sound hT h; obtain ⟨de, hde, hi, hk⟩ := h
      have hru := hd.array hu w
      obtain ⟨v, hr, hk⟩ := partK_sound (w := w) hde hk
      refine .of ?_ hk
      simp [Instr.index, asIntOf, hru, hi, hde.run_size, hr]
    · exact h.elim
  · exact h.elim

/-! ### results of calls -/
def nthK : List Value → Nat → (Value → Prop) → Prop
  | [], _, _ => False
  | v :: _, 0, k => k v
  | _ :: r, i + 1, k => nthK r i k
theorem nthK_iff {l : List Value} {i : Nat} {k : Value → Prop} : nthK l i k ↔ ∃ v, l[i]? = some v ∧ k v := by
  induction l generalizing i with
  | nil => simp [nthK]
  | cons d r ih =>
    cases i with
    | zero => simp [nthK]
    | succ t => simp only [nthK, List.getElem?_cons_succ]; exact ih
def extractV (x : Value) (i : Nat) (w : World) (k : Value → World → Prop) : Prop :=
  match x with
  | .tuple ⟨l⟩ => nthK l i fun v => k v w
  | _ => False
theorem extractV_sound {P : Program} {x : Value} {i : Nat} {w : World} {k : Value → World → Prop} (h : extractV x i w k) : SemOk P (Instr.extract x i) w k := by
  unfold extractV at h
  split at h
  · rename_i l
    obtain ⟨v, hv, hk⟩ := nthK_iff.1 h
    have hv' : (⟨l⟩ : Array Value)[i]? = some v := by simpa using hv
    refine .of ?_ hk
    simp [Instr.extract, hv']
  · exact h.elim

/-! ### integers -/
abbrev I64 (x : Int) : Prop := -9223372036854775808 ≤ x ∧ x ≤ 9223372036854775807
def wr (k : IntKind) (x : Int) : Int :=
  match k with
  | .u8 => x % 256 | .u16 => x % 65536 | .u32 => x % 4294967296 | .u64 => x % 18446744073709551616
  | k => k.wrap x
theorem wr_eq (k : IntKind) (x : Int) : wr k x = k.wrap x := by
  cases k <;> simp [wr, IntKind.wrap, IntKind.bits, IntKind.signed]
theorem wrap_i64 {x : Int} (h : I64 x) : IntKind.i64.wrap x = x := by
  obtain ⟨h1, h2⟩ := h
  have key : ∀ m p : Int, m = 18446744073709551616 → p = 9223372036854775808 → (if (true && decide (x % m ≥ p)) = true then x % m - m else x % m) = x := by
    rintro m p rfl rfl
    simp only [Bool.true_and, ge_iff_le, decide_eq_true_eq]
    split <;> omega
  exact key (2 ^ 64) (2 ^ 63) (by decide) (by decide)
/-- a result of an int's arithmetic: where it is an int64 it must fit -/
def fitK (k : IntKind) (x : Int) (c : Value → Prop) : Prop :=
  match k with
  | .i64 => I64 x ∧ c (.int .i64 x)
  | k => c (.int k (wr k x))
theorem fitK_sound {k : IntKind} {x : Int} {c : Value → Prop} (h : fitK k x c) : c (.int k (k.wrap x)) := by
  cases k <;> first
    | (rw [← wr_eq]; exact h)
    | (rw [wrap_i64 h.1]; exact h.2)
def bitsI (op : BinOp) (k : IntKind) (x y : Int) : Int :=
  let a := BitVec.ofInt k.bits x
  let b := BitVec.ofInt k.bits y
  k.wrap (match op with
    | .and => a &&& b
    | .or => a ||| b
    | .xor => a ^^^ b
    | _ => a &&& ~~~b).toNat
def intK (op : BinOp) (k : IntKind) (x y : Int) (c : Value → Prop) : Prop :=
  match op with
  | .add => fitK k (x + y) c
  | .sub => fitK k (x - y) c
  | .mul => fitK k (x * y) c
  | .quo => (0 ≤ x ∧ 0 < y) ∧ fitK k (x / y) c
  | .rem => (0 ≤ x ∧ 0 < y) ∧ c (.int k (x % y))
  | .and => c (.int k (bitsI .and k x y))
  | .or => c (.int k (bitsI .or k x y))
  | .xor => c (.int k (bitsI .xor k x y))
  | .andNot => c (.int k (bitsI .andNot k x y))
  | .eql => c (.bool (decide (x = y)))
  | .neq => c (.bool (decide (x ≠ y)))
  | .lss => c (.bool (decide (x < y)))
  | .leq => c (.bool (decide (x ≤ y)))
  | .gtr => c (.bool (decide (y < x)))
  | .geq => c (.bool (decide (y ≤ x)))
  | .shl => (0 ≤ y ∧ y ≤ 64) ∧ fitK k (x * 2 ^ (min y.toNat k.bits)) c
  | .shr => (0 ≤ y ∧ y ≤ 64) ∧ c (.int k (x / 2 ^ (min y.toNat k.bits)))
theorem intK_sound {P : Program} {op : BinOp} {k : IntKind} {t : TypeId} {x y : Int} {w : World} {c : Value → World → Prop} (h : intK op k x y fun v => c v w) :
    SemOk P (binOp op t (.int k x) (.int k y)) w c := by
  cases op
  case add => exact .of (v := .int k (k.wrap (x + y))) (w' := w) (by simp [binOp, Op.intArith]) (fitK_sound (k := k) (x := x + y) (c := fun v => c v w) h)
  case sub => exact .of (v := .int k (k.wrap (x - y))) (w' := w) (by simp [binOp, Op.intArith]) (fitK_sound (k := k) (x := x - y) (c := fun v => c v w) h)
  case mul => exact .of (v := .int k (k.wrap (x * y))) (w' := w) (by simp [binOp, Op.intArith]) (fitK_sound (k := k) (x := x * y) (c := fun v => c v w) h)
  case quo =>
    obtain ⟨⟨h1, h2⟩, h⟩ := h
    have e : x.tdiv y = x / y := Int.tdiv_eq_ediv_of_nonneg h1
    exact .of (v := .int k (k.wrap (x.tdiv y))) (w' := w) (by simp [binOp, Op.intDiv, show y ≠ 0 by omega]) (by rw [e]; exact fitK_sound (k := k) (x := x / y) (c := fun v => c v w) h)
  case rem =>
    obtain ⟨⟨h1, h2⟩, h⟩ := h
    have e : x.tmod y = x % y := Int.tmod_eq_emod_of_nonneg h1
    exact .of (v := .int k (x.tmod y)) (w' := w) (by simp [binOp, Op.intDiv, show y ≠ 0 by omega]) (by rw [e]; exact h)
  case and => exact .of (v := .int k (bitsI .and k x y)) (w' := w) (by simp [binOp, Op.intBits, bitsI]) h
  case or => exact .of (v := .int k (bitsI .or k x y)) (w' := w) (by simp [binOp, Op.intBits, bitsI]) h
  case xor => exact .of (v := .int k (bitsI .xor k x y)) (w' := w) (by simp [binOp, Op.intBits, bitsI]) h
  case andNot => exact .of (v := .int k (bitsI .andNot k x y)) (w' := w) (by simp [binOp, Op.intBits, bitsI]) h
  case eql => exact .of (v := .bool (decide (x = y))) (w' := w) (by simp [binOp, Op.intCmp]; by_cases e : x = y <;> simp [e]) h
  case neq => exact .of (v := .bool (decide (x ≠ y))) (w' := w) (by simp [binOp, Op.intCmp]; by_cases e : x = y <;> simp [e]) h
  case lss => exact .of (v := .bool (decide (x < y))) (w' := w) (by simp [binOp, Op.intCmp]) h
  case leq => exact .of (v := .bool (decide (x ≤ y))) (w' := w) (by simp [binOp, Op.intCmp]) h
  case gtr => exact .of (v := .bool (decide (y < x))) (w' := w) (by simp [binOp, Op.intCmp]) h
  case geq => exact .of (v := .bool (decide (y ≤ x))) (w' := w) (by simp [binOp, Op.intCmp]) h
  case shl =>
    obtain ⟨h1, h⟩ := h
    exact .of (v := .int k (k.wrap (x * 2 ^ (min y.toNat k.bits)))) (w' := w) (by simp [binOp, Op.shift, show ¬ y < 0 by omega]) (fitK_sound (k := k) (c := fun v => c v w) h)
  case shr =>
    obtain ⟨h1, h⟩ := h
    refine .of (v := .int k (x.fdiv (2 ^ (min y.toNat k.bits)))) (w' := w) (by simp [binOp, Op.shift, show ¬ y < 0 by omega]) ?_
    rw [Int.fdiv_eq_ediv_of_nonneg _ (Int.pow_nonneg (by decide))]
    exact h
end Go.Proofs.Ytlhgmigoncmcaaa
