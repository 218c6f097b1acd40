/-
  A calculus of verification conditions over the model's code: the state is a short list of slots with their values; 'vcOps' and 'vcCode' are evaluated by weak head reduction.
-/
import Derived.TacticsIn
import Derived.TacticsInMore
import Derived.RangeFuncIn
import Derived.Laws.AppendOwn
import Derived.Laws.CopyRow
import Derived.Laws.Cells
import Derived.Laws.Entries
import Derived.Below
import Derived.KernelRfl
namespace Go.Proofs.YtffaffojkfalhaaGreatDoor
open Go Go.RowKit

/-! ### calls -/
def Fr (r : Option Nat) : Fence := { Fence.wide with round := r }
theorem Fr_room (r : Option Nat) (n : Nat) : (Fr r).room n := fun _ h => by simp [Fr, Fence.wide] at h
theorem Fr_fenced (r : Option Nat) (P : Program) : Machine.fenced P (Fr r) = Machine.fenced P Fence.wide := rfl
theorem callsIn_Fr {r : Option Nat} {n : Nat} {P : Program} {f : FuncId} {args : Array Value} {w : World} {R : Ending → World → Prop} :
    CallsIn (Fr r) n P f args w R ↔ Calls P f args w R :=
  ⟨fun h => callsIn_wide (n := 0).1 ⟨trivial, fun cs _ => h.2 cs (Fr_room _ _)⟩,
   fun h => ⟨trivial, fun cs _ => ((callsIn_wide (n := 0)).2 h).2 cs (room_wide _)⟩⟩

/-- A call that returns as K says, or panics as Z says. -/
def Enters (P : Program) (f : FuncId) : Prop := ∀ args w, (callFunc f args).run P w = .ok (.enter f args) w
theorem enters_mk {P : Program} {f : FuncId} {fn : Func} (hf : P.funcs[f]? = some fn) (hb : fn.body.isSome = true) (hn : (fn.name == "runtime.NumGoroutine") = false) : Enters P f := by
  intro args w
  cases h : fn.body with
  | none => simp [h] at hb
  | some c =>
    have hn' : ¬ fn.name = "runtime.NumGoroutine" := by simpa using hn
    simp [callFunc, hf, hn', h]
/-- .. or the model's own entry answers at once (a function without a body) -/
structure Cal (P : Program) (f : FuncId) (args : Array Value) (w : World) (K : Value → World → Prop) (Z : List PanicEntry → World → Prop) : Prop where
  out : (Enters P f ∧ Calls P f args w fun e w' => match e with | .returned v => K v w' | .panicked ch => Z ch w' | .outgrown => False) ∨ ∃ v w', (callFunc f args).run P w = .ok (.value v) w' ∧ K v w'
theorem Calls.mono' {P : Program} {f : FuncId} {args : Array Value} {w : World} {R R' : Ending → World → Prop} (h : Calls P f args w R) (hr : ∀ e w', R e w' → R' e w') : Calls P f args w R' :=
  fun cs => let ⟨e, w', fr, r, s⟩ := h cs; ⟨e, w', fr, hr _ _ r, s⟩
theorem Cal.mono {P : Program} {f : FuncId} {args : Array Value} {w : World} {K K' : Value → World → Prop} {Z Z' : List PanicEntry → World → Prop}
    (h : Cal P f args w K Z) (hk : ∀ v w', K v w' → K' v w') (hz : ∀ c w', Z c w' → Z' c w') : Cal P f args w K' Z' :=
  ⟨h.out.imp (fun ⟨he, hc⟩ => ⟨he, Calls.mono' hc fun e w' r => by cases e with
    | returned v => exact hk _ _ r
    | panicked c => exact hz _ _ r
    | outgrown => exact r⟩) fun ⟨v, w', hr, h⟩ => ⟨v, w', hr, hk _ _ h⟩⟩
theorem Cal.ent {P : Program} {f : FuncId} {args : Array Value} {w : World} {K : Value → World → Prop} {Z : List PanicEntry → World → Prop} (he : Enters P f) (h : Cal P f args w K Z) :
    Calls P f args w fun e w' => match e with | .returned v => K v w' | .panicked ch => Z ch w' | .outgrown => False := by
  rcases h.out with ⟨_, h⟩ | ⟨v, w', hr, _⟩
  · exact h
  · rw [he args w] at hr
    cases hr
/-- A call that returns. -/
abbrev Ret (P : Program) (f : FuncId) (args : Array Value) (w : World) (K : Value → World → Prop) : Prop := Cal P f args w K (fun _ _ => False)
theorem Ret.use {P : Program} {f : FuncId} {args : Array Value} {w : World} {K K' : Value → World → Prop} {Z : List PanicEntry → World → Prop}
    (h : Ret P f args w K) (hk : ∀ v w', K v w' → K' v w') : Cal P f args w K' Z := Cal.mono h hk (fun _ _ h => h.elim)
theorem Ret.mono {P : Program} {f : FuncId} {args : Array Value} {w : World} {K K' : Value → World → Prop}
    (h : Ret P f args w K) (hk : ∀ v w', K v w' → K' v w') : Ret P f args w K' := Cal.mono h hk (fun _ _ h => h.elim)
theorem Ret.calls {P : Program} {f : FuncId} {args : Array Value} {w : World} {K : Value → World → Prop} (he : Enters P f) (h : Ret P f args w K) :
    Calls P f args w fun e w' => ∃ v, e = .returned v ∧ K v w' :=
  Calls.mono' (Cal.ent he h) fun e w' r => by cases e with
    | returned v => exact ⟨v, rfl, r⟩
    | panicked c => exact r.elim
    | outgrown => exact r.elim

theorem roundIn_Fr {r r' : Option Nat} {n n' : Nat} {P : Program} {l : Nat} {f : FuncId} {tmps : Array Value} {assign body : Code} {w : World} {R : Ending → World → Prop} (h : RoundIn (Fr r) n P l f tmps assign body w R) :
    RoundIn (Fr r') n' P l f tmps assign body w R := ⟨trivial, fun c cs _ => h.2 c cs (Fr_room _ _)⟩
/-- A call of yield: the round answers b. -/
structure Yld (P : Program) (l : Nat) (args : Array Value) (W : World) (R : Bool → World → Prop) : Prop where
  out : ∃ fn tmps assign body, (Instr.yield l args).run P W = .ok (.round l fn tmps assign body) W ∧ RoundIn (Fr none) 0 P l fn tmps assign body W fun e W' => ∃ b, e = .returned (.bool b) ∧ R b W'
theorem Yld.mono {P : Program} {l : Nat} {args : Array Value} {W : World} {R R' : Bool → World → Prop} (h : Yld P l args W R) (hr : ∀ b W', R b W' → R' b W') : Yld P l args W R' := by
  obtain ⟨fn, tmps, assign, body, h1, h2⟩ := h.out
  exact ⟨fn, tmps, assign, body, h1, h2.mono fun e W' ⟨b, he, hb⟩ => ⟨b, he, hr b W' hb⟩⟩

/-! ### the state -/
abbrev Env := List (Nat × Value)
def get? : Env → Nat → Option Value
  | [], _ => none
  | (s, v) :: r, t => match Nat.beq s t with | true => some v | false => get? r t
def getK : Env → Nat → (Value → Prop) → Prop
  | [], _, _ => False
  | (s, v) :: r, t, k => match Nat.beq s t with | true => k v | false => getK r t k
theorem getK_iff {env : Env} {t : Nat} {k : Value → Prop} : getK env t k ↔ ∃ v, get? env t = some v ∧ k v := by
  induction env with
  | nil => simp [getK, get?]
  | cons p r ih =>
    obtain ⟨s, v⟩ := p
    simp only [getK, get?]
    cases h : Nat.beq s t with
    | true => simp
    | false => exact ih
/-- The slots that are listed hold what is listed. -/
def Sat (env : Env) (tm : Array Value) : Prop := ∀ t v, get? env t = some v → tm[t]? = some v
theorem Sat.nil (tm : Array Value) : Sat [] tm := fun _ _ h => by simp [get?] at h
theorem Sat.put {env : Env} {tm : Array Value} (h : Sat env tm) {d : Nat} (hd : d < tm.size) (v : Value) : Sat ((d, v) :: env) (tm.setIfInBounds d v) := by
  intro t u hu
  simp only [get?] at hu
  cases e : Nat.beq d t with
  | true =>
    simp only [e] at hu
    have : d = t := Nat.eq_of_beq_eq_true e
    subst this
    cases hu
    simp [hd]
  | false =>
    simp only [e] at hu
    have : d ≠ t := Nat.ne_of_beq_eq_false e
    rw [Array.getElem?_setIfInBounds]
    simp [this, h t u hu]
theorem Sat.cons {env : Env} {tm : Array Value} (h : Sat env tm) {d : Nat} {v : Value} (hd : tm[d]? = some v) : Sat ((d, v) :: env) tm := by
  intro t u hu
  simp only [get?] at hu
  cases e : Nat.beq d t with
  | true =>
    simp only [e] at hu
    have : d = t := Nat.eq_of_beq_eq_true e
    subst this
    cases hu
    exact hd
  | false => simp only [e] at hu; exact h t u hu
def withV (env : Env) (x : Operand) (k : Value → Prop) : Prop :=
  match x with
  | .tmp t => getK env t k
  | .const v => k v
  | .global g => k (.pointer (some ⟨g, 0, none⟩))
  | .func f => k (.func (.func f) #[] #[])
theorem withV_sound {env : Env} {x : Operand} {k : Value → Prop} {a : Act} (h : withV env x k) (hs : Sat env a.tmps) : k (a.eval x) := by
  cases x with
  | tmp t =>
    obtain ⟨v, hv, hk⟩ := getK_iff.1 h
    have := hs t v hv
    simp only [Act.eval, Array.getD_eq_getD_getElem?, this, Option.getD_some]
    exact hk
  | const v => exact h
  | global g => exact h
  | func f => exact h
def withVs (env : Env) : List Operand → (List Value → Prop) → Prop
  | [], k => k []
  | x :: xs, k => withV env x fun v => withVs env xs fun vs => k (v :: vs)
theorem withVs_sound {env : Env} {a : Act} (hs : Sat env a.tmps) : ∀ {xs : List Operand} {k : List Value → Prop}, withVs env xs k → k (xs.map a.eval)
  | [], _, h => h
  | x :: xs, k, h => by
    have h1 := withV_sound h hs
    exact withVs_sound hs (xs := xs) h1

/-! ### a test -/
/-- a test: it steps where the Bool is a literal (the number keeps it from being opened otherwise) -/
def condG : Nat → Bool → (Bool → Prop) → Prop
  | 0, true, F => F true
  | 0, false, F => F false
  | n + 1, b, F => condG n b F
theorem condG_eq {b : Bool} {F : Bool → Prop} : condG 0 b F ↔ F b := by cases b <;> exact Iff.rfl
theorem condG_split {b : Bool} {F : Bool → Prop} (h1 : b = true → F true) (h2 : b = false → F false) : condG 0 b F := by
  cases b with
  | true => exact h1 rfl
  | false => exact h2 rfl
theorem condG_dec {p : Prop} {_ : Decidable p} {F : Bool → Prop} (h1 : p → F true) (h2 : ¬ p → F false) : condG 0 (decide p) F :=
  condG_split (fun h => h1 (of_decide_eq_true h)) (fun h => h2 (of_decide_eq_false h))
theorem condG_ndec {p : Prop} {_ : Decidable p} {F : Bool → Prop} (h1 : ¬ p → F true) (h2 : p → F false) : condG 0 (!decide p) F := by
  by_cases h : p
  · simp only [h, decide_true, Bool.not_true]; exact h2 h
  · simp only [h, decide_false, Bool.not_false]; exact h1 h
theorem condG_true {b : Bool} {F : Bool → Prop} (h : b = true) (h1 : F true) : condG 0 b F := by subst h; exact h1
theorem condG_false {b : Bool} {F : Bool → Prop} (h : b = false) (h1 : F false) : condG 0 b F := by subst h; exact h1

/-! ### the world -/
def Blk (w : World) (b : Nat) (l : List Value) (t : TypeId) : Prop := w.heap[b]? = some (.cells l.toArray t (0, 0))
/-- w' is w with one new block, b. -/
structure NewBlk (w : World) (b : Nat) (l : List Value) (t : TypeId) (w' : World) : Prop where
  num : b = w.heap.size
  wd : w' = w.alloc (.cells l.toArray t)
/-- w' is w, block b turned. -/
structure Upd (w : World) (b : Nat) (l : List Value) (t : TypeId) (w' : World) : Prop where
  wd : w' = { w with heap := w.heap.setIfInBounds b (.cells l.toArray t (0, 0)) }
abbrev Ext (w w' : World) : Prop := Below w.heap.size w w'
theorem Ext.refl (w : World) : Ext w w := Below.refl _ _
theorem Ext.trans {a b c : World} (h : Ext a b) (k : Ext b c) : Ext a c := Below.trans h (k.mono h.size)
theorem Below.ext {B : Nat} {a b c : World} (h : Below B a b) (k : Ext b c) (hB : B ≤ b.heap.size) : Below B a c := Below.trans h (k.mono hB)
theorem NewBlk.ext {w : World} {b : Nat} {l : List Value} {t : TypeId} {w' : World} (h : NewBlk w b l t w') : Ext w w' := by
  obtain ⟨_, rfl⟩ := h
  exact (Below.refl _ _).alloc (Nat.le_refl _) _
theorem NewBlk.blk {w : World} {b : Nat} {l : List Value} {t : TypeId} {w' : World} (h : NewBlk w b l t w') : Blk w' b l t := by
  obtain ⟨rfl, rfl⟩ := h
  exact heap_alloc_new w _
theorem NewBlk.size {w : World} {b : Nat} {l : List Value} {t : TypeId} {w' : World} (h : NewBlk w b l t w') : w'.heap.size = b + 1 := by
  obtain ⟨rfl, rfl⟩ := h
  simp
theorem Blk.lt {w : World} {b : Nat} {l : List Value} {t : TypeId} (h : Blk w b l t) : b < w.heap.size := (Array.getElem?_eq_some_iff.1 h).1
theorem Blk.mono {B : Nat} {w w' : World} {b : Nat} {l : List Value} {t : TypeId} (h : Blk w b l t) (hb : Below B w w') (hB : b < B) : Blk w' b l t := (hb.block b hB).trans h
theorem Blk.ext {w w' : World} {b : Nat} {l : List Value} {t : TypeId} (h : Blk w b l t) (hb : Ext w w') : Blk w' b l t := (hb.block b h.lt).trans h
theorem Blk.cell {w : World} {b : Nat} {l : List Value} {t : TypeId} (h : Blk w b l t) (i : Nat) : w.cell? ⟨b, i, none⟩ = l[i]? := by
  unfold Blk at h
  simp [World.cell?, h]
theorem Upd.blk {w : World} {b : Nat} {l : List Value} {t : TypeId} {w' : World} (h : Upd w b l t w') (hb : b < w.heap.size) : Blk w' b l t := by
  obtain ⟨rfl⟩ := h
  simp [Blk, hb]
theorem Upd.size {w : World} {b : Nat} {l : List Value} {t : TypeId} {w' : World} (h : Upd w b l t w') : w'.heap.size = w.heap.size := by
  obtain ⟨rfl⟩ := h
  simp
theorem Upd.other {w : World} {b : Nat} {l : List Value} {t : TypeId} {w' : World} (h : Upd w b l t w') {c : Nat} (hc : c ≠ b) : w'.heap[c]? = w.heap[c]? := by
  obtain ⟨rfl⟩ := h
  simp [Ne.symm hc]
theorem Upd.below {w : World} {b : Nat} {l : List Value} {t : TypeId} {w' : World} (h : Upd w b l t w') {B : Nat} (hB : B ≤ b) : Below B w w' := by
  have ho : ∀ c, c ≠ b → w'.heap[c]? = w.heap[c]? := fun c hc => h.other hc
  have hs := h.size
  obtain ⟨rfl⟩ := h
  exact ⟨rfl, rfl, rfl, by simp, fun k hk => ho k (by omega)⟩

/-- of the first n cells none is frozen -/
def OkF (fz : Nat × Nat) (n : Nat) : Prop := ∀ j, j < n → ¬ (fz.1 ≤ j ∧ j < fz.2)
/-- block b holds the cells cur, and each may be written -/
def RowB (w : World) (b : Nat) (cur : Array Value) (t : TypeId) : Prop := ∃ fz, w.heap[b]? = some (.cells cur t fz) ∧ OkF fz cur.size
abbrev BlkF (w : World) (b : Nat) (l : List Value) (t : TypeId) : Prop := RowB w b l.toArray t
/-- w' is w, block b turned, what is frozen kept. -/
structure UpdF (w : World) (b : Nat) (l : List Value) (t : TypeId) (w' : World) : Prop where
  wd : ∃ fz cs, w.heap[b]? = some (.cells cs t fz) ∧ w' = { w with heap := w.heap.setIfInBounds b (.cells l.toArray t fz) }
theorem OkF.zero (n : Nat) : OkF (0, 0) n := fun j _ h => Nat.not_lt_zero j h.2
theorem Blk.f {w : World} {b : Nat} {l : List Value} {t : TypeId} (h : Blk w b l t) : BlkF w b l t := ⟨(0, 0), h, .zero _⟩
theorem RowB.lt {w : World} {b : Nat} {cur : Array Value} {t : TypeId} (h : RowB w b cur t) : b < w.heap.size := by
  obtain ⟨fz, h1, _⟩ := h
  exact (Array.getElem?_eq_some_iff.1 h1).1
theorem RowB.keep {w w' : World} {b : Nat} {cur : Array Value} {t : TypeId} (h : RowB w b cur t) (hk : w'.heap[b]? = w.heap[b]?) : RowB w' b cur t := by
  obtain ⟨fz, h1, h2⟩ := h
  exact ⟨fz, hk.trans h1, h2⟩
theorem RowB.cell {w : World} {b : Nat} {cur : Array Value} {t : TypeId} (h : RowB w b cur t) (i : Nat) : w.cell? ⟨b, i, none⟩ = cur[i]? := by
  obtain ⟨fz, h1, _⟩ := h
  simp [World.cell?, h1]
theorem UpdF.upd {w : World} {b : Nat} {c l : List Value} {t : TypeId} {w' : World} (h : UpdF w b l t w') (hb : Blk w b c t) : Upd w b l t w' := by
  obtain ⟨fz, cs, h1, h2⟩ := h.wd
  have e := (show w.heap[b]? = some (.cells c.toArray t (0, 0)) from hb).symm.trans h1
  injection e with e
  injection e with _ _ e
  subst e
  exact ⟨h2⟩
theorem UpdF.other {w : World} {b : Nat} {l : List Value} {t : TypeId} {w' : World} (h : UpdF w b l t w') {c : Nat} (hc : c ≠ b) : w'.heap[c]? = w.heap[c]? := by
  obtain ⟨fz, cs, _, rfl⟩ := h.wd
  simp [Ne.symm hc]
theorem UpdF.row {w : World} {b : Nat} {l : List Value} {cur : Array Value} {t : TypeId} {w' : World} (h : UpdF w b l t w') (hb : RowB w b cur t) (hl : l.length = cur.size) : RowB w' b l.toArray t := by
  obtain ⟨fz, cs, h1, rfl⟩ := h.wd
  obtain ⟨fz', h2, h3⟩ := hb
  have hlt := (Array.getElem?_eq_some_iff.1 h1).1
  have e := h1.symm.trans h2
  injection e with e
  injection e with e1 _ e2
  subst e1 e2
  exact ⟨fz, by simp [hlt], by simpa [hl] using h3⟩

/-- w' is as w was, but for new blocks and for blocks from B on that hold no cells. -/
structure Tw (B : Nat) (w w' : World) : Prop where
  os : w'.os = w.os
  tape : w'.tape = w.tape
  output : w'.output = w.output
  size : w.heap.size ≤ w'.heap.size
  low : ∀ k, k < B → w'.heap[k]? = w.heap[k]?
  cel : ∀ (k : Nat) (c : Array Value) (t : TypeId) (f : Nat × Nat), w.heap[k]? = some (Obj.cells c t f) → w'.heap[k]? = some (Obj.cells c t f)
theorem Ext.tw {B : Nat} {w w' : World} (h : Ext w w') (hB : B ≤ w.heap.size) : Tw B w w' :=
  ⟨h.os, h.tape, h.output, h.size, fun k hk => h.block k (by omega), fun k c t f hk => (h.block k (Array.getElem?_eq_some_iff.1 hk).1).trans hk⟩
theorem Tw.trans {B : Nat} {a b c : World} (h : Tw B a b) (k : Tw B b c) : Tw B a c :=
  ⟨k.os.trans h.os, k.tape.trans h.tape, k.output.trans h.output, Nat.le_trans h.size k.size, fun i hi => (k.low i hi).trans (h.low i hi), fun i q t f hi => k.cel i q t f (h.cel i q t f hi)⟩
theorem Tw.mono {B B' : Nat} {a b : World} (h : Tw B a b) (hB : B' ≤ B) : Tw B' a b := ⟨h.os, h.tape, h.output, h.size, fun k hk => h.low k (by omega), h.cel⟩
theorem Below.tw {B B' : Nat} {a b c : World} (h : Below B a b) (k : Tw B' b c) (hB : B ≤ B') : Below B a c :=
  ⟨k.os.trans h.os, k.tape.trans h.tape, k.output.trans h.output, Nat.le_trans h.size k.size, fun i hi => (k.low i (by omega)).trans (h.block i hi)⟩
theorem Blk.tw {B : Nat} {w w' : World} {b : Nat} {l : List Value} {t : TypeId} (h : Blk w b l t) (hb : Tw B w w') : Blk w' b l t := hb.cel _ _ _ _ h
theorem Tw.cell {B : Nat} {w w' : World} (h : Tw B w w') {a : Addr} {v : Value} (hc : w.cell? a = some v) : w'.cell? a = some v := by
  have : w'.heap[a.block]? = w.heap[a.block]? := by
    unfold World.cell? at hc
    split at hc
    · rename_i c t f hb
      rw [hb]; exact h.cel _ _ _ _ hb
    · cases hc
  rw [World.cell?_of_block this]; exact hc

/-- What a run that comes to a value comes to. -/
structure SemOk (P : Program) (s : Sem Value) (w : World) (k : Value → World → Prop) : Prop where
  ex : ∃ v w', s.run P w = .ok v w' ∧ k v w'
theorem SemOk.of {P : Program} {s : Sem Value} {w : World} {k : Value → World → Prop} {v : Value} {w' : World} (h : s.run P w = .ok v w') (hk : k v w') : SemOk P s w k := ⟨v, w', h, hk⟩

/-! ### the table of types -/
/-- a type's form, as far as the rules ask -/
inductive Und where
  | bool | int (k : IntKind) | string | pointer (e : TypeId) | slice (e : TypeId) | array (n : Nat) (e : TypeId) | map (k e : TypeId) | struct (fs : List (Nat × TypeId)) | blank | func | iface | other
def undOf : TypeDesc → Und
  | .bool => .bool | .int k => .int k | .string => .string | .pointer e => .pointer e | .slice e => .slice e | .array n e => .array n e | .map k e => .map k e
  | .struct fs => (match fs.any fun f => f.name == "_" with | true => .blank | false => .struct (fs.toList.map fun f => (f.offset, f.type))) | .func _ _ _ => .func | .interface _ => .iface | _ => .other
structure TD where
  under : Und
  size : Nat
  bytes : Nat
  zero : Option Value
  eq : Bool := false
def tdK : List TD → Nat → (TD → Prop) → Prop
  | [], _, _ => False
  | d :: _, 0, k => k d
  | _ :: r, t + 1, k => tdK r t k
theorem tdK_iff {T : List TD} {t : Nat} {k : TD → Prop} : tdK T t k ↔ ∃ d, T[t]? = some d ∧ k d := by
  induction T generalizing t with
  | nil => simp [tdK]
  | cons d r ih =>
    cases t with
    | zero => simp [tdK]
    | succ t => simp only [tdK, List.getElem?_cons_succ]; exact ih
structure TdOk (P : Program) (t : TypeId) (d : TD) : Prop where
  under : ∃ d0, P.underlying t = some d0 ∧ undOf d0 = d.under
  info : ∃ i, P.info? t = some i ∧ i.size = d.size ∧ i.bytes = d.bytes ∧ i.zero = d.zero
  eq : d.eq = true → P.eqGuardType P.depth t = false ∧ P.stoodInHeld t = false
def TabOk (P : Program) (T : List TD) : Prop := ∀ t d, T[t]? = some d → TdOk P t d
theorem tdK_sound {P : Program} {T : List TD} (hT : TabOk P T) {t : Nat} {k : TD → Prop} (h : tdK T t k) : ∃ d, TdOk P t d ∧ k d := by
  obtain ⟨d, hd, hk⟩ := tdK_iff.1 h
  exact ⟨d, hT t d hd, hk⟩
def tabOf (P : Program) : List (Option Und × Option (Nat × Nat × Option Value)) :=
  (List.range P.types.size).map fun t => ((P.underlying t).map undOf, (P.info? t).map fun i => (i.size, i.bytes, i.zero))
def eqsOk (P : Program) (es : List TypeId) : Bool := es.all fun t => !P.eqGuardType P.depth t && !P.stoodInHeld t
theorem tabOk_of {P : Program} {T : List TD} {es : List TypeId} (h : tabOf P = T.map fun d => (some d.under, some (d.size, d.bytes, d.zero))) (h' : eqsOk P es = true)
    (h'' : (T.zipIdx.all fun p => !p.1.eq || es.contains p.2) = true) : TabOk P T := by
  intro t d hd
  have h1 : (tabOf P)[t]? = some (some d.under, some (d.size, d.bytes, d.zero)) := by rw [h, List.getElem?_map, hd]; rfl
  unfold tabOf at h1
  rw [List.getElem?_map] at h1
  by_cases ht : t < P.types.size
  · rw [List.getElem?_range ht] at h1
    simp only [Option.map_some, Option.some.injEq, Prod.mk.injEq] at h1
    obtain ⟨h2, h3⟩ := h1
    refine ⟨?_, ?_, fun he => ?_⟩
    · cases hu : P.underlying t with
      | none => simp [hu] at h2
      | some d0 => simp only [hu, Option.map_some, Option.some.injEq] at h2; exact ⟨d0, rfl, h2⟩
    · cases hi : P.info? t with
      | none => simp [hi] at h3
      | some i =>
        simp only [hi, Option.map_some, Option.some.injEq, Prod.mk.injEq] at h3
        exact ⟨i, rfl, h3.1, h3.2.1, h3.2.2⟩
    · have hm : (d, t) ∈ T.zipIdx := by rw [List.mem_iff_getElem?]; exact ⟨t, by rw [List.getElem?_zipIdx, hd]; simp⟩
      have h4 := List.all_eq_true.1 h'' _ hm
      simp only [he, Bool.not_true, Bool.false_or, List.contains_iff_mem] at h4
      have h5 := List.all_eq_true.1 h' _ h4
      simpa using h5
  · rw [List.getElem?_eq_none (by simpa using ht)] at h1
    simp at h1
section
variable {P : Program} {t : TypeId} {d : TD}
theorem TdOk.run_under (h : TdOk P t d) (w : World) : ∃ d0, (underlying t).run P w = .ok d0 w ∧ undOf d0 = d.under := by
  obtain ⟨d0, h1, h2⟩ := h.under
  exact ⟨d0, run_underlying h1 w, h2⟩
theorem TdOk.slice (h : TdOk P t d) {e : TypeId} (hu : d.under = .slice e) (w : World) : (underlying t).run P w = .ok (.slice e) w := by
  obtain ⟨d0, h1, h2⟩ := h.run_under w
  rw [hu] at h2
  cases d0 <;> first | (simp_all [undOf]; done) | (simp only [undOf] at h2; split at h2 <;> cases h2)
theorem TdOk.array (h : TdOk P t d) {n e : Nat} (hu : d.under = .array n e) (w : World) : (underlying t).run P w = .ok (.array n e) w := by
  obtain ⟨d0, h1, h2⟩ := h.run_under w
  rw [hu] at h2
  cases d0 <;> first | (simp_all [undOf]; done) | (simp only [undOf] at h2; split at h2 <;> cases h2)
theorem TdOk.string (h : TdOk P t d) (hu : d.under = .string) (w : World) : (underlying t).run P w = .ok .string w := by
  obtain ⟨d0, h1, h2⟩ := h.run_under w
  rw [hu] at h2
  cases d0 <;> first | (simp_all [undOf]; done) | (simp only [undOf] at h2; split at h2 <;> cases h2)
theorem TdOk.bool (h : TdOk P t d) (hu : d.under = .bool) (w : World) : (underlying t).run P w = .ok .bool w := by
  obtain ⟨d0, h1, h2⟩ := h.run_under w
  rw [hu] at h2
  cases d0 <;> first | (simp_all [undOf]; done) | (simp only [undOf] at h2; split at h2 <;> cases h2)
theorem TdOk.int (h : TdOk P t d) {k : IntKind} (hu : d.under = .int k) (w : World) : (underlying t).run P w = .ok (.int k) w := by
  obtain ⟨d0, h1, h2⟩ := h.run_under w
  rw [hu] at h2
  cases d0 <;> first | (simp_all [undOf]; done) | (simp only [undOf] at h2; split at h2 <;> cases h2)
theorem TdOk.pointer (h : TdOk P t d) {e : TypeId} (hu : d.under = .pointer e) (w : World) : (underlying t).run P w = .ok (.pointer e) w := by
  obtain ⟨d0, h1, h2⟩ := h.run_under w
  rw [hu] at h2
  cases d0 <;> first | (simp_all [undOf]; done) | (simp only [undOf] at h2; split at h2 <;> cases h2)
theorem TdOk.map (h : TdOk P t d) {k e : TypeId} (hu : d.under = .map k e) (w : World) : (underlying t).run P w = .ok (.map k e) w := by
  obtain ⟨d0, h1, h2⟩ := h.run_under w
  rw [hu] at h2
  cases d0 <;> first | (simp_all [undOf]; done) | (simp only [undOf] at h2; split at h2 <;> cases h2)
theorem TdOk.iface (h : TdOk P t d) (hu : d.under = .iface) (w : World) : ∃ ms, (underlying t).run P w = .ok (.interface ms) w := by
  obtain ⟨d0, h1, h2⟩ := h.run_under w
  rw [hu] at h2
  cases d0 <;> first | (simp_all [undOf]; done) | (simp only [undOf] at h2; split at h2 <;> cases h2)
theorem TdOk.func (h : TdOk P t d) (hu : d.under = .func) (w : World) : ∃ a b c, (underlying t).run P w = .ok (.func a b c) w := by
  obtain ⟨d0, h1, h2⟩ := h.run_under w
  rw [hu] at h2
  cases d0 <;> first | (simp_all [undOf]; done) | (simp only [undOf] at h2; split at h2 <;> cases h2)
theorem undOf_struct {d0 : TypeDesc} {l : List (Nat × TypeId)} (h : undOf d0 = .struct l) : ∃ fs, d0 = .struct fs ∧ (fs.any fun f => f.name == "_") = false ∧ l = fs.toList.map fun f => (f.offset, f.type) := by
  cases d0 with
  | struct fs =>
    simp only [undOf] at h
    cases hn : fs.any fun f => f.name == "_" with
    | true => simp only [hn] at h; cases h
    | false => simp only [hn] at h; cases h; exact ⟨fs, rfl, hn, rfl⟩
  | _ => simp [undOf] at h
theorem TdOk.struct (h : TdOk P t d) {l : List (Nat × TypeId)} (hu : d.under = .struct l) (w : World) : ∃ fs, (underlying t).run P w = .ok (.struct fs) w ∧ l = fs.toList.map fun f => (f.offset, f.type) := by
  obtain ⟨d0, h1, h2⟩ := h.run_under w
  obtain ⟨fs, rfl, _, hl⟩ := undOf_struct (h2.trans hu)
  exact ⟨fs, h1, hl⟩
theorem TdOk.run_size (h : TdOk P t d) (w : World) : (sizeOf t).run P w = .ok d.size w := by
  obtain ⟨i, hi, hs, _⟩ := h.info
  simp [sizeOf, typeInfo, hi, hs]
theorem TdOk.run_zero (h : TdOk P t d) {z : Value} (hz : d.zero = some z) (w : World) : (zeroValue t).run P w = .ok z w := by
  obtain ⟨i, hi, _, _, h4⟩ := h.info
  simp [zeroValue, typeInfo, hi, h4, hz]
end
end Go.Proofs.YtffaffojkfalhaaGreatDoor
