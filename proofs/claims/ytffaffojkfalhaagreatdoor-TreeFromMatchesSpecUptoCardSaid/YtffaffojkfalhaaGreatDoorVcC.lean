/-
  Operations, regions, code: the conditions, and that they suffice.
-/
import Derived.Test.YtffaffojkfalhaaGreatDoorVcB
import Derived.Laws.Strings
import Derived.Laws.Strings2
import Derived.Laws.Concat
import Derived.Laws.IdiomStrings
namespace Go.Proofs.YtffaffojkfalhaaGreatDoor
open Go Go.RowKit

/-! ### operators -/
/-- '==' at kinds whose equality is plain -/
def eqK (neg : Bool) (t : Und) (a b : Value) (c : Value → Prop) : Prop :=
  match t, a, b with
  | .bool, .bool x, .bool y => c (.bool (if neg then x != y else x == y))
  | .pointer _, .pointer none, .pointer y => c (.bool (if neg then y.isSome else y.isNone))
  | .pointer _, .pointer (some _), .pointer none => c (.bool neg)
  | .slice _, .slice none _ _, .slice y _ _ => c (.bool (if neg then y.isSome else y.isNone))
  | .slice _, .slice x _ _, .slice none _ _ => c (.bool (if neg then x.isSome else x.isNone))
  | .map _ _, .map x, .map none => c (.bool (if neg then x.isSome else x.isNone))
  | .iface, .iface _ _, .nilIface => c (.bool neg)
  | .func, .func _ _ _, .nilFunc => c (.bool neg)
  | .func, .nilFunc, .nilFunc => c (.bool (!neg))
  | _, _, _ => False
theorem run_eqval {P : Program} {neg : Bool} {t : TypeId} {x y : Operand} {a b : Value} {w : World} {r : Bool}
    (hg : eqGuard (if neg then .neq else .eql) t x y a b = pure ())
    (hb : binOp (if neg then .neq else .eql) t a b = if neg then (do pure (.bool (!(← Op.equal t a b)))) else (do pure (.bool (← Op.equal t a b))))
    (he : ∀ m, (Op.equalIn (m + 1) t a b).run P w = .ok r w) :
    (do eqGuard (if neg then .neq else .eql) t x y a b; binOp (if neg then .neq else .eql) t a b : Sem Value).run P w = .ok (.bool (if neg then !r else r)) w := by
  have he' : (Op.equal t a b).run P w = .ok r w := he 9999
  rw [hg, hb]
  cases neg <;> simp [he']
theorem eqK_sound {P : Program} {neg : Bool} {t : TypeId} {d : TD} (hd : TdOk P t d) {a b : Value} {w : World} {c : Value → World → Prop} {x y : Operand} (h : eqK neg d.under a b fun v => c v w) :
    SemOk P (do eqGuard (if neg then .neq else .eql) t x y a b; binOp (if neg then .neq else .eql) t a b) w c := by
  unfold eqK at h
  split at h
  · rename_i p q hu; have hru := hd.bool hu w
    have key := run_eqval (P := P) (neg := neg) (t := t) (x := x) (y := y) (a := .bool p) (b := .bool q) (w := w) (r := p == q) (by cases neg <;> rfl) (by cases neg <;> rfl) (fun m => by simp only [Op.equalIn, Sem.run_bind, hru, Result.andThen_ok, Sem.run_pure])
    refine .of key ?_
    cases neg <;> exact h
  · rename_i y' hu; have hru := hd.pointer hu w
    have key := run_eqval (P := P) (neg := neg) (t := t) (x := x) (y := y) (a := .pointer none) (b := .pointer y') (w := w) (r := y'.isNone) (by cases neg <;> rfl) (by cases neg <;> rfl) (fun m => by simp only [Op.equalIn, Sem.run_bind, hru, Result.andThen_ok, Sem.run_pure])
    refine .of key ?_
    cases neg <;> cases y' <;> exact h
  · rename_i p hu; have hru := hd.pointer hu w
    have key := run_eqval (P := P) (neg := neg) (t := t) (x := x) (y := y) (a := .pointer (some p)) (b := .pointer none) (w := w) (r := false) (by cases neg <;> rfl) (by cases neg <;> rfl) (fun m => by simp only [Op.equalIn, Sem.run_bind, hru, Result.andThen_ok, Sem.run_pure])
    refine .of key ?_
    cases neg <;> exact h
  · rename_i n1 n2 y' n3 n4 hu; have hru := hd.slice hu w
    have key := run_eqval (P := P) (neg := neg) (t := t) (x := x) (y := y) (a := .slice none n1 n2) (b := .slice y' n3 n4) (w := w) (r := y'.isNone) (by cases neg <;> rfl) (by cases neg <;> rfl) (fun m => by simp only [Op.equalIn, Sem.run_bind, hru, Result.andThen_ok, Sem.run_pure])
    refine .of key ?_
    cases neg <;> cases y' <;> exact h
  · rename_i x' n1 n2 n3 n4 hne hu; have hru := hd.slice hu w
    cases x' with
    | none => exact (hne rfl).elim
    | some p =>
      have key := run_eqval (P := P) (neg := neg) (t := t) (x := x) (y := y) (a := .slice (some p) n1 n2) (b := .slice none n3 n4) (w := w) (r := false) (by cases neg <;> rfl) (by cases neg <;> rfl) (fun m => by simp only [Op.equalIn, Sem.run_bind, hru, Result.andThen_ok, Sem.run_pure])
      refine .of key ?_
      cases neg <;> exact h
  · rename_i x' hu; have hru := hd.map hu w
    have key := run_eqval (P := P) (neg := neg) (t := t) (x := x) (y := y) (a := .map x') (b := .map none) (w := w) (r := x'.isNone) (by cases neg <;> rfl) (by cases neg <;> rfl) (fun m => by cases x' <;> simp only [Op.equalIn, Sem.run_bind, hru, Result.andThen_ok, Sem.run_pure] <;> rfl)
    refine .of key ?_
    cases neg <;> cases x' <;> exact h
  · rename_i t1 v1 hu; obtain ⟨ms, hru⟩ := hd.iface hu w
    have key := run_eqval (P := P) (neg := neg) (t := t) (x := x) (y := y) (a := .iface t1 v1) (b := .nilIface) (w := w) (r := false) (by cases neg <;> rfl) (by cases neg <;> rfl) (fun m => by simp only [Op.equalIn, Sem.run_bind, hru, Result.andThen_ok, Sem.run_pure])
    refine .of key ?_
    cases neg <;> exact h
  · rename_i f1 f2 f3 hu; obtain ⟨q1, q2, q3, hru⟩ := hd.func hu w
    have key := run_eqval (P := P) (neg := neg) (t := t) (x := x) (y := y) (a := .func f1 f2 f3) (b := .nilFunc) (w := w) (r := false) (by cases neg <;> rfl) (by cases neg <;> rfl) (fun m => by simp only [Op.equalIn, Sem.run_bind, hru, Result.andThen_ok, Sem.run_pure])
    refine .of key ?_
    cases neg <;> exact h
  · rename_i hu; obtain ⟨q1, q2, q3, hru⟩ := hd.func hu w
    have key := run_eqval (P := P) (neg := neg) (t := t) (x := x) (y := y) (a := .nilFunc) (b := .nilFunc) (w := w) (r := true) (by cases neg <;> rfl) (by cases neg <;> rfl) (fun m => by simp only [Op.equalIn, Sem.run_bind, hru, Result.andThen_ok, Sem.run_pure])
    refine .of key ?_
    cases neg <;> exact h
  · exact h.elim
/-- a string of a list of bytes -/
abbrev str (l : List UInt8) : Value := .string ⟨l.toArray⟩
def strK (op : BinOp) (x y : List UInt8) (c : Value → Prop) : Prop :=
  match op with
  | .add => ((x.length : Int) + y.length ≤ 9223372036854775807) ∧ c (str (x ++ y))
  | .eql => c (.bool (decide (x = y)))
  | .neq => c (.bool (!decide (x = y)))
  | .lss => c (.bool (Op.bytesLess x y))
  | .leq => c (.bool (Op.bytesLess x y || decide (x = y)))
  | .gtr => c (.bool (!(Op.bytesLess x y || decide (x = y))))
  | .geq => c (.bool (!Op.bytesLess x y))
  | _ => False
theorem ByteArray.size_mk_toArray' (bs : List UInt8) : (ByteArray.mk bs.toArray).size = bs.length := rfl
theorem strK_sound {P : Program} {op : BinOp} {t : TypeId} {x y : List UInt8} {w : World} {c : Value → World → Prop} (h : strK op x y fun v => c v w) :
    SemOk P (binOp op t (str x) (str y)) w c := by
  have he : (x == y) = decide (x = y) := by
    by_cases e : x = y <;> simp [e]
  cases op
  case add =>
    obtain ⟨h1, h⟩ := h
    refine .of (v := str (x ++ y)) (w' := w) ?_ h
    have h2 : ¬ ((9223372036854775807 : Int) < (x.length : Int) + y.length) := by omega
    have h3 : ¬ (((ByteArray.mk x.toArray).size + (ByteArray.mk y.toArray).size : Nat) : Int) > IntKind.i64.max := by
      rw [ByteArray.size_mk_toArray', ByteArray.size_mk_toArray']
      have : IntKind.i64.max = 9223372036854775807 := by decide
      rw [this]; omega
    simp only [binOp, Op.stringOp]
    rw [if_neg h3, ByteArray.mk_append_mk]
    rfl
  case eql => exact .of (v := .bool (decide (x = y))) (w' := w) (by simp [binOp, Op.stringOp, he]) h
  case neq => exact .of (v := .bool (!decide (x = y))) (w' := w) (by simp [binOp, Op.stringOp, he]) h
  case lss => exact .of (v := .bool (Op.bytesLess x y)) (w' := w) (by simp [binOp, Op.stringOp]) h
  case leq => exact .of (v := .bool (Op.bytesLess x y || decide (x = y))) (w' := w) (by simp [binOp, Op.stringOp, he]) h
  case gtr => exact .of (v := .bool (!(Op.bytesLess x y || decide (x = y)))) (w' := w) (by simp [binOp, Op.stringOp, he]) h
  case geq => exact .of (v := .bool (!Op.bytesLess x y)) (w' := w) (by simp [binOp, Op.stringOp]) h
  all_goals exact h.elim
def binK (C : Cx) (op : BinOp) (t : TypeId) (a b : Value) (w : World) (k : Value → World → Prop) : Prop :=
  match a, b with
  | .int ka x, .int kb y =>
    (match op with
     | .shl => (0 ≤ y ∧ y ≤ 64) ∧ fitK ka (x * 2 ^ (min y.toNat ka.bits)) fun v => k v w
     | .shr => (0 ≤ y ∧ y ≤ 64) ∧ k (.int ka (x / 2 ^ (min y.toNat ka.bits))) w
     | op => (match ka, kb with
       | .i64, .i64 => intK op .i64 x y fun v => k v w
       | .u8, .u8 => intK op .u8 x y fun v => k v w
       | .i32, .i32 => intK op .i32 x y fun v => k v w
       | .u64, .u64 => intK op .u64 x y fun v => k v w
       | .u16, .u16 => intK op .u16 x y fun v => k v w
       | .u32, .u32 => intK op .u32 x y fun v => k v w
       | .i16, .i16 => intK op .i16 x y fun v => k v w
       | .i8, .i8 => intK op .i8 x y fun v => k v w
       | _, _ => False))
  | .string ⟨⟨x⟩⟩, .string ⟨⟨y⟩⟩ => strK op x y fun v => k v w
  | .agg ⟨a⟩, .agg ⟨b⟩ => tdK C.T t fun d => (match d.eq, d.under, op with
    | true, .struct fs, .eql => eqFK C fs a b fun p i => k (.bool (@decide p i)) w
    | true, .struct fs, .neq => eqFK C fs a b fun p i => k (.bool (@decide (¬ p) (@instDecidableNot p i))) w
    | _, .array _ _, op => SemOk C.P (do eqGuard op t (.tmp 0) (.tmp 0) (.agg ⟨a⟩) (.agg ⟨b⟩); binOp op t (.agg ⟨a⟩) (.agg ⟨b⟩)) w k
    | _, _, _ => False)
  | a, b => (match op with
    | .eql => tdK C.T t fun d => eqK false d.under a b fun v => k v w
    | .neq => tdK C.T t fun d => eqK true d.under a b fun v => k v w
    | _ => False)
theorem eqGuard_int {P : Program} {op : BinOp} {t : TypeId} {x y : Operand} {ka kb : IntKind} {a b : Int} {w : World} : (eqGuard op t x y (.int ka a) (.int kb b)).run P w = .ok () w := by
  unfold eqGuard
  cases op <;> simp
theorem eqGuard_str {P : Program} {op : BinOp} {t : TypeId} {x y : Operand} {a b : ByteArray} {w : World} : (eqGuard op t x y (.string a) (.string b)).run P w = .ok () w := by
  unfold eqGuard
  cases op <;> simp
theorem SemOk.guard {P : Program} {g : Sem Unit} {s : Sem Value} {w : World} {k : Value → World → Prop} (hg : g.run P w = .ok () w) (h : SemOk P s w k) : SemOk P (do g; s) w k := by
  obtain ⟨v, w', hr, hk⟩ := h.ex
  exact ⟨v, w', by simp [hg, hr], hk⟩
theorem binK_sound {C : Cx} (hT : TabOk C.P C.T) {op : BinOp} {t : TypeId} {x y : Operand} {a b : Value} {w : World} {k : Value → World → Prop} (h : binK C op t a b w k) :
    SemOk C.P (do eqGuard op t x y a b; binOp op t a b) w k := by
  unfold binK at h
  split at h
  · refine .guard eqGuard_int ?_
    rename_i ka x kb y
    split at h
    · obtain ⟨h1, h⟩ := h
      exact .of (v := .int ka (ka.wrap (x * 2 ^ (min y.toNat ka.bits)))) (w' := w) (by simp [binOp, Op.shift, show ¬ y < 0 by omega]) (fitK_sound (k := ka) (c := fun v => k v w) h)
    · obtain ⟨h1, h⟩ := h
      refine .of (v := .int ka (x.fdiv (2 ^ (min y.toNat ka.bits)))) (w' := w) (by simp [binOp, Op.shift, show ¬ y < 0 by omega]) ?_
      rw [Int.fdiv_eq_ediv_of_nonneg _ (Int.pow_nonneg (by decide))]
      exact h
    · split at h <;> first | exact intK_sound h | exact h.elim
  · exact .guard eqGuard_str (strK_sound h)
  · replace h := tdK_sound hT h; obtain ⟨d, hd, h⟩ := h
    split at h
    · rename_i fs he hu
      obtain ⟨p, i, hk, hr⟩ := eqAgg_sound hT hd he hu h w
      exact .of (hr x y).1 hk
    · rename_i fs he hu
      obtain ⟨p, i, hk, hr⟩ := eqAgg_sound hT hd he hu h w
      refine .of (hr x y).2 ?_
      have e : (!@decide p i) = @decide (¬ p) (@instDecidableNot p i) := by by_cases hp : p <;> simp [hp]
      rw [e]; exact hk
    · exact h
    · exact h.elim
  · split at h
    · replace h := tdK_sound hT h; obtain ⟨d, hd, h⟩ := h
      exact eqK_sound (neg := false) hd h
    · replace h := tdK_sound hT h; obtain ⟨d, hd, h⟩ := h
      exact eqK_sound (neg := true) hd h
    · exact h.elim
def unK (op : UnOp) (x : Value) (c : Value → Prop) : Prop :=
  match op, x with
  | .not, .bool b => c (.bool (!b))
  | .neg, .int .i64 n => (I64 (0 - n) ∧ c (.int .i64 (0 - n))) ∨ c (.int .i64 (IntKind.i64.wrap (0 - n)))
  | .neg, .int kd n => fitK kd (0 - n) c
  | .xor, .int kd n => c (.int kd (bitsI .xor kd (if kd.signed then -1 else kd.max) n))
  | _, _ => False
theorem unK_sound {P : Program} {op : UnOp} {x : Value} {w : World} {k : Value → World → Prop} (h : unK op x fun v => k v w) : SemOk P (Op.unary op x) w k := by
  unfold unK at h
  split at h
  · rename_i b; exact .of (v := .bool (!b)) (w' := w) (by simp [Op.unary]) h
  · rename_i n; exact .of (v := .int .i64 (IntKind.i64.wrap (0 - n))) (w' := w) (by simp [Op.unary, Op.intArith]) (by
      rcases h with h | h
      · rw [wrap_i64 h.1]; exact h.2
      · exact h)
  · rename_i kd n _; exact .of (v := .int kd (kd.wrap (0 - n))) (w' := w) (by simp [Op.unary, Op.intArith]) (fitK_sound (k := kd) (c := fun v => k v w) h)
  · rename_i kd n; exact .of (v := .int kd (bitsI .xor kd (if kd.signed then -1 else kd.max) n)) (w' := w) (by simp [Op.unary, Op.intBits, bitsI]) h
  · exact h.elim
def isU8 (u : Und) : Bool := match u with | .int .u8 => true | _ => false
def convV (C : Cx) (s d : TypeId) (x : Value) (w : World) (k : Value → World → Prop) : Prop :=
  tdK C.T s fun ds => tdK C.T d fun dd =>
    match ds.under, dd.under, x with
    | .int .u64, .int .i64, .int _ n => (I64 n ∧ k (.int .i64 n) w) ∨ k (.int .i64 (IntKind.i64.wrap n)) w
    | .int _, .int kd, .int _ n => fitK kd n fun v => k v w
    | .string, .string, .string b => k (.string b) w
    | .slice e, .string, .slice a len cap => tdK C.T e fun de => (match isU8 de.under with
      | true => ∃ l : List UInt8, len = l.length ∧ Cells w a (l.map bv) ∧ k (str l) w
      | false => SemOk C.P (convert s d (.slice a len cap)) w k)
    | .string, .slice _, x => SemOk C.P (convert s d x) w k
    | .slice _, .slice _, x => SemOk C.P (convert s d x) w k
    | .int _, .string, x => SemOk C.P (convert s d x) w k
    | _, _, _ => False
theorem convV_sound {C : Cx} (hT : TabOk C.P C.T) {s d : TypeId} {x : Value} {w : World} {k : Value → World → Prop} (h : convV C s d x w k) : SemOk C.P (convert s d x) w k := by
  replace h := tdK_sound hT h; obtain ⟨ds, hds, h⟩ := h
  replace h := tdK_sound hT h; obtain ⟨dd, hdd, h⟩ := h
  split at h
  · rename_i q n hu1 hu
    have h1 := hds.int hu1 w
    have h2 := hdd.int hu w
    exact .of (v := .int .i64 (IntKind.i64.wrap n)) (w' := w) (by simp [convert, h1, h2, Conv.intToInt]) (by
      rcases h with h | h
      · rw [wrap_i64 h.1]; exact h.2
      · exact h)
  · rename_i ks kd q n _ hu1 hu
    have h1 := hds.int hu1 w
    have h2 := hdd.int hu w
    exact .of (v := .int kd (kd.wrap n)) (w' := w) (by simp [convert, h1, h2, Conv.intToInt]) (fitK_sound (k := kd) (c := fun v => k v w) h)
  · rename_i b hu1 hu
    have h1 := hds.string hu1 w
    have h2 := hdd.string hu w
    exact .of (v := .string b) (w' := w) (by simp [convert, h1, h2]) h
  · rename_i e a len cap hu1 hu
    replace h := tdK_sound hT h; obtain ⟨de, hde, h⟩ := h
    split at h
    · rename_i h8
      obtain ⟨l, rfl, hc, hk⟩ := h
      have he : de.under = .int .u8 := by
        revert h8
        cases de.under with
        | int q => cases q <;> simp [isU8]
        | _ => simp [isU8]
      have g1 : C.P.underlying s = some (.slice e) := by
        obtain ⟨d0, q1, q2⟩ := hds.under
        rw [hu1] at q2
        cases d0 <;> first | (simp_all [undOf]; done) | (simp only [undOf] at q2; split at q2 <;> cases q2)
      have g2 : C.P.underlying e = some (.int .u8) := by
        obtain ⟨d0, q1, q2⟩ := hde.under
        rw [he] at q2
        cases d0 <;> first | (simp_all [undOf]; done) | (simp only [undOf] at q2; split at q2 <;> cases q2)
      have g3 : C.P.underlying d = some .string := by
        obtain ⟨d0, q1, q2⟩ := hdd.under
        rw [hu] at q2
        cases d0 <;> first | (simp_all [undOf]; done) | (simp only [undOf] at q2; split at q2 <;> cases q2)
      refine .of (v := str l) (w' := w) ?_ hk
      by_cases hl : l = []
      · subst hl
        cases a with
        | none => exact (run_convert_bytes_string w s d e none 0 cap g1 g2 g3).trans (by simp [Conv.bytesToString]; rfl)
        | some p => exact run_convert_bytes_back w s d e p cap [] g1 g2 g3 (by simp)
      · have hp := hc.1 (by simpa using hl)
        have := run_convert_bytes_back w s d e ⟨ablk a, aoff a, none⟩ cap l g1 g2 g3 (fun j hj => by rw [addr_add]; exact hc.2 j _ (by simp [hj]))
        rw [hp]
        exact this
    · exact h
  · exact h
  · exact h
  · exact h
  · exact h.elim

/-! ### struct and slice literals -/
def partsK (env : Env) : List (Nat × Operand) → (List (Nat × Value) → Prop) → Prop
  | [], k => k []
  | (i, x) :: r, k => withV env x fun v => partsK env r fun l => k ((i, v) :: l)
theorem partsK_sound {env : Env} {a : Act} (hs : Sat env a.tmps) : ∀ {xs : List (Nat × Operand)} {k : List (Nat × Value) → Prop}, partsK env xs k → k (xs.map fun p => (p.1, a.eval p.2))
  | [], _, h => h
  | (i, x) :: xs, k, h => by
    have h1 := withV_sound h hs
    exact partsK_sound hs (xs := xs) h1
/-- the parts in their order, each given once -/
def flatK : Nat → List (Nat × Value) → (List Value → Prop) → Prop
  | _, [], k => k []
  | i, (j, v) :: r, k => match Nat.beq i j with
    | true => cellsK v fun l => (match l with
      | [u] => flatK (i + 1) r fun m => k (u :: m)
      | l => flatK (i + 1) r fun m => k (l ++ m))
    | false => False

/-! ### builtins -/
def lenV (C : Cx) (t : TypeId) (x : Value) (k : Value → Prop) : Prop :=
  tdK C.T t fun d => match d.under, x with
    | .string, .string s => k (.int .i64 (s.size : Int))
    | .slice _, .slice _ n _ => k (.int .i64 (n : Int))
    | .array n _, _ => k (.int .i64 (n : Int))
    | _, _ => False
theorem lenV_sound {C : Cx} (hT : TabOk C.P C.T) {t : TypeId} {ts : Array TypeId} {ty : TypeId} {x : Value} {xs : Array Value} {w : World} {k : Value → World → Prop}
    (ht : ts[0]? = some t) (hx : xs[0]? = some x) (h : lenV C t x fun v => k v w) : SemOk C.P (Builtin.len_ ts ty xs) w k := by
  replace h := tdK_sound hT h; obtain ⟨d, hd, h⟩ := h
  split at h
  · rename_i hu; have h1 := hd.string hu w
    exact .of (w' := w) (by simp [Builtin.len_, ht, hx, h1, goInt]) h
  · rename_i hu; have h1 := hd.slice hu w
    exact .of (w' := w) (by simp [Builtin.len_, ht, hx, h1, goInt]) h
  · rename_i hu; have h1 := hd.array hu w
    exact .of (w' := w) (by simp [Builtin.len_, ht, hx, h1, goInt]) h
  · exact h.elim

/-! ### one operation -/
def callV (C : Cx) (fv : Value) (vs : List Value) (w : World) (k : Value → World → Prop) (Z : List PanicEntry → World → Prop) : Prop :=
  match fv with
  | .func (.func g) ⟨first⟩ ⟨captured⟩ => Cal C.P g (first ++ vs ++ captured).toArray w k Z
  | .func (.yield l) ⟨[]⟩ ⟨[]⟩ => Yld C.P l vs.toArray w fun b w' => k (.bool b) w'
  | _ => False
def builtinV (C : Cx) (b : Builtin) (ts : Array TypeId) (ty : TypeId) (vs : List Value) (w : World) (k : Value → World → Prop) : Prop :=
  match b, ts, vs with
  | .len, ⟨[t]⟩, [x] => lenV C t x fun v => k v w
  | .append, ts, vs => SemOk C.P (Builtin.append_ ts ty vs.toArray) w k
  | .copy, ts, vs => SemOk C.P (Builtin.copy_ ts ty vs.toArray) w k
  | .min, ts, vs => SemOk C.P (Builtin.min_ ts ty vs.toArray) w k
  | .max, ts, vs => SemOk C.P (Builtin.max_ ts ty vs.toArray) w k
  | .cap, ts, vs => SemOk C.P (Builtin.cap_ ts ty vs.toArray) w k
  | .delete, ts, vs => SemOk C.P (Builtin.delete_ ts ty vs.toArray) w k
  | .clear, ts, vs => SemOk C.P (Builtin.clear_ ts ty vs.toArray) w k
  | _, _, _ => False
/-- an operator, where the right operand may be the literal nil -/
def binN (C : Cx) (op : BinOp) (t : TypeId) (y : Operand) (a b : Value) (w : World) (k : Value → World → Prop) : Prop :=
  match y, a, b with
  | .const _, .nilIface, .nilIface => tdK C.T t fun d => (match d.under, op with
    | .iface, .eql => k (.bool true) w
    | .iface, .neq => k (.bool false) w
    | _, _ => False)
  | _, a, b => binK C op t a b w k
theorem binN_sound {C : Cx} (hT : TabOk C.P C.T) {op : BinOp} {t : TypeId} {x y : Operand} {a b : Value} {w : World} {k : Value → World → Prop} (h : binN C op t y a b w k) : SemOk C.P (do eqGuard op t x y a b; binOp op t a b) w k := by
  unfold binN at h
  split at h
  · rename_i c
    replace h := tdK_sound hT h; obtain ⟨d, hd, h⟩ := h
    split at h
    · rename_i hu
      obtain ⟨ms, hru⟩ := hd.iface hu w
      have key := run_eqval (P := C.P) (neg := false) (t := t) (x := x) (y := .const c) (a := .nilIface) (b := .nilIface) (w := w) (r := true) (by simp [eqGuard]) (by rfl) (fun m => by simp only [Op.equalIn, Sem.run_bind, hru, Result.andThen_ok, Sem.run_pure])
      exact .of key h
    · rename_i hu
      obtain ⟨ms, hru⟩ := hd.iface hu w
      have key := run_eqval (P := C.P) (neg := true) (t := t) (x := x) (y := .const c) (a := .nilIface) (b := .nilIface) (w := w) (r := true) (by simp [eqGuard]) (by rfl) (fun m => by simp only [Op.equalIn, Sem.run_bind, hru, Result.andThen_ok, Sem.run_pure])
      exact .of key h
    · exact h.elim
  · exact binK_sound hT h
def vop (C : Cx) (op : Op) (ty : TypeId) (env : Env) (w : World) (k : Value → World → Prop) (Z : List PanicEntry → World → Prop) : Prop :=
  match op with
  | .move x => withV env x fun v => k v w
  | .assign x => withV env x fun v => k v w
  | .pick c a b => withV env c fun v => (match v with
    | .bool t => condG 0 t fun t' => (match t' with | true => withV env a fun u => k u w | false => withV env b fun u => k u w)
    | _ => False)
  | .alloc t => allocV C t w k
  | .box t x => withV env x fun v => boxV t v w k
  | .load t x => withV env x fun v => loadV C t v w k
  | .store t x y => withV env x fun a => withV env y fun v => storeV C t a v w fun w' => k undef w'
  | .nilCheck x => withV env x fun v => (match v with
    | .pointer (some a) => k (.pointer (some a)) w
    | .func (.func f) a b => k (.func (.func f) a b) w
    | .func (.yield f) a b => k (.func (.yield f) a b) w
    | .map r => k (.map r) w
    | .iface t u => k (.iface t u) w
    | _ => False)
  | .binOp op t x y _ => withV env x fun a => withV env y fun b => binN C op t y a b w k
  | .unOp op _ x => withV env x fun a => unK op a fun v => k v w
  | .convert s d x => withV env x fun a => convV C s d a w k
  | .fieldAddr t x f => withV env x fun a => fieldAddrV C t a f w k
  | .field t x f => withV env x fun a => fieldV C t a f w k
  | .indexAddr t x i => withV env x fun a => withV env i fun j => indexAddrV C t a j w k
  | .index t x i => withV env x fun a => withV env i fun j => indexV C t a j w k
  | .extract x i => withV env x fun a => extractV a i w k
  | .build t parts => partsK env parts.toList fun ps => buildV C t ps w k
  | .buildSlice t n parts => partsK env parts.toList fun ps => bsV C t n ps w k
  | .makeFunc (.func f) first captured => withVs env first.toList fun a => withVs env captured.toList fun b => k (.func (.func f) a.toArray b.toArray) w
  | .makeInterface t x => withV env x fun a => SemOk C.P (Instr.makeInterface t a) w k
  | .makeMap t none => SemOk C.P (Instr.makeMap t none) w k
  | .makeSlice t x y => withV env x fun a => withV env y fun b => SemOk C.P (Instr.makeSlice t a b) w k
  | .slice t x lo hi mx => withV env x fun a => withVs env lo.toList fun l => withVs env hi.toList fun h => withVs env mx.toList fun m => sliceV C t a l.head? h.head? m.head? w k
  | .lookup t x i ok => withV env x fun a => withV env i fun j => SemOk C.P (Instr.lookup t a j ok) w k
  | .range t x => withV env x fun a => SemOk C.P (Instr.range t a) w k
  | .next x s => withV env x fun a => SemOk C.P (Instr.next a s ty) w k
  | .entry x => withV env x fun a => SemOk C.P (Instr.entry a) w k
  | .sliceToArrayPointer t x => withV env x fun a => SemOk C.P (Instr.arrayAt t a) w k
  | .typeAssert x t t' ok => withV env x fun a => SemOk C.P (Instr.typeAssert a t t' ok) w k
  | .mapUpdate t m i x => withV env m fun a => withV env i fun j => withV env x fun v => SemOk C.P (do Instr.mapUpdate t a j v; pure undef) w k
  | .insert t m i x => withV env m fun a => withV env i fun j => withV env x fun v => SemOk C.P (do Instr.mapUpdate t a j v; pure undef) w k
  | .call ⟨.value f, args, _⟩ => withV env f fun fv => withVs env args.toList fun vs => callV C fv vs w k Z
  | .call ⟨.builtin b, args, ts⟩ => withVs env args.toList fun vs => builtinV C b ts ty vs w k
  | .panic x => withV env x fun v => (match v with
    | .iface t u => Z [{ v := .iface t u, recovered := false }] w
    | _ => False)
  | _ => False

/-! ### operations that only compute, or read cells -/
def undAt (T : List TD) (t : TypeId) : Und := match T[t]? with | some d => d.under | none => .other
def eqAt (T : List TD) (t : TypeId) : Bool := match T[t]? with | some d => d.eq | none => false
def quietOp (T : List TD) : Op → Bool
  | .move _ | .assign _ | .pick _ _ _ | .load _ _ | .nilCheck _ | .unOp _ _ _ | .fieldAddr _ _ _ | .field _ _ _ | .indexAddr _ _ _ | .index _ _ _ | .extract _ _ | .slice _ _ _ _ _ => true
  | .makeFunc (.func _) _ _ => true
  | .binOp _ t _ _ _ => (match undAt T t with | .array _ _ => false | _ => true)
  | .build t _ => (match undAt T t with | .struct _ => true | _ => false)
  | .convert s d _ => (match undAt T s, undAt T d with
    | .int _, .int _ => true
    | .string, .string => true
    | .slice e, .string => isU8 (undAt T e)
    | _, _ => false)
  | .call ⟨.builtin .len, ⟨[_]⟩, ⟨[_]⟩⟩ => true
  | _ => false
def readsOp : Op → Bool
  | .load _ _ => true
  | .convert _ _ _ => true
  | _ => false
/-- what is owed at an operation -/
theorem upon_val {C : Cx} {o : Oper} {a : Act} {w : World} {next : Act → World → Prop} {Q : Exit → Act → World → Prop} {s : Sem Value}
    (hs : Oper.semAt C.r a.eval o = (do pure (.value (← s)))) (h : SemOk C.P s w fun v w' => next (a.put o.dst v) w') : o.wpIn (Fr C.r) 0 C.P a w next Q := by
  obtain ⟨v, w', hr, hk⟩ := h.ex
  refine ⟨fun _ _ => trivial, ?_⟩
  have e : (Fr C.r).round = C.r := rfl
  rw [e, hs]
  simp only [Sem.run_bind, hr, Result.andThen_ok, Sem.run_pure]
  exact hk
theorem upon_unit {C : Cx} {o : Oper} {a : Act} {w : World} {next : Act → World → Prop} {Q : Exit → Act → World → Prop} {s : Sem Unit}
    (hs : Oper.semAt C.r a.eval o = (do s; pure .skip)) (h : ∃ w', s.run C.P w = .ok () w' ∧ next (a.put o.dst undef) w') : o.wpIn (Fr C.r) 0 C.P a w next Q := by
  obtain ⟨w', hr, hk⟩ := h
  refine ⟨fun _ _ => trivial, ?_⟩
  have e : (Fr C.r).round = C.r := rfl
  rw [e, hs]
  simp only [Sem.run_bind, hr, Result.andThen_ok, Sem.run_pure]
  exact hk
theorem upon_enter {C : Cx} {o : Oper} {a : Act} {w : World} {next : Act → World → Prop} {Q : Exit → Act → World → Prop} {f : FuncId} {args : Array Value}
    (hs : (Oper.semAt C.r a.eval o).run C.P w = (callFunc f args).run C.P w) (h : Cal C.P f args w (fun v w' => next (a.put o.dst v) w') (fun ch w' => Q (.panic ch) a w')) : o.wpIn (Fr C.r) 0 C.P a w next Q := by
  refine ⟨fun _ _ => trivial, ?_⟩
  have e : (Fr C.r).round = C.r := rfl
  rw [e, hs]
  rcases h.out with ⟨he, h⟩ | ⟨v, w', hr, hk⟩
  · rw [he args w]
    refine ⟨fun h => by simp [Fr, Fence.wide] at h, callsIn_Fr.2 (Calls.mono' h ?_)⟩
    intro e w' r
    cases e with
    | returned v => exact r
    | panicked c => exact r
    | outgrown => exact r.elim
  · rw [hr]
    exact hk
theorem run_unit {P : Program} {s : Sem Unit} {w : World} {k : Value → World → Prop} (h : SemOk P (do s; pure undef) w k) : ∃ w', s.run P w = .ok () w' ∧ k undef w' := by
  obtain ⟨v, w', hr, hk⟩ := h.ex
  simp only [Sem.run_bind] at hr
  cases hs : s.run P w with
  | ok u w1 =>
    simp only [hs, Result.andThen_ok, Sem.run_pure, Result.ok.injEq] at hr
    obtain ⟨rfl, rfl⟩ := hr
    exact ⟨w1, rfl, hk⟩
  | halt h w1 => simp [hs] at hr
theorem semAt_plain {C : Cx} {o : Oper} {a : Act} {op : Op} (ho : o.op = op) (h : ∀ c, op ≠ .defer c) : Oper.semAt C.r a.eval o = execOp a.eval o :=
  Oper.semAt_eq _ _ _ (fun c hc => h c (ho ▸ hc))
theorem head?_map_toList {a : Act} (x : Option Operand) : (x.toList.map a.eval).head? = x.map a.eval := by cases x <;> rfl
theorem vop_cases {C : Cx} (hT : TabOk C.P C.T) {o : Oper} {env : Env} {a : Act} (hs : Sat env a.tmps) {w : World} {k : Value → World → Prop} {Z : List PanicEntry → World → Prop}
    (h : vop C o.op o.type env w k Z) :
    (∃ s : Sem Value, Oper.semAt C.r a.eval o = (do pure (.value (← s))) ∧ SemOk C.P s w k) ∨
    (quietOp C.T o.op = false ∧ ∃ s : Sem Unit, Oper.semAt C.r a.eval o = (do s; pure .skip) ∧ ∃ w', s.run C.P w = .ok () w' ∧ k undef w') ∨
    (quietOp C.T o.op = false ∧ ∃ f args, (Oper.semAt C.r a.eval o).run C.P w = (callFunc f args).run C.P w ∧ Cal C.P f args w k Z) ∨
    (quietOp C.T o.op = false ∧ ∃ l fn tmps assign body, (Oper.semAt C.r a.eval o).run C.P w = .ok (.round l fn tmps assign body) w ∧ RoundIn (Fr none) 0 C.P l fn tmps assign body w fun e w' => ∃ v, e = .returned v ∧ k v w') ∨
    (quietOp C.T o.op = false ∧ ∃ t u, (Oper.semAt C.r a.eval o).run C.P w = .halt (.panic (.iface t u)) w ∧ Z [{ v := .iface t u, recovered := false }] w) := by
  generalize ho : o.op = op at h
  unfold vop at h
  split at h
  case h_1 x =>
    exact .inl ⟨pure (a.eval x), (by rw [semAt_plain ho (by simp)]; simp [execOp, ho]), .of (by simp) (withV_sound h hs)⟩
  case h_2 x =>
    exact .inl ⟨pure (a.eval x), (by rw [semAt_plain ho (by simp)]; simp [execOp, ho]), .of (by simp) (withV_sound h hs)⟩
  case h_3 c x y =>
    replace h := withV_sound h hs
    split at h
    · rename_i t ht
      replace h := condG_eq.1 h
      cases t with
      | true =>
        exact .inl ⟨pure (a.eval x), (by rw [semAt_plain ho (by simp)]; simp [execOp, ho, ht, asBool]), .of (by simp) (withV_sound h hs)⟩
      | false =>
        exact .inl ⟨pure (a.eval y), (by rw [semAt_plain ho (by simp)]; simp [execOp, ho, ht, asBool]), .of (by simp) (withV_sound h hs)⟩
    · exact h.elim
  case h_4 t =>
    exact .inl ⟨Instr.alloc t true (.tuple #[]), (by rw [semAt_plain ho (by simp)]; simp [execOp, ho]), allocV_sound hT h⟩
  case h_5 t x =>
    exact .inl ⟨Instr.box t (a.eval x), (by rw [semAt_plain ho (by simp)]; simp [execOp, ho]), boxV_sound (withV_sound h hs)⟩
  case h_6 t x =>
    exact .inl ⟨Instr.loadAt t (a.eval x), (by rw [semAt_plain ho (by simp)]; simp [execOp, ho]), loadV_sound hT (withV_sound h hs)⟩
  case h_7 t x y =>
    replace h := withV_sound (withV_sound h hs) hs
    obtain ⟨w', hr, hk⟩ := storeV_sound hT h
    exact .inr (.inl ⟨rfl, Instr.storeAt t (a.eval x) (a.eval y), (by rw [semAt_plain ho (by simp)]; simp [execOp, ho]), w', hr, hk⟩)
  case h_8 x =>
    replace h := withV_sound h hs
    split at h
    all_goals first
      | exact h.elim
      | (rename_i hx
         exact .inl ⟨pure (a.eval x), (by rw [semAt_plain ho (by simp)]; simp [execOp, ho, hx]), .of (by simp [hx]) h⟩)
  case h_9 op t x y _ =>
    replace h := withV_sound (withV_sound h hs) hs
    exact .inl ⟨(do eqGuard op t x y (a.eval x) (a.eval y); binOp op t (a.eval x) (a.eval y)), (by rw [semAt_plain ho (by simp)]; simp [execOp, ho]), binN_sound hT h⟩
  case h_10 op _ x =>
    replace h := withV_sound h hs
    exact .inl ⟨Op.unary op (a.eval x), (by rw [semAt_plain ho (by simp)]; simp [execOp, ho]), unK_sound h⟩
  case h_11 s d x =>
    exact .inl ⟨convert s d (a.eval x), (by rw [semAt_plain ho (by simp)]; simp [execOp, ho]), convV_sound hT (withV_sound h hs)⟩
  case h_12 t x f =>
    exact .inl ⟨Instr.fieldAt t (a.eval x) f, (by rw [semAt_plain ho (by simp)]; simp [execOp, ho]), fieldAddrV_sound hT (withV_sound h hs)⟩
  case h_13 t x f =>
    exact .inl ⟨Instr.field t (a.eval x) f, (by rw [semAt_plain ho (by simp)]; simp [execOp, ho]), fieldV_sound hT (withV_sound h hs)⟩
  case h_14 t x i =>
    exact .inl ⟨Instr.indexAt t (a.eval x) (a.eval i), (by rw [semAt_plain ho (by simp)]; simp [execOp, ho]), indexAddrV_sound hT (withV_sound (withV_sound h hs) hs)⟩
  case h_15 t x i =>
    exact .inl ⟨Instr.index t (a.eval x) (a.eval i), (by rw [semAt_plain ho (by simp)]; simp [execOp, ho]), indexV_sound hT (withV_sound (withV_sound h hs) hs)⟩
  case h_16 x i =>
    exact .inl ⟨Instr.extract (a.eval x) i, (by rw [semAt_plain ho (by simp)]; simp [execOp, ho]), extractV_sound (withV_sound h hs)⟩
  case h_17 t parts =>
    replace h := partsK_sound hs h
    refine .inl ⟨Instr.build t (parts.map fun (i, x) => (i, a.eval x)), (by rw [semAt_plain ho (by simp)]; simp [execOp, ho]), ?_⟩
    have e : (List.map (fun p : Nat × Operand => (p.1, a.eval p.2)) parts.toList).toArray = parts.map fun (i, x) => (i, a.eval x) := by apply Array.ext'; simp
    rw [← e]; exact buildV_sound hT h
  case h_18 t n parts =>
    replace h := partsK_sound hs h
    refine .inl ⟨Instr.buildSlice t n (parts.map fun (i, x) => (i, a.eval x)), (by rw [semAt_plain ho (by simp)]; simp [execOp, ho]), ?_⟩
    have e : (List.map (fun p : Nat × Operand => (p.1, a.eval p.2)) parts.toList).toArray = parts.map fun (i, x) => (i, a.eval x) := by apply Array.ext'; simp
    rw [← e]; exact bsV_sound hT h
  case h_19 f first captured =>
    replace h := withVs_sound hs (withVs_sound hs h)
    refine .inl ⟨Instr.makeFunc (.func f) (first.map a.eval) (captured.map a.eval), (by rw [semAt_plain ho (by simp)]; simp [execOp, ho]), .of ?_ h⟩
    have e1 : ∀ l : Array Operand, (List.map a.eval l.toList).toArray = l.map a.eval := fun l => by apply Array.ext'; simp
    rw [e1, e1]
    simp [Instr.makeFunc]
  case h_20 t x =>
    exact .inl ⟨Instr.makeInterface t (a.eval x), (by rw [semAt_plain ho (by simp)]; simp [execOp, ho]), withV_sound h hs⟩
  case h_21 t =>
    exact .inl ⟨Instr.makeMap t none, (by rw [semAt_plain ho (by simp)]; simp [execOp, ho]), h⟩
  case h_22 t x y =>
    exact .inl ⟨Instr.makeSlice t (a.eval x) (a.eval y), (by rw [semAt_plain ho (by simp)]; simp [execOp, ho]), withV_sound (withV_sound h hs) hs⟩
  case h_23 t x lo hi mx =>
    replace h := withVs_sound hs (withVs_sound hs (withVs_sound hs (withV_sound h hs)))
    simp only [head?_map_toList] at h
    exact .inl ⟨Instr.sliceAt t (a.eval x) (lo.map a.eval) (hi.map a.eval) (mx.map a.eval), (by rw [semAt_plain ho (by simp)]; simp [execOp, ho]), sliceV_sound hT h⟩
  case h_24 t x i ok =>
    exact .inl ⟨Instr.lookup t (a.eval x) (a.eval i) ok, (by rw [semAt_plain ho (by simp)]; simp [execOp, ho]), withV_sound (withV_sound h hs) hs⟩
  case h_25 t x =>
    exact .inl ⟨Instr.range t (a.eval x), (by rw [semAt_plain ho (by simp)]; simp [execOp, ho]), withV_sound h hs⟩
  case h_26 x s =>
    exact .inl ⟨Instr.next (a.eval x) s o.type, (by rw [semAt_plain ho (by simp)]; simp [execOp, ho]), withV_sound h hs⟩
  case h_27 x =>
    exact .inl ⟨Instr.entry (a.eval x), (by rw [semAt_plain ho (by simp)]; simp [execOp, ho]), withV_sound h hs⟩
  case h_28 t x =>
    exact .inl ⟨Instr.arrayAt t (a.eval x), (by rw [semAt_plain ho (by simp)]; simp [execOp, ho]), withV_sound h hs⟩
  case h_29 x t t' ok =>
    exact .inl ⟨Instr.typeAssert (a.eval x) t t' ok, (by rw [semAt_plain ho (by simp)]; simp [execOp, ho]), withV_sound h hs⟩
  case h_30 t m i x =>
    obtain ⟨w', hr, hk⟩ := run_unit (withV_sound (withV_sound (withV_sound h hs) hs) hs)
    exact .inr (.inl ⟨rfl, Instr.mapUpdate t (a.eval m) (a.eval i) (a.eval x), (by rw [semAt_plain ho (by simp)]; simp [execOp, ho]), w', hr, hk⟩)
  case h_31 t m i x =>
    obtain ⟨w', hr, hk⟩ := run_unit (withV_sound (withV_sound (withV_sound h hs) hs) hs)
    exact .inr (.inl ⟨rfl, Instr.mapUpdate t (a.eval m) (a.eval i) (a.eval x), (by rw [semAt_plain ho (by simp)]; simp [execOp, ho]), w', hr, hk⟩)
  case h_32 f args ts =>
    replace h := withVs_sound hs (withV_sound h hs)
    unfold callV at h
    split at h
    · rename_i g first captured hf
      refine .inr (.inr (.inl ⟨rfl, g, (first ++ args.toList.map a.eval ++ captured).toArray, ?_, h⟩))
      rw [semAt_plain ho (by simp)]
      simp only [execOp, ho, resolve, hf, Deferred.ofValue, invoke, Sem.run_bind, Sem.run_pure, Result.andThen_ok]
      congr 2
      apply Array.ext'
      simp
    · rename_i l hf
      obtain ⟨fn, tmps, assign, body, h1, h2⟩ := h.out
      refine .inr (.inr (.inr (.inl ⟨rfl, l, fn, tmps, assign, body, ?_, h2.mono fun e w' ⟨b, he, hk⟩ => ⟨_, he, hk⟩⟩)))
      rw [semAt_plain ho (by simp)]
      have hargs : (args.toList.map a.eval).toArray = args.map a.eval := by apply Array.ext'; simp
      rw [hargs] at h1
      simp only [execOp, ho, resolve, hf, Deferred.ofValue, invoke, Sem.run_bind, Sem.run_pure, Result.andThen_ok]
      rw [← h1]
      congr 2
      apply Array.ext'
      simp
    · exact h.elim
  case h_33 b args ts =>
    replace h := withVs_sound hs h
    have hargs : (args.toList.map a.eval).toArray = args.map a.eval := by apply Array.ext'; simp
    unfold builtinV at h
    split at h
    · rename_i t x hx
      refine .inl ⟨Builtin.len_ #[t] o.type (args.map a.eval), (by rw [semAt_plain ho (by simp)]; simp [execOp, ho, resolve, invoke, builtin]), lenV_sound hT (t := t) (x := x) rfl ?_ h⟩
      rw [← hargs, hx]; rfl
    all_goals first
      | exact h.elim
      | (rw [hargs] at h
         refine .inl ⟨_, ?_, h⟩
         rw [semAt_plain ho (by simp)]
         simp [execOp, ho, resolve, invoke, builtin])
  case h_34 x =>
    replace h := withV_sound h hs
    split at h
    · rename_i t u hx
      refine .inr (.inr (.inr (.inr ⟨rfl, t, u, ?_, h⟩)))
      rw [semAt_plain ho (by simp)]
      simp only [execOp, ho, hx, Sem.run_bind]
      rfl
    · exact h.elim
  case h_35 => exact h.elim
theorem vop_sound {C : Cx} (hT : TabOk C.P C.T) {o : Oper} {env : Env} {a : Act} (hs : Sat env a.tmps) {w : World} {k : Value → World → Prop} {Z : List PanicEntry → World → Prop}
    (h : vop C o.op o.type env w k Z) {next : Act → World → Prop} {Q : Exit → Act → World → Prop} (hn : ∀ v w', k v w' → next (a.put o.dst v) w') (hz : ∀ ch w', Z ch w' → Q (.panic ch) a w') :
    o.wpIn (Fr C.r) 0 C.P a w next Q := by
  rcases vop_cases hT hs h with ⟨s, h1, v, w', hr, hk⟩ | ⟨_, s, h1, w', hr, hk⟩ | ⟨_, f, args, h1, h2⟩ | ⟨_, l, fn, tmps, assign, body, h1, h2⟩ | ⟨_, t, u, h1, h2⟩
  · exact upon_val h1 ⟨v, w', hr, hn _ _ hk⟩
  · exact upon_unit h1 ⟨w', hr, hn _ _ hk⟩
  · exact upon_enter h1 (Cal.mono h2 hn hz)
  · refine ⟨fun _ _ => trivial, ?_⟩
    have e : (Fr C.r).round = C.r := rfl
    rw [e, h1]
    refine ⟨fun h => by simp [Fr, Fence.wide] at h, roundIn_Fr (h2.mono ?_)⟩
    rintro e w' ⟨v, rfl, hk⟩
    exact hn _ _ hk
  · refine ⟨fun _ _ => trivial, ?_⟩
    have e : (Fr C.r).round = C.r := rfl
    rw [e, h1]
    exact hz _ _ h2
end Go.Proofs.YtffaffojkfalhaaGreatDoor
