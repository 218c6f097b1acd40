/-
  A region that draws its order: one order is looked at, the others are led back to it.
-/
import Derived.Test.YtffaffojkfalhaaGreatDoorVcD
import Derived.OrdersIn
namespace Go.Proofs.YtffaffojkfalhaaGreatDoor
open Go Go.RowKit

/-! ### operations that only compute, or read cells -/
theorem tdK_at {T : List TD} {t : TypeId} {k : TD → Prop} (h : tdK T t k) : ∃ d, T[t]? = some d ∧ undAt T t = d.under ∧ eqAt T t = d.eq ∧ k d := by
  obtain ⟨d, hd, hk⟩ := tdK_iff.1 h
  exact ⟨d, hd, by simp [undAt, hd], by simp [eqAt, hd], hk⟩
theorem tdK_mk {T : List TD} {t : TypeId} {k : TD → Prop} {d : TD} (hd : T[t]? = some d) (h : k d) : tdK T t k := tdK_iff.2 ⟨d, hd, h⟩
/-- A condition that comes to one value, and to the same one in every later world. -/
def Uni (rd : Bool) (R : World → (Value → World → Prop) → Prop) : Prop :=
  ∀ w k, R w k → ∃ v, k v w ∧ ∀ w1 (k1 : Value → World → Prop), (rd = true → Ext w w1) → k1 v w1 → R w1 k1
theorem getK_uni {env : Env} {t : Nat} {R : Value → World → (Value → World → Prop) → Prop} {rd : Bool} (h : ∀ v, Uni rd (R v)) : Uni rd fun w k => getK env t fun v => R v w k := by
  intro w k hk
  obtain ⟨v, hv, hk⟩ := getK_iff.1 hk
  obtain ⟨u, h1, h2⟩ := h v w k hk
  exact ⟨u, h1, fun w1 k1 he hk1 => getK_iff.2 ⟨v, hv, h2 w1 k1 he hk1⟩⟩
theorem withV_uni {env : Env} {x : Operand} {R : Value → World → (Value → World → Prop) → Prop} {rd : Bool} (h : ∀ v, Uni rd (R v)) : Uni rd fun w k => withV env x fun v => R v w k := by
  cases x with
  | tmp t => exact getK_uni h
  | const v => exact h v
  | global g => exact h _
  | func f => exact h _
theorem withVs_uni {env : Env} {rd : Bool} : ∀ {xs : List Operand} {R : List Value → World → (Value → World → Prop) → Prop}, (∀ v, Uni rd (R v)) → Uni rd fun w k => withVs env xs fun v => R v w k
  | [], _, h => h []
  | _ :: xs, R, h => withV_uni (R := fun v w k => withVs env xs fun vs => R (v :: vs) w k) fun v => withVs_uni (R := fun vs => R (v :: vs)) fun vs => h (v :: vs)
theorem partsK_uni {env : Env} {rd : Bool} : ∀ {xs : List (Nat × Operand)} {R : List (Nat × Value) → World → (Value → World → Prop) → Prop}, (∀ v, Uni rd (R v)) → Uni rd fun w k => partsK env xs fun v => R v w k
  | [], _, h => h []
  | (i, _) :: xs, R, h => withV_uni (R := fun v w k => partsK env xs fun vs => R ((i, v) :: vs) w k) fun v => partsK_uni (R := fun vs => R ((i, v) :: vs)) fun vs => h ((i, v) :: vs)
theorem tdK_uni {T : List TD} {t : TypeId} {rd : Bool} {R : TD → World → (Value → World → Prop) → Prop} (h : ∀ d, T[t]? = some d → Uni rd (R d)) : Uni rd fun w k => tdK T t fun d => R d w k := by
  intro w k hk
  obtain ⟨d, hd, hk⟩ := tdK_iff.1 hk
  obtain ⟨u, h1, h2⟩ := h d hd w k hk
  exact ⟨u, h1, fun w1 k1 he hk1 => tdK_mk hd (h2 w1 k1 he hk1)⟩
theorem uni_val {rd : Bool} (v : Value) : Uni rd fun w k => k v w := fun _ _ h => ⟨v, h, fun _ _ _ h => h⟩
theorem uni_false {rd : Bool} : Uni rd fun _ _ => False := fun _ _ h => h.elim
theorem uni_and {rd : Bool} {p : Prop} {R : World → (Value → World → Prop) → Prop} (h : Uni rd R) : Uni rd fun w k => p ∧ R w k := by
  intro w k ⟨hp, hk⟩
  obtain ⟨v, h1, h2⟩ := h w k hk
  exact ⟨v, h1, fun w1 k1 he hk1 => ⟨hp, h2 w1 k1 he hk1⟩⟩
theorem fitK_uni {rd : Bool} {kd : IntKind} {x : Int} : Uni rd fun w k => fitK kd x fun v => k v w := by
  unfold fitK
  cases kd <;> first | exact uni_val _ | exact uni_and (uni_val _)
theorem uni_or {rd : Bool} {R S : World → (Value → World → Prop) → Prop} (h1 : Uni rd R) (h2 : Uni rd S) : Uni rd fun w k => R w k ∨ S w k := by
  rintro w k (h | h)
  · obtain ⟨v, a, b⟩ := h1 w k h
    exact ⟨v, a, fun w1 k1 he hk => .inl (b w1 k1 he hk)⟩
  · obtain ⟨v, a, b⟩ := h2 w k h
    exact ⟨v, a, fun w1 k1 he hk => .inr (b w1 k1 he hk)⟩
theorem intK_uni {rd : Bool} {op : BinOp} {kd : IntKind} {x y : Int} : Uni rd fun w k => intK op kd x y fun v => k v w := by
  unfold intK
  cases op <;> first | exact fitK_uni | exact uni_val _ | exact uni_and (uni_val _) | exact uni_and fitK_uni | exact uni_or (uni_and fitK_uni) (uni_and fitK_uni) | exact uni_or (uni_and (uni_val _)) (uni_and (uni_val _))
theorem strK_uni {rd : Bool} {op : BinOp} {x y : List UInt8} : Uni rd fun w k => strK op x y fun v => k v w := by
  unfold strK
  cases op <;> first | exact uni_val _ | exact uni_and (uni_val _) | exact uni_false
theorem eqK_uni {rd neg : Bool} {u : Und} {a b : Value} : Uni rd fun w k => eqK neg u a b fun v => k v w := by
  unfold eqK
  split <;> first | exact uni_val _ | exact uni_false
theorem nthK_uni {rd : Bool} {l : List Value} {i : Nat} {R : Value → World → (Value → World → Prop) → Prop} (h : ∀ v, Uni rd (R v)) : Uni rd fun w k => nthK l i fun v => R v w k := by
  intro w k hk
  obtain ⟨v, hv, hk⟩ := nthK_iff.1 hk
  obtain ⟨u, h1, h2⟩ := h v w k hk
  exact ⟨u, h1, fun w1 k1 he hk1 => nthK_iff.2 ⟨v, hv, h2 w1 k1 he hk1⟩⟩
theorem scalK_uni {rd : Bool} {u : Und} {x y : Value} {R : (p : Prop) → Decidable p → World → (Value → World → Prop) → Prop} (h : ∀ p i, Uni rd (R p i)) : Uni rd fun w k => scalK u x y fun p i => R p i w k := by
  unfold scalK
  split
  · split
    · exact h _ _
    · exact uni_false
  · exact h _ _
  · exact h _ _
  · exact uni_false
theorem eqFK_uni {C : Cx} {rd : Bool} {xs ys : List Value} : ∀ {fs : List (Nat × TypeId)} {R : (p : Prop) → Decidable p → World → (Value → World → Prop) → Prop}, (∀ p i, Uni rd (R p i)) → Uni rd fun w k => eqFK C fs xs ys fun p i => R p i w k
  | [], _, h => h _ _
  | [_], _, h => tdK_uni fun _ _ => nthK_uni fun _ => nthK_uni fun _ => scalK_uni h
  | _ :: g :: r, R, h => tdK_uni fun _ _ => nthK_uni fun _ => nthK_uni fun _ => scalK_uni (R := fun p i w k => eqFK C (g :: r) xs ys fun q j => R (p ∧ q) (@instDecidableAnd p q i j) w k) fun _ _ => eqFK_uni (fs := g :: r) fun _ _ => h _ _
theorem binK_uni {C : Cx} {rd : Bool} {op : BinOp} {t : TypeId} {a b : Value} (hq : ∀ n e, undAt C.T t ≠ .array n e) : Uni rd fun w k => binK C op t a b w k := by
  unfold binK
  split
  · split
    · exact uni_and fitK_uni
    · exact uni_and (uni_val _)
    · split <;> first | exact intK_uni | exact uni_false
  · exact strK_uni
  · refine tdK_uni fun d hd => ?_
    split
    · exact eqFK_uni fun p i => uni_val _
    · exact eqFK_uni fun p i => uni_val _
    · rename_i n e hu
      exact absurd (by simp [undAt, hd, hu]) (hq n e)
    · exact uni_false
  · split
    · exact tdK_uni fun d _ => eqK_uni
    · exact tdK_uni fun d _ => eqK_uni
    · exact uni_false
theorem cellsK_uni {rd : Bool} {v : Value} {R : List Value → World → (Value → World → Prop) → Prop} (h : ∀ l, Uni rd (R l)) : Uni rd fun w k => cellsK v fun l => R l w k := by
  unfold cellsK
  split <;> exact h _
theorem replK_uni {rd : Bool} : ∀ {c : List Value} {o : Nat} {l : List Value} {R : List Value → World → (Value → World → Prop) → Prop}, (∀ l, Uni rd (R l)) → Uni rd fun w k => replK c o l fun r => R r w k
  | c, 0, [], R, h => by cases c <;> exact h _
  | u :: c, 0, v :: l, R, h => replK_uni (c := c) (o := 0) (l := l) (R := fun r => R (v :: r)) fun r => h _
  | u :: c, o + 1, l, R, h => by
    have := replK_uni (rd := rd) (c := c) (o := o) (l := l) (R := fun r => R (u :: r)) fun r => h _
    cases l <;> exact this
  | [], 0, v :: l, R, h => uni_false
  | [], o + 1, l, R, h => by cases l <;> exact uni_false
theorem fillK_uni {C : Cx} {rd : Bool} {fs : List (Nat × TypeId)} : ∀ {ps : List (Nat × Value)} {c : List Value} {R : List Value → World → (Value → World → Prop) → Prop}, (∀ l, Uni rd (R l)) → Uni rd fun w k => fillK C fs ps c fun r => R r w k
  | [], c, R, h => h _
  | (i, v) :: r, c, R, h => by
    simp only [fillK]
    cases fs[i]? with
    | none => exact uni_false
    | some f =>
      refine tdK_uni fun d _ => cellsK_uni (R := fun l w k => match Nat.beq l.length d.size with
        | true => replK c f.1 l fun c' => fillK C fs r c' fun r => R r w k
        | false => False) fun l => ?_
      cases Nat.beq l.length d.size with
      | true => exact replK_uni fun c' => fillK_uni h
      | false => exact uni_false
theorem allTd_uni {C : Cx} {rd : Bool} : ∀ {fs : List (Nat × TypeId)} {R : World → (Value → World → Prop) → Prop}, Uni rd R → Uni rd fun w k => allTd C fs (R w k)
  | [], _, h => h
  | _ :: _, _, h => tdK_uni fun _ _ => allTd_uni h
theorem boundK_uni {rd : Bool} {x : Option Value} {d m : Nat} {R : Nat → World → (Value → World → Prop) → Prop} (h : ∀ n, Uni rd (R n)) : Uni rd fun w k => boundK x d m fun n => R n w k := by
  unfold boundK
  split
  · exact h _
  · exact uni_and (h _)
  · exact uni_false
theorem partK_uni {rd : Bool} {d : TD} {off : Nat} {l : List Value} : Uni rd fun w k => partK d off l fun v => k v w := by
  unfold partK
  split
  · exact uni_val _
  · split
    · exact uni_val _
    · exact uni_false
theorem loadN_uni {b : Nat} : ∀ {n o : Nat} {R : List Value → World → (Value → World → Prop) → Prop}, (∀ l, Uni true (R l)) → Uni true fun w k => loadN w b n o fun l => R l w k
  | 0, o, R, h => h _
  | n + 1, o, R, h => by
    rintro w k ⟨v, hv, hk⟩
    obtain ⟨u, h1, h2⟩ := loadN_uni (b := b) (n := n) (o := o + 1) (R := fun l => R (v :: l)) (fun l => h _) w k hk
    exact ⟨u, h1, fun w1 k1 he hk1 => ⟨v, by rw [(he rfl).cell (World.block_lt_of_cell? _ _ hv)]; exact hv, h2 w1 k1 he hk1⟩⟩
theorem loadV_uni {C : Cx} {t : TypeId} {v : Value} : Uni true fun w k => loadV C t v w k := by
  unfold loadV
  split
  · rename_i b o
    refine tdK_uni fun d _ => ?_
    cases isAggD d.under with
    | true =>
      cases Nat.ble d.size 16 with
      | true => exact loadN_uni (R := fun l w k => k (.agg l.toArray) w) fun l => uni_val _
      | false =>
        rintro w k ⟨l, hl, hc, hk⟩
        exact ⟨_, hk, fun w1 k1 he hk1 => ⟨l, hl, fun j v hj => by have := hc j v hj; rw [(he rfl).cell (World.block_lt_of_cell? _ _ this)]; exact this, hk1⟩⟩
    | false =>
      rintro w k ⟨u, hu, hk⟩
      exact ⟨u, hk, fun w1 k1 he hk1 => ⟨u, by rw [(he rfl).cell (World.block_lt_of_cell? _ _ hu)]; exact hu, hk1⟩⟩
  · exact uni_false
theorem fieldK_uni {C : Cx} {rd : Bool} {u : Und} {f : Nat} {R : Nat → TypeId → TD → World → (Value → World → Prop) → Prop} (h : ∀ a b d, Uni rd (R a b d)) : Uni rd fun w k => fieldK C u f fun a b d => R a b d w k := by
  unfold fieldK
  split
  · split
    · exact tdK_uni fun df _ => h _ _ _
    · exact uni_false
  · exact uni_false
theorem fieldAddrV_uni {C : Cx} {rd : Bool} {t : TypeId} {x : Value} {f : Nat} : Uni rd fun w k => fieldAddrV C t x f w k := by
  unfold fieldAddrV
  split
  · refine tdK_uni fun d _ => fieldK_uni fun a b df => ?_
    split <;> first | exact uni_false | exact uni_val _
  · exact uni_false
theorem fieldV_uni {C : Cx} {rd : Bool} {t : TypeId} {x : Value} {f : Nat} : Uni rd fun w k => fieldV C t x f w k := by
  unfold fieldV
  split
  · exact tdK_uni fun d _ => fieldK_uni fun a b df => partK_uni
  · exact uni_false
theorem indexAddrV_uni {C : Cx} {rd : Bool} {t : TypeId} {x i : Value} : Uni rd fun w k => indexAddrV C t x i w k := by
  unfold indexAddrV
  split
  · refine tdK_uni fun d _ => ?_
    split
    · exact tdK_uni fun de _ => uni_and (uni_and (uni_val _))
    · exact tdK_uni fun de _ => uni_and (uni_val _)
    · exact uni_false
  · exact uni_false
theorem indexV_uni {C : Cx} {rd : Bool} {t : TypeId} {x i : Value} : Uni rd fun w k => indexV C t x i w k := by
  unfold indexV
  split
  · refine tdK_uni fun d _ => ?_
    split
    · refine uni_and ?_
      rintro w k ⟨c, hc, hk⟩
      exact ⟨_, hk, fun w1 k1 _ hk1 => ⟨c, hc, hk1⟩⟩
    · exact tdK_uni fun de _ => uni_and partK_uni
    · exact uni_false
  · exact uni_false
theorem sliceV_uni {C : Cx} {rd : Bool} {t : TypeId} {x : Value} {lo hi mx : Option Value} : Uni rd fun w k => sliceV C t x lo hi mx w k := by
  unfold sliceV
  refine tdK_uni fun d _ => ?_
  split
  · split
    · exact boundK_uni fun n => boundK_uni fun n' => uni_val _
    · exact uni_false
  · refine tdK_uni fun de _ => ?_
    split
    · exact boundK_uni fun n => boundK_uni fun n' => uni_and (uni_val _)
    · refine boundK_uni fun n => ?_
      split
      · exact boundK_uni fun n => boundK_uni fun n' => uni_val _
      · exact uni_false
  · refine tdK_uni fun de _ => ?_
    split
    · exact boundK_uni fun n => boundK_uni fun n' => uni_val _
    · exact uni_false
  · exact uni_false
theorem unK_uni {rd : Bool} {op : UnOp} {x : Value} : Uni rd fun w k => unK op x fun v => k v w := by
  unfold unK
  split <;> first | exact uni_val _ | exact fitK_uni | exact uni_or (uni_and (uni_val _)) (uni_val _) | exact uni_false
theorem convV_uni {C : Cx} {s d : TypeId} {x : Value} (hq : (match undAt C.T s, undAt C.T d with
    | .int _, .int _ => true
    | .string, .string => true
    | .slice e, .string => isU8 (undAt C.T e)
    | _, _ => false) = true) : Uni true fun w k => convV C s d x w k := by
  refine tdK_uni fun ds hds => tdK_uni fun dd hdd => ?_
  have e1 : undAt C.T s = ds.under := by simp [undAt, hds]
  have e2 : undAt C.T d = dd.under := by simp [undAt, hdd]
  rw [e1, e2] at hq
  split
  · exact uni_or (uni_and (uni_val _)) (uni_val _)
  · exact fitK_uni
  · exact uni_val _
  · rename_i e a len cap hu1 hu2
    rw [hu1, hu2] at hq
    refine tdK_uni fun de hde => ?_
    have e3 : undAt C.T e = de.under := by simp [undAt, hde]
    simp only [e3] at hq
    rw [hq]
    rintro w k ⟨l, hl, hc, hk⟩
    exact ⟨_, hk, fun w1 k1 he hk1 => ⟨l, hl, hc.ext (he rfl), hk1⟩⟩
  · rename_i hu1 hu2; rw [hu1, hu2] at hq; cases hq
  · rename_i hu1 hu2; rw [hu1, hu2] at hq; cases hq
  · rename_i hu1 hu2; rw [hu1, hu2] at hq; cases hq
  · exact uni_false
theorem buildV_uni {C : Cx} {rd : Bool} {t : TypeId} {ps : List (Nat × Value)} (hq : (match undAt C.T t with | .struct _ => true | _ => false) = true) : Uni rd fun w k => buildV C t ps w k := by
  unfold buildV
  refine tdK_uni fun d hd => ?_
  have e1 : undAt C.T t = d.under := by simp [undAt, hd]
  rw [e1] at hq
  unfold zeroK
  split
  · dsimp only
    split
    · exact allTd_uni (fillK_uni (R := fun c' w k => k (.agg ⟨c'⟩) w) fun l => uni_val _)
    · rename_i hu _; rw [hu] at hq; cases hq
    · exact uni_false
  · exact uni_false
theorem lenV_uni {C : Cx} {rd : Bool} {t : TypeId} {x : Value} : Uni rd fun w k => lenV C t x fun v => k v w := by
  unfold lenV
  refine tdK_uni fun d _ => ?_
  split <;> first | exact uni_val _ | exact uni_false
theorem binN_uni {rd : Bool} {C : Cx} {op : BinOp} {t : TypeId} {y : Operand} {a b : Value} (hq : ∀ n e, undAt C.T t ≠ .array n e) : Uni rd fun w k => binN C op t y a b w k := by
  unfold binN
  split
  · refine tdK_uni fun d _ => ?_
    split <;> first | exact uni_val _ | exact uni_false
  · exact binK_uni hq
theorem vop_uni {C : Cx} {op : Op} {ty : TypeId} {env : Env} (hq : quietOp C.T op = true) {Z : List PanicEntry → World → Prop} : Uni (readsOp op) fun w k => vop C op ty env w k Z := by
  cases op
  case move x => exact withV_uni (R := fun v w k => k v w) fun v => uni_val v
  case assign x => exact withV_uni (R := fun v w k => k v w) fun v => uni_val v
  case pick c a b =>
    refine withV_uni (R := fun v w k => (match v with
      | .bool t => condG 0 t fun t' => (match t' with | true => withV env a fun u => k u w | false => withV env b fun u => k u w)
      | _ => False)) fun v => ?_
    cases v <;> first
      | exact uni_false
      | (rename_i t
         cases t with
         | true => exact withV_uni (R := fun v w k => k v w) fun v => uni_val v
         | false => exact withV_uni (R := fun v w k => k v w) fun v => uni_val v)
  case load t x => exact withV_uni (R := fun v w k => loadV C t v w k) fun v => loadV_uni
  case nilCheck x =>
    refine withV_uni (R := fun v w k => (match v with
      | .pointer (some a) => k (.pointer (some a)) w
      | .func (.func f) a b => k (.func (.func f) a b) w
      | .func (.yield f) a b => k (.func (.yield f) a b) w
      | .map r => k (.map r) w
      | .iface t u => k (.iface t u) w
      | _ => False)) fun v => ?_
    split <;> first | exact uni_val _ | exact uni_false
  case binOp op t x y t2 =>
    refine withV_uni (R := fun a w k => withV env y fun b => binN C op t y a b w k) fun a => withV_uni (R := fun b w k => binN C op t y a b w k) fun b => binN_uni fun n e he => ?_
    have : quietOp C.T (.binOp op t x y t2) = (match undAt C.T t with | .array _ _ => false | _ => true) := rfl
    rw [this, he] at hq
    cases hq
  case unOp op t x => exact withV_uni (R := fun a w k => unK op a fun v => k v w) fun a => unK_uni
  case convert s d x => exact withV_uni (R := fun a w k => convV C s d a w k) fun a => convV_uni hq
  case makeFunc fn first captured =>
    cases fn <;> first
      | exact withVs_uni (R := fun a w k => withVs env captured.toList fun b => k (.func (.func _) a.toArray b.toArray) w) fun a => withVs_uni (R := fun b w k => k (.func (.func _) a.toArray b.toArray) w) fun b => uni_val _
      | cases hq
  case fieldAddr t x f => exact withV_uni (R := fun a w k => fieldAddrV C t a f w k) fun a => fieldAddrV_uni
  case field t x f => exact withV_uni (R := fun a w k => fieldV C t a f w k) fun a => fieldV_uni
  case indexAddr t x i => exact withV_uni (R := fun a w k => withV env i fun j => indexAddrV C t a j w k) fun a => withV_uni (R := fun j w k => indexAddrV C t a j w k) fun j => indexAddrV_uni
  case index t x i => exact withV_uni (R := fun a w k => withV env i fun j => indexV C t a j w k) fun a => withV_uni (R := fun j w k => indexV C t a j w k) fun j => indexV_uni
  case extract x i =>
    refine withV_uni (R := fun a w k => extractV a i w k) fun a => ?_
    unfold extractV
    split
    · exact nthK_uni (R := fun v w k => k v w) fun v => uni_val v
    · exact uni_false
  case slice t x lo hi mx =>
    exact withV_uni (R := fun a w k => withVs env lo.toList fun l => withVs env hi.toList fun h => withVs env mx.toList fun m => sliceV C t a l.head? h.head? m.head? w k) fun a =>
      withVs_uni (R := fun l w k => withVs env hi.toList fun h => withVs env mx.toList fun m => sliceV C t a l.head? h.head? m.head? w k) fun l =>
      withVs_uni (R := fun h w k => withVs env mx.toList fun m => sliceV C t a l.head? h.head? m.head? w k) fun h =>
      withVs_uni (R := fun m w k => sliceV C t a l.head? h.head? m.head? w k) fun m => sliceV_uni
  case build t parts => exact partsK_uni (R := fun ps w k => buildV C t ps w k) fun ps => buildV_uni hq
  case call c =>
    obtain ⟨cal, args, ts⟩ := c
    cases cal with
    | value f => cases hq
    | invoke r m => cases hq
    | builtin b =>
      refine withVs_uni (R := fun vs w k => builtinV C b ts ty vs w k) fun vs => ?_
      cases b <;> first | cases hq | skip
      obtain ⟨args⟩ := args
      obtain ⟨ts⟩ := ts
      match args, ts, hq with
      | [_], [t], _ =>
        match vs with
        | [x] => exact lenV_uni
        | [] => exact uni_false
        | _ :: _ :: _ => exact uni_false
  all_goals cases hq

/-! ### the one order, and the others -/
section
variable (C : Cx) (ops : List Oper) (xs ys : List Nat) (Rel : World → World → Prop) (Q : Exit → Act → World → Prop)
/-- one operation is taken -/
def OpE (i : Nat) (o : Oper) (K : Act → World → Prop) (a : Act) (w : World) : Prop :=
  if Region.wanted o (yielded ops.toArray a.tmps) = true then
    (if quietOp C.T o.op = true then ∃ v, (∀ w1, (readsOp o.op = true → (i ∈ ys ∧ Rel w w1) ∨ w1 = w) → (Oper.semAt C.r a.eval o).run C.P w1 = .ok (.value v) w1) ∧ K (a.put o.dst v) w
     else o.wpIn (Fr C.r) 0 C.P a w (fun a1 w1 => (i ∈ xs → Rel w w1) ∧ K a1 w1) Q)
  else K (a.put o.dst undef) w
def Good : List (Nat × Oper) → Act → World → Prop
  | [], a, w => Q .normal a w
  | (i, o) :: r, a, w => OpE C ops xs ys Rel Q i o (Good r) a w
end
section
variable {C : Cx} {ops : List Oper} {xs ys : List Nat} {Rel : World → World → Prop} {Q : Exit → Act → World → Prop}
theorem wpIn_frame {o : Oper} {a : Act} {w : World} {K : Act → World → Prop} (h : o.wpIn (Fr C.r) 0 C.P a w K Q) : o.wpIn (Fr C.r) 0 C.P a w (fun a1 w1 => (∃ u, a1.tmps = (a.put o.dst u).tmps) ∧ K a1 w1) Q := by
  refine ⟨h.1, ?_⟩
  have h := h.2
  generalize (o.semAt (Fr C.r).round a.eval).run C.P w = r at h ⊢
  cases r with
  | ok n w' =>
    cases n <;> simp only [Oper.uponIn] at h ⊢ <;> first
      | exact ⟨⟨_, rfl⟩, h⟩
      | (refine ⟨h.1, CallsIn.mono h.2 fun e w'' he => ?_⟩
         cases e with
         | returned u => exact ⟨⟨_, rfl⟩, he⟩
         | panicked ch => exact he
         | outgrown => exact he)
      | (refine ⟨h.1, RowsIn.mono h.2 fun u w'' he => ?_⟩
         exact ⟨⟨_, rfl⟩, he⟩)
      | (refine ⟨h.1, RoundIn.mono h.2 fun e w'' he => ?_⟩
         cases e with
         | returned u => exact ⟨⟨_, rfl⟩, he⟩
         | panicked ch => exact he
         | outgrown => exact he)
      | (refine ⟨⟨undef, ?_⟩, h⟩
         cases o.dst <;> rfl)
      | exact h
  | halt x w' => cases x <;> simp only [Oper.uponIn] at h ⊢ <;> exact h
theorem OpE.mono {i : Nat} {o : Oper} {K K' : Act → World → Prop} {a : Act} {w : World} (h : OpE C ops xs ys Rel Q i o K a w)
    (hk : ∀ a1 w1, (∃ u, a1.tmps = (a.put o.dst u).tmps) → (w1 = w ∨ (quietOp C.T o.op = false ∧ (i ∈ xs → Rel w w1))) → K a1 w1 → K' a1 w1) : OpE C ops xs ys Rel Q i o K' a w := by
  unfold OpE at h ⊢
  split at h
  · rename_i hw
    rw [if_pos hw]
    split at h
    · rename_i hq
      rw [if_pos hq]
      obtain ⟨v, h1, h2⟩ := h
      exact ⟨v, h1, hk _ _ ⟨_, rfl⟩ (.inl rfl) h2⟩
    · rename_i hq
      rw [if_neg hq]
      exact Oper.wpIn_mono (fun a1 w1 ⟨h0, h1, h2⟩ => ⟨h1, hk _ _ h0 (.inr ⟨by simpa using hq, h1⟩) h2⟩) (wpIn_frame h)
  · rename_i hw
    rw [if_neg hw]
    exact hk _ _ ⟨_, rfl⟩ (.inl rfl) h
theorem OpE.sound {i : Nat} {o : Oper} {K : Act → World → Prop} {a : Act} {w : World} (ho : ops[i]? = some o) (h : OpE C ops xs ys Rel Q i o K a w) : wpOpIn (Fr C.r) 0 C.P ops.toArray Q i K a w := by
  have ho' : ops.toArray[i]? = some o := by simpa using ho
  unfold OpE at h
  unfold wpOpIn
  simp only [ho']
  split at h
  · rename_i hw
    rw [if_pos hw]
    split at h
    · obtain ⟨v, h1, h2⟩ := h
      refine ⟨fun _ _ => trivial, ?_⟩
      have e : (Fr C.r).round = C.r := rfl
      rw [e, h1 w (fun _ => .inr rfl)]
      exact h2
    · exact Oper.wpIn_mono (fun _ _ h => h.2) h
  · rename_i hw
    rw [if_neg hw]
    exact ⟨fun _ _ => trivial, h⟩
theorem looksAt_op {x : Operand} {o : Oper} {t : Tmp} (hx : x ∈ o.op.operands) (ht : x = .tmp t) (opsA : Array Oper) : t ∈ o.looksAt opsA := by
  subst ht
  simp only [Oper.looksAt, List.mem_append, List.mem_filterMap]
  exact .inl ⟨.tmp t, by simpa using hx, rfl⟩
theorem wanted_put {o : Oper} {a : Act} {d : Option Tmp} {v : Value} (h : ∀ t, d = some t → t ∉ o.looksAt ops.toArray) : Region.wanted o (yielded ops.toArray (a.put d v).tmps) = Region.wanted o (yielded ops.toArray a.tmps) := by
  unfold Region.wanted
  split
  · rfl
  · rename_i j want hg
    congr 1
    unfold yielded
    cases hj : (ops.toArray[j]?).bind (·.dst) with
    | none => rfl
    | some s =>
      simp only [Option.bind_some]
      have : (a.put d v).tmps[s]? = a.tmps[s]? := by
        cases d with
        | none => rfl
        | some t =>
          have hne : t ≠ s := by
            intro e
            subst e
            refine h t rfl ?_
            simp only [Oper.looksAt, List.mem_append, hg]
            exact .inr (by rw [hj]; simp)
          simp [Act.put, Array.getElem?_setIfInBounds_ne hne]
      rw [this]
theorem semAt_put {o : Oper} {a : Act} {d : Option Tmp} {v : Value} (hs : ∀ cs b, o.op ≠ .select cs b) (h : ∀ t, d = some t → t ∉ o.looksAt ops.toArray) : Oper.semAt C.r (a.put d v).eval o = Oper.semAt C.r a.eval o := by
  have he : ∀ x ∈ o.op.operands, (a.put d v).eval x = a.eval x := fun x hx => Act.eval_put fun t ht e => h t ht (looksAt_op hx e _)
  unfold Oper.semAt
  split
  · rename_i l c _ hop
    have : resolve (a.put d v).eval c o.type = resolve a.eval c o.type := resolve_congr c o.type fun x hx => he x (by rw [hop]; simpa [Op.operands] using hx)
    rw [this]
  · exact execOp_congr o hs he
def notSelect : Op → Bool
  | .select _ _ => false
  | _ => true
/-- An operation taken behind a put that it does not look at. -/
theorem OpE.commute {i : Nat} {o : Oper} {K : Act → World → Prop} {a : Act} {w : World} {d : Option Tmp} {v : Value} (hs : notSelect o.op = true)
    (h1 : ∀ t, d = some t → t ∉ o.looksAt ops.toArray) (h2 : ∀ t, d = some t → o.dst ≠ some t) (hQ : ∀ ch a w, Q (.panic ch) (a.put d v) w → Q (.panic ch) a w)
    (h : OpE C ops xs ys Rel Q i o K (a.put d v) w) : OpE C ops xs ys Rel Q i o (fun a1 w1 => K (a1.put d v) w1) a w := by
  have hsel : ∀ cs b, o.op ≠ .select cs b := fun cs b e => by rw [e] at hs; cases hs
  unfold OpE at h ⊢
  rw [wanted_put h1] at h
  split at h
  · rename_i hw
    rw [if_pos hw]
    rw [semAt_put hsel h1] at h
    split at h
    · rename_i hq
      rw [if_pos hq]
      obtain ⟨u, h3, h4⟩ := h
      refine ⟨u, h3, ?_⟩
      show K ((a.put o.dst u).put d v) w
      rw [Act.put_comm a (x := o.dst) (y := d) u v (fun t ht hd => h2 t hd ht)]; exact h4
    · rename_i hq
      rw [if_neg hq]
      refine ⟨fun _ _ => trivial, ?_⟩
      have h := h.2
      have e : (Fr C.r).round = C.r := rfl
      rw [e] at h ⊢
      rw [semAt_put hsel h1] at h
      have pc : ∀ u, (a.put d v).put o.dst u = (a.put o.dst u).put d v := fun u => (Act.put_comm a (x := o.dst) (y := d) u v (fun t ht hd => h2 t hd ht)).symm
      generalize (o.semAt C.r a.eval).run C.P w = r at h
      cases r with
      | ok n w' =>
        cases n <;> simp only [Oper.uponIn] at h ⊢ <;> first
          | exact h
          | (rw [pc] at h; exact h)
          | (refine ⟨h.1, CallsIn.mono h.2 fun e w'' he => ?_⟩
             cases e with
             | returned u => simp only at he ⊢; rw [pc] at he; exact he
             | panicked ch => exact hQ _ _ _ he
             | outgrown => exact he)
          | (refine ⟨h.1, RowsIn.mono h.2 fun u w'' he => ?_⟩
             rw [pc] at he; exact he)
          | (refine ⟨h.1, RoundIn.mono h.2 fun e w'' he => ?_⟩
             cases e with
             | returned u => simp only at he ⊢; rw [pc] at he; exact he
             | panicked ch => exact hQ _ _ _ he
             | outgrown => exact he)
          | (rename_i dd
             have e2 : ({ a.put d v with defers := dd :: (a.put d v).defers } : Act).put o.dst undef = (({ a with defers := dd :: a.defers } : Act).put o.dst undef).put d v := by
               rw [Act.put_defers]
               exact (Act.put_comm _ (x := o.dst) (y := d) undef v (fun t ht hd => h2 t hd ht)).symm
             rw [e2] at h; exact h)
      | halt x w' =>
        cases x <;> simp only [Oper.uponIn] at h ⊢ <;> first | exact h | exact hQ _ _ _ h
  · rename_i hw
    rw [if_neg hw]
    show K ((a.put o.dst undef).put d v) w
    rw [Act.put_comm a (x := o.dst) (y := d) undef v (fun t ht hd => h2 t hd ht)]
    exact h
/-- what is asked of an operation ahead of another one that may come first -/
def before1 (T : List TD) (opsA : Array Oper) (xs ys : List Nat) (j : Nat) (x : Oper) (i : Nat) (o : Oper) : Bool :=
  quietOp T x.op && x.apart opsA o && notSelect x.op && notSelect o.op && (quietOp T o.op || !readsOp x.op || (xs.contains i && ys.contains j))
theorem Good.move {i : Nat} {o : Oper} {B : List (Nat × Oper)} (hR : ∀ a b c : World, Rel a b → Rel b c → Rel a c) (hQ : ∀ d v ch a w, Q (.panic ch) (Act.put a d v) w → Q (.panic ch) a w) : ∀ {A : List (Nat × Oper)} {a : Act} {w : World},
    (∀ p ∈ A, before1 C.T ops.toArray xs ys p.1 p.2 i o = true) → Good C ops xs ys Rel Q (A ++ (i, o) :: B) a w → OpE C ops xs ys Rel Q i o (Good C ops xs ys Rel Q (A ++ B)) a w
  | [], a, w, _, h => h
  | (j, x) :: A, a, w, hA, h => by
    have hb := hA (j, x) (by simp)
    simp only [before1, Bool.and_eq_true, Bool.or_eq_true, Bool.not_eq_true', List.contains_iff_mem] at hb
    obtain ⟨⟨⟨⟨hq, hap⟩, hsx⟩, hso⟩, hrd⟩ := hb
    obtain ⟨a1, a2, a3⟩ := Oper.apart_spec hap
    have hselx : ∀ cs b, x.op ≠ .select cs b := fun cs b e => by rw [e] at hsx; cases hsx
    have ih := fun a w h => Good.move (B := B) hR hQ (A := A) (a := a) (w := w) (fun p hp => hA p (by simp [hp])) h
    simp only [List.cons_append, Good] at h
    unfold OpE at h
    split at h
    · rename_i hw
      obtain ⟨v, hv, h⟩ := h
      have h := OpE.commute hso a1 a2 (hQ x.dst v) (ih _ _ h)
      refine OpE.mono h fun b w1 ⟨u, hb⟩ hw1 hg => ?_
      have hev : b.eval = (a.put o.dst u).eval := by funext z; cases z <;> simp [Act.eval, hb]
      show OpE C ops xs ys Rel Q j x (Good C ops xs ys Rel Q (A ++ B)) b w1
      unfold OpE
      rw [hb, wanted_put (fun t ht => a3 t ht), if_pos hw, if_pos hq, hev, semAt_put hselx (fun t ht => a3 t ht)]
      refine ⟨v, fun w2 h2 => hv w2 fun hr => ?_, hg⟩
      rcases hw1 with rfl | ⟨hnq, hx⟩
      · exact h2 hr
      · rcases hrd with (hqo | hnr) | ⟨hi, hj⟩
        · simp [hqo] at hnq
        · simp [hr] at hnr
        · rcases h2 hr with ⟨_, h3⟩ | rfl
          · exact .inl ⟨hj, hR _ _ _ (hx hi) h3⟩
          · exact .inl ⟨hj, hx hi⟩
    · rename_i hw
      have h := OpE.commute hso a1 a2 (hQ x.dst undef) (ih _ _ h)
      refine OpE.mono h fun b w1 ⟨u, hb⟩ hw1 hg => ?_
      show OpE C ops xs ys Rel Q j x (Good C ops xs ys Rel Q (A ++ B)) b w1
      unfold OpE
      rw [hb, wanted_put (fun t ht => a3 t ht), if_neg hw]
      exact hg
/-! ### orders that the edges allow -/
def preds (o : Oper) : List Nat := (o.after.toList.filter fun e => Region.binds .any e).map (·.on)
def ancs (ops : List Oper) : Nat → Nat → List Nat
  | 0, _ => []
  | n + 1, i => match ops[i]? with
    | some o => preds o ++ (preds o).flatMap (ancs ops n)
    | none => []
def topoOk (ops : List Oper) : List Nat → Bool
  | [] => true
  | i :: r => (match ops[i]? with
    | some o => (preds o).all fun j => decide (j < ops.length) && !(i :: r).contains j
    | none => false) && topoOk ops r
def pairsOk (T : List TD) (ops : List Oper) (xs ys : List Nat) : List Nat → Bool
  | [] => true
  | x :: r => (match ops[x]? with
    | some ox => r.all fun i => (ancs ops ops.length i).contains x || (match ops[i]? with
      | some oi => before1 T ops.toArray xs ys x ox i oi
      | none => false)
    | none => false) && pairsOk T ops xs ys r
def orderOk (T : List TD) (ops : List Oper) (xs ys π : List Nat) : Bool :=
  topoOk ops π && pairsOk T ops xs ys π && ((List.range ops.length).all fun i => π.contains i) && decide (π.length = ops.length) && decide π.Nodup && π.all fun i => decide (i < ops.length)
def withOps (ops : List Oper) (l : List Nat) : List (Nat × Oper) := l.filterMap fun i => (ops[i]?).map fun o => (i, o)
theorem topoOk_del {A B : List Nat} {i : Nat} : topoOk ops (A ++ i :: B) = true → topoOk ops (A ++ B) = true := by
  induction A with
  | nil => intro h; simp only [List.nil_append, topoOk, Bool.and_eq_true] at h ⊢; exact h.2
  | cons x A ih =>
    intro h
    simp only [List.cons_append, topoOk, Bool.and_eq_true] at h ⊢
    refine ⟨?_, ih h.2⟩
    have h1 := h.1
    cases ho : ops[x]? with
    | none => simp [ho] at h1
    | some o =>
      simp only [ho] at h1
      refine List.all_eq_true.2 fun j hj => ?_
      have := List.all_eq_true.1 h1 j hj
      simp only [Bool.and_eq_true, decide_eq_true_eq, Bool.not_eq_true', ← Bool.not_eq_true, List.contains_iff_mem, List.mem_cons, List.mem_append, not_or] at this ⊢
      exact ⟨this.1, this.2.1, this.2.2.1, this.2.2.2.2⟩
theorem pairsOk_del {A B : List Nat} {i : Nat} : pairsOk C.T ops xs ys (A ++ i :: B) = true → pairsOk C.T ops xs ys (A ++ B) = true := by
  induction A with
  | nil => intro h; simp only [List.nil_append, pairsOk, Bool.and_eq_true] at h ⊢; exact h.2
  | cons x A ih =>
    intro h
    simp only [List.cons_append, pairsOk, Bool.and_eq_true] at h ⊢
    refine ⟨?_, ih h.2⟩
    have h1 := h.1
    cases ho : ops[x]? with
    | none => simp [ho] at h1
    | some o =>
      simp only [ho] at h1
      refine List.all_eq_true.2 fun j hj => List.all_eq_true.1 h1 j ?_
      simp only [List.mem_append, List.mem_cons] at hj ⊢
      rcases hj with hj | hj
      · exact .inl hj
      · exact .inr (.inr hj)
theorem pairsOk_mem {A B : List Nat} {i : Nat} {o : Oper} (ho : ops[i]? = some o) (h : pairsOk C.T ops xs ys (A ++ i :: B) = true) (hn : ∀ x ∈ A, x ∉ ancs ops ops.length i) :
    ∀ p ∈ withOps ops A, before1 C.T ops.toArray xs ys p.1 p.2 i o = true := by
  induction A with
  | nil => intro p hp; simp [withOps] at hp
  | cons x A ih =>
    intro p hp
    simp only [List.cons_append, pairsOk, Bool.and_eq_true] at h
    have h1 := h.1
    split at h1
    · rename_i ox hox
      simp only [withOps, List.filterMap_cons, hox, Option.map_some, List.mem_cons] at hp
      rcases hp with rfl | hp
      · have := List.all_eq_true.1 h1 i (by simp)
        simp only [ho, Bool.or_eq_true, List.contains_iff_mem] at this
        exact this.resolve_left (hn x (by simp))
      · exact ih h.2 (fun y hy => hn y (by simp [hy])) p hp
    · cases h1
theorem ancs_listed {listed : Array Bool} (hcl : ∀ i o, ops[i]? = some o → listed.getD i true = true → ∀ j ∈ preds o, listed.getD j false = true) (hlt : ∀ j, listed.getD j false = true → listed.getD j true = true) :
    ∀ n i o, ops[i]? = some o → (∀ j ∈ preds o, listed.getD j false = true) → ∀ x ∈ ancs ops n i, listed.getD x false = true := by
  intro n
  induction n with
  | zero => intro i o _ _ x hx; simp [ancs] at hx
  | succ n ih =>
    intro i o ho hp x hx
    simp only [ancs, ho, List.mem_append, List.mem_flatMap] at hx
    rcases hx with hx | ⟨j, hj, hx⟩
    · exact hp x hx
    · cases hoj : ops[j]? with
      | none => cases n <;> simp [ancs, hoj] at hx
      | some oj => exact ih j oj hoj (hcl j oj hoj (hlt j (hp j hj))) x hx
theorem ready_iff {listed : Array Bool} {i : Nat} : i ∈ Region.ready .any ops.toArray listed ↔ ∃ o, ops[i]? = some o ∧ listed.getD i true = false ∧ ∀ j ∈ preds o, listed.getD j false = true := by
  simp only [Region.ready, List.mem_filter, List.mem_range, List.size_toArray, Bool.and_eq_true, Bool.not_eq_true']
  constructor
  · rintro ⟨hlt, h1, h2⟩
    have ho : ops.toArray[i]? = some ops[i] := by simp [hlt]
    rw [ho] at h2
    simp only [Option.map_some, Option.getD_some, Array.all_eq_true'] at h2
    refine ⟨ops[i], by simp [hlt], h1, fun j hj => ?_⟩
    simp only [preds, List.mem_map, List.mem_filter] at hj
    obtain ⟨e, ⟨he, hb⟩, rfl⟩ := hj
    have := h2 e (by simpa using he)
    simpa [hb] using this
  · rintro ⟨o, ho, h1, h2⟩
    have hlt : i < ops.length := (List.getElem?_eq_some_iff.1 ho).1
    refine ⟨hlt, h1, ?_⟩
    have ho' : ops.toArray[i]? = some o := by simpa using ho
    rw [ho']
    simp only [Option.map_some, Option.getD_some, Array.all_eq_true']
    intro e he
    cases hb : Region.binds .any e with
    | false => simp
    | true =>
      have := h2 e.on (by simp only [preds, List.mem_map, List.mem_filter]; exact ⟨e, ⟨by simpa using he, hb⟩, rfl⟩)
      simp only [Bool.not_true, Bool.false_or]
      exact this
theorem withOps_append (A B : List Nat) : withOps ops (A ++ B) = withOps ops A ++ withOps ops B := by simp [withOps]
theorem withOps_cons {i : Nat} {o : Oper} (ho : ops[i]? = some o) (B : List Nat) : withOps ops (i :: B) = (i, o) :: withOps ops B := by simp [withOps, ho]
theorem Good.any (hRt : ∀ a b c : World, Rel a b → Rel b c → Rel a c) (hQ : ∀ d v ch a w, Q (.panic ch) (Act.put a d v) w → Q (.panic ch) a w) : ∀ (fuel : Nat) (R : List Nat) (listed : Array Bool) (a : Act) (w : World), R.length ≤ fuel → R.Nodup → listed.size = ops.length →
    (∀ i, i < ops.length → (listed.getD i true = false ↔ i ∈ R)) → (∀ i ∈ R, i < ops.length) → (∀ i o, ops[i]? = some o → listed.getD i true = true → ∀ j ∈ preds o, listed.getD j false = true) →
    topoOk ops R = true → pairsOk C.T ops xs ys R = true → Good C ops xs ys Rel Q (withOps ops R) a w → wpAnyIn (Fr C.r) 0 C.P .any ops.toArray Q fuel listed a w := by
  intro fuel
  induction fuel with
  | zero =>
    intro R listed a w hl hnd hsz hR hlt hcl ht hp h
    have : R = [] := List.eq_nil_of_length_eq_zero (by omega)
    subst this
    refine ⟨?_, h⟩
    rw [List.eq_nil_iff_forall_not_mem]
    intro i hi
    obtain ⟨o, ho, h1, _⟩ := ready_iff.1 hi
    exact absurd ((hR i (List.getElem?_eq_some_iff.1 ho).1).1 h1) (by simp)
  | succ fuel ih =>
    intro R listed a w hl hnd hsz hR hlt hcl ht hp h
    have hgd : ∀ j, j < ops.length → listed.getD j false = listed.getD j true := by
      intro j hj
      have : j < listed.size := by omega
      simp [Array.getD, this]
    have hgf : ∀ j, listed.getD j false = true → listed.getD j true = true := by
      intro j hj
      by_cases hlt : j < listed.size
      · simpa [Array.getD, hlt] using hj
      · simp [Array.getD, hlt] at hj
    refine ⟨fun hnil => ?_, fun i hi => ?_⟩
    · cases R with
      | nil => exact h
      | cons x R =>
        exfalso
        simp only [topoOk, Bool.and_eq_true] at ht
        have hx : x ∈ Region.ready .any ops.toArray listed := by
          have h1 := ht.1
          split at h1
          · rename_i o ho
            refine ready_iff.2 ⟨o, ho, (hR x (hlt x (by simp))).2 (by simp), fun j hj => ?_⟩
            have := List.all_eq_true.1 h1 j hj
            simp only [Bool.and_eq_true, decide_eq_true_eq, Bool.not_eq_true', ← Bool.not_eq_true, List.contains_iff_mem] at this
            rw [hgd j this.1]
            cases hv : listed.getD j true with
            | true => rfl
            | false => exact absurd ((hR j this.1).1 hv) this.2
          · cases h1
        rw [hnil] at hx
        simp at hx
    · obtain ⟨o, ho, h1, h2⟩ := ready_iff.1 hi
      have hilt := (List.getElem?_eq_some_iff.1 ho).1
      have hiR := (hR i hilt).1 h1
      obtain ⟨A, B, rfl⟩ := List.append_of_mem hiR
      have hna : ∀ x ∈ A, x ∉ ancs ops ops.length i := by
        intro x hx hc
        have hxl := ancs_listed hcl hgf ops.length i o ho h2 x hc
        have hxlt := hlt x (by simp [hx])
        have := (hR x hxlt).2 (by simp [hx])
        rw [hgf x hxl] at this
        cases this
      rw [withOps_append, withOps_cons ho] at h
      have hm := Good.move hRt hQ (pairsOk_mem ho hp hna) h
      rw [← withOps_append] at hm
      refine wpOpIn_mono (fun a1 w1 hg => ?_) (OpE.sound ho hm)
      have hni : i ∉ A ++ B := by
        have := hnd
        rw [List.nodup_append] at this
        intro hc
        rcases List.mem_append.1 hc with hc | hc
        · exact this.2.2 i hc i (by simp) rfl
        · exact (List.nodup_cons.1 this.2.1).1 hc
      have hset : ∀ j d, (listed.setIfInBounds i true).getD j d = if i = j then true else listed.getD j d := by
        intro j d
        by_cases hj : j < listed.size
        · by_cases e : i = j
          · subst e; simp [Array.getD, hj]
          · simp [Array.getD, hj, e]
        · by_cases e : i = j
          · subst e; omega
          · simp [Array.getD, hj, e]
      refine ih (A ++ B) _ a1 w1 (by simp at hl ⊢; omega) ?_ (by simpa using hsz) ?_ ?_ ?_ (topoOk_del ht) (pairsOk_del hp) hg
      · have := hnd
        rw [List.nodup_append] at this ⊢
        refine ⟨this.1, (List.nodup_cons.1 this.2.1).2, fun x hx y hy => this.2.2 x hx y (by simp [hy])⟩
      · intro j hj
        rw [hset]
        by_cases e : i = j
        · subst e; simp only [if_true]; exact ⟨fun h => (by cases h), fun h => absurd h hni⟩
        · rw [if_neg e, hR j hj]
          simp only [List.mem_append, List.mem_cons]
          constructor
          · rintro (h | h | h)
            · exact .inl h
            · exact absurd h.symm e
            · exact .inr h
          · rintro (h | h)
            · exact .inl h
            · exact .inr (.inr h)
      · intro j hj
        refine hlt j ?_
        simp only [List.mem_append, List.mem_cons] at hj ⊢
        rcases hj with hj | hj
        · exact .inl hj
        · exact .inr (.inr hj)
      · intro j oj hoj hlj k hk
        rw [hset] at hlj ⊢
        by_cases e : i = j
        · subst e
          rw [ho] at hoj
          cases hoj
          have := h2 k hk
          split
          · rfl
          · exact this
        · rw [if_neg e] at hlj
          have := hcl j oj hoj hlj k hk
          split
          · rfl
          · exact this

/-! ### the condition -/
def memN (i : Nat) : List Nat → Bool
  | [] => false
  | j :: r => match Nat.beq i j with | true => true | false => memN i r
theorem memN_iff {i : Nat} {l : List Nat} : memN i l = true ↔ i ∈ l := by
  induction l with
  | nil => simp [memN]
  | cons j r ih =>
    simp only [memN, List.mem_cons]
    cases e : Nat.beq i j with
    | true => simp [Nat.eq_of_beq_eq_true e]
    | false => simp only [ih]; exact ⟨.inr, fun h => h.resolve_left (Nat.ne_of_beq_eq_false e)⟩
def opK : List Oper → Nat → (Oper → Prop) → Prop
  | [], _, _ => False
  | o :: _, 0, k => k o
  | _ :: r, i + 1, k => opK r i k
theorem opK_sound {l : List Oper} {i : Nat} {k : Oper → Prop} (h : opK l i k) : ∃ o, l[i]? = some o ∧ k o := by
  induction l generalizing i with
  | nil => exact h.elim
  | cons o r ih =>
    cases i with
    | zero => exact ⟨o, rfl, h⟩
    | succ i => obtain ⟨o', h1, h2⟩ := ih h; exact ⟨o', h1, h2⟩
def extK (b : Bool) (w w' : World) (K : Prop) : Prop := match b with | true => Ext w w' ∧ K | false => K
theorem extK_sound {b : Bool} {w w' : World} {K : Prop} (h : extK b w w' K) : (b = true → Ext w w') ∧ K := by
  cases b with
  | true => exact ⟨fun _ => h.1, h.2⟩
  | false => exact ⟨fun h => (by cases h), h⟩
end
abbrev OpsDen := Env → World → (Env → World → Prop) → (List PanicEntry → World → Prop) → Prop
def opsStepD (C : Cx) (ops : List Oper) (xs : List Nat) (i : Nat) (_ : List Nat) (r : OpsDen) : OpsDen := fun env w K Z => opK ops i fun o => guardK ops env o.guard
      (fun env' => vop C o.op o.type env' w (fun v w' => extK (memN i xs) w w' (putK C.n o.dst v env' fun env'' => r env'' w' K Z)) Z)
      (fun env' => putK C.n o.dst undef env' fun env'' => r env'' w K Z)
noncomputable def vcOpsD (C : Cx) (ops : List Oper) (xs : List Nat) (l : List Nat) : OpsDen := List.rec (motive := fun _ => OpsDen) opsNil (opsStepD C ops xs) l
theorem vcOpsD_cons {C : Cx} {ops : List Oper} {xs : List Nat} {i : Nat} {rest : List Nat} {env : Env} {w : World} {K : Env → World → Prop} {Z : List PanicEntry → World → Prop} : vcOpsD C ops xs (i :: rest) env w K Z = opK ops i fun o => guardK ops env o.guard
      (fun env' => vop C o.op o.type env' w (fun v w' => extK (memN i xs) w w' (putK C.n o.dst v env' fun env'' => vcOpsD C ops xs rest env'' w' K Z)) Z)
      (fun env' => putK C.n o.dst undef env' fun env'' => vcOpsD C ops xs rest env'' w K Z) := rfl
theorem vop_steady {C : Cx} (hT : TabOk C.P C.T) {o : Oper} {env : Env} {a : Act} (hs : Sat env a.tmps) {w : World} {k : Value → World → Prop} {Z : List PanicEntry → World → Prop} (hq : quietOp C.T o.op = true)
    (h : vop C o.op o.type env w k Z) : ∃ v, (∀ w1, (readsOp o.op = true → Ext w w1) → (Oper.semAt C.r a.eval o).run C.P w1 = .ok (.value v) w1) ∧ k v w := by
  obtain ⟨v, hk, hu⟩ := vop_uni hq w k h
  refine ⟨v, fun w1 he => ?_, hk⟩
  have h1 := hu w1 (fun u w2 => u = v ∧ w2 = w1) he ⟨rfl, rfl⟩
  rcases vop_cases hT hs h1 with ⟨s, h2, u, w', hr, rfl, rfl⟩ | ⟨hf, _⟩ | ⟨hf, _⟩ | ⟨hf, _⟩ | ⟨hf, _⟩
  · rw [h2]; simp [hr]
  · simp [hq] at hf
  · simp [hq] at hf
  · simp [hq] at hf
  · simp [hq] at hf
theorem vcOpsD_sound {C : Cx} (hT : TabOk C.P C.T) {ops : List Oper} {xs ys : List Nat} {Q : Exit → Act → World → Prop} {K : Env → World → Prop} {Z : List PanicEntry → World → Prop} {ds : List Deferred}
    (hQ : ∀ env (a : Act) w, Sat env a.tmps → a.tmps.size = C.n → a.defers = ds → K env w → Q .normal a w) (hZ : ∀ (a : Act) w ch, a.tmps.size = C.n → a.defers = ds → Z ch w → Q (.panic ch) a w) :
    ∀ {l : List Nat} {env : Env} {a : Act} {w : World}, Sat env a.tmps → a.tmps.size = C.n → a.defers = ds → vcOpsD C ops xs l env w K Z → Good C ops xs ys Ext Q (withOps ops l) a w
  | [], env, a, w, hs, hn, hd, h => hQ env a w hs hn hd h
  | i :: rest, env, a, w, hs, hn, hd, h => by
    rw [vcOpsD_cons] at h
    obtain ⟨o, ho, h⟩ := opK_sound h
    rw [withOps_cons ho]
    simp only [Good, OpE]
    rcases guardK_sound h hs with ⟨hw, env', hs', h'⟩ | ⟨hw, env', hs', h'⟩
    · rw [if_pos hw]
      cases hq : quietOp C.T o.op with
      | true =>
        rw [if_pos rfl]
        obtain ⟨v, h1, h2⟩ := vop_steady hT hs' hq h'
        refine ⟨v, fun w1 hr => h1 w1 fun h => (hr h).elim (·.2) (fun e => e ▸ Ext.refl _), ?_⟩
        obtain ⟨env'', h3, h4, h5, h6⟩ := putK_sound (extK_sound h2).2 hs' hn
        exact vcOpsD_sound hT hQ hZ h3 h4 (h5.trans hd) h6
      | false =>
        rw [if_neg (by simp)]
        refine vop_sound hT hs' h' (fun v w' hk => ?_) (fun ch w' hz => hZ a w' ch hn hd hz)
        obtain ⟨h1, h2⟩ := extK_sound hk
        refine ⟨fun hi => h1 (memN_iff.2 hi), ?_⟩
        obtain ⟨env'', h3, h4, h5, h6⟩ := putK_sound h2 hs' hn
        exact vcOpsD_sound hT hQ hZ h3 h4 (h5.trans hd) h6
    · rw [if_neg (by simp [hw])]
      obtain ⟨env'', h3, h4, h5, h6⟩ := putK_sound h' hs' hn
      exact vcOpsD_sound hT hQ hZ h3 h4 (h5.trans hd) h6
/-- the world behind a draw -/
structure Drew (w w1 : World) : Prop where
  heap : w1.heap = w.heap
  ext : Ext w w1
theorem draw_vc {C : Cx} (hT : TabOk C.P C.T) (hm : C.P.follows .mixedOrders = true) {id : Nat} {ops : Array Oper} {env : Env} {ds : List Deferred} {w : World} {Q : Post} (xs π : List Nat)
    (hok : orderOk C.T ops.toList xs π π = true)
    (h : ∀ w1, Drew w w1 → vcOpsD C ops.toList xs π env w1 (fun env' w' => pruneK env' C.live fun e' => Q .normal e' ds w') (fun ch w' => Q (.panic ch) [] ds w')) :
    SemC C (.region id ops true) env ds w Q := by
  refine ⟨fun a hs hn hd => ?_⟩
  simp only [orderOk, Bool.and_eq_true, decide_eq_true_eq] at hok
  obtain ⟨⟨⟨⟨⟨ht, hp⟩, hall⟩, hlen⟩, hnodup⟩, hlts⟩ := hok
  have hmem : ∀ i, i < ops.toList.length → i ∈ π := fun i hi => by simpa using List.all_eq_true.1 hall i (by simpa using hi)
  have key := h { w with drawn := w.drawn + 1 } ⟨rfl, rfl, rfl, rfl, Nat.le_refl _, fun _ _ => rfl⟩
  let Q' : Exit → Act → World → Prop := fun e a' w' => a'.tmps.size = C.n ∧ match e with
    | .panic ch => Q (.panic ch) [] a'.defers w'
    | e => ∃ env', Sat env' a'.tmps ∧ Q e env' a'.defers w'
  refine wpIn_mono (Q := Q') ?_ (fun e a' w' hq => ?_)
  · refine wpIn_region_any hm ?_
    have hg : Good C ops.toList xs π Ext Q' (withOps ops.toList π) a { w with drawn := w.drawn + 1 } := by
      refine vcOpsD_sound hT (ds := ds) (fun env' a' w' h1 h2 h3 h4 => ?_) (fun a' w' ch h1 h2 h3 => ?_) hs hn hd key
      · obtain ⟨e', h5, h6⟩ := pruneK_sound h4
        exact ⟨h2, e', fun t v ht => h1 t v (h5 t v ht), h3 ▸ h6⟩
      · exact ⟨h1, h2 ▸ h3⟩
    have hlt : ∀ i ∈ π, i < ops.toList.length := fun i hi => by simpa using List.all_eq_true.1 hlts i hi
    have := Good.any (C := C) (ops := ops.toList) (xs := xs) (ys := π) (Rel := Ext) (Q := Q') (fun _ _ _ h k => Ext.trans h k) (fun d v ch a w hq => by
      obtain ⟨h1, h2⟩ := hq
      refine ⟨?_, ?_⟩
      · cases d <;> simpa [Act.put] using h1
      · cases d <;> exact h2) ops.size π (Array.replicate ops.size false) a { w with drawn := w.drawn + 1 } (by simp [hlen]) hnodup (by simp) (fun i hi => ?_) hlt (fun i o ho hl => ?_) ht hp hg
    · simpa using this
    · have : i < ops.size := by simpa using hi
      simp [Array.getD, this, hmem i hi]
    · have : i < ops.size := by simpa using (List.getElem?_eq_some_iff.1 ho).1
      simp [Array.getD, this] at hl
  · obtain ⟨h1, h2⟩ := hq
    cases e with
    | panic ch => exact ⟨h1, [], Sat.nil _, h2⟩
    | _ => exact ⟨h1, h2⟩

/-! ### a draw whose stores may come ahead of loads -/
/-- w' is w, but for blocks that X names and new ones -/
structure Sav (X : List Nat) (w w' : World) : Prop where
  size : w.heap.size ≤ w'.heap.size
  block : ∀ j, j < w.heap.size → j ∉ X → w'.heap[j]? = w.heap[j]?
theorem Sav.trans {X : List Nat} {a b c : World} (h : Sav X a b) (k : Sav X b c) : Sav X a c :=
  ⟨Nat.le_trans h.size k.size, fun j hj hx => (k.block j (Nat.lt_of_lt_of_le hj h.size) hx).trans (h.block j hj hx)⟩
theorem Sav.upd {X : List Nat} {w w' : World} {b : Nat} {l : List Value} {t : TypeId} (h : Upd w b l t w') (hb : b ∈ X) : Sav X w w' :=
  ⟨by rw [h.size]; exact Nat.le_refl _, fun j _ hx => h.other fun e => hx (e ▸ hb)⟩
theorem Sav.ext {X : List Nat} {w w' : World} (h : Ext w w') : Sav X w w' := ⟨h.size, fun j hj _ => h.block j hj⟩
theorem Blk.bySav {X : List Nat} {w w' : World} {b : Nat} {l : List Value} {t : TypeId} (h : Blk w b l t) (k : Sav X w w') (hx : b ∉ X) : Blk w' b l t := (k.block b h.lt hx).trans h
def stabK (b : Bool) (S : Prop) (K : Prop) : Prop := match b with | true => S ∧ K | false => K
theorem stabK_sound {b : Bool} {S K : Prop} (h : stabK b S K) : (b = true → S) ∧ K := by
  cases b with
  | true => exact ⟨fun _ => h.1, h.2⟩
  | false => exact ⟨fun h => (by cases h), h⟩
def opsStepX (C : Cx) (Rel : World → World → Prop) (ops : List Oper) (xs ys : List Nat) (i : Nat) (_ : List Nat) (r : OpsDen) : OpsDen := fun env w K Z => opK ops i fun o => guardK ops env o.guard
      (fun env' => vop C o.op o.type env' w (fun v w' => stabK (memN i xs) (Rel w w') (stabK (memN i ys) (∀ w1, Rel w w1 → vop C o.op o.type env' w1 (fun v1 w2 => v1 = v ∧ w2 = w1) (fun _ _ => False)) (putK C.n o.dst v env' fun env'' => r env'' w' K Z))) Z)
      (fun env' => putK C.n o.dst undef env' fun env'' => r env'' w K Z)
noncomputable def vcOpsX (C : Cx) (Rel : World → World → Prop) (ops : List Oper) (xs ys : List Nat) (l : List Nat) : OpsDen := List.rec (motive := fun _ => OpsDen) opsNil (opsStepX C Rel ops xs ys) l
theorem vcOpsX_cons {C : Cx} {Rel : World → World → Prop} {ops : List Oper} {xs ys : List Nat} {i : Nat} {rest : List Nat} {env : Env} {w : World} {K : Env → World → Prop} {Z : List PanicEntry → World → Prop} : vcOpsX C Rel ops xs ys (i :: rest) env w K Z = opK ops i fun o => guardK ops env o.guard
      (fun env' => vop C o.op o.type env' w (fun v w' => stabK (memN i xs) (Rel w w') (stabK (memN i ys) (∀ w1, Rel w w1 → vop C o.op o.type env' w1 (fun v1 w2 => v1 = v ∧ w2 = w1) (fun _ _ => False)) (putK C.n o.dst v env' fun env'' => vcOpsX C Rel ops xs ys rest env'' w' K Z))) Z)
      (fun env' => putK C.n o.dst undef env' fun env'' => vcOpsX C Rel ops xs ys rest env'' w K Z) := rfl
theorem vop_at {C : Cx} (hT : TabOk C.P C.T) {o : Oper} {env : Env} {a : Act} (hs : Sat env a.tmps) {w : World} {v : Value} (hq : quietOp C.T o.op = true)
    (h : vop C o.op o.type env w (fun u w2 => u = v ∧ w2 = w) (fun _ _ => False)) : (Oper.semAt C.r a.eval o).run C.P w = .ok (.value v) w := by
  rcases vop_cases hT hs h with ⟨s, h2, u, w', hr, rfl, rfl⟩ | ⟨hf, _⟩ | ⟨hf, _⟩ | ⟨hf, _⟩ | ⟨hf, _⟩
  · rw [h2]; simp [hr]
  · simp [hq] at hf
  · simp [hq] at hf
  · simp [hq] at hf
  · simp [hq] at hf
theorem vcOpsX_sound {C : Cx} (hT : TabOk C.P C.T) {Rel : World → World → Prop} {ops : List Oper} {xs ys : List Nat} {Q : Exit → Act → World → Prop} {K : Env → World → Prop} {Z : List PanicEntry → World → Prop} {ds : List Deferred}
    (hQ : ∀ env (a : Act) w, Sat env a.tmps → a.tmps.size = C.n → a.defers = ds → K env w → Q .normal a w) (hZ : ∀ (a : Act) w ch, a.tmps.size = C.n → a.defers = ds → Z ch w → Q (.panic ch) a w) :
    ∀ {l : List Nat} {env : Env} {a : Act} {w : World}, Sat env a.tmps → a.tmps.size = C.n → a.defers = ds → vcOpsX C Rel ops xs ys l env w K Z → Good C ops xs ys Rel Q (withOps ops l) a w
  | [], env, a, w, hs, hn, hd, h => hQ env a w hs hn hd h
  | i :: rest, env, a, w, hs, hn, hd, h => by
    rw [vcOpsX_cons] at h
    obtain ⟨o, ho, h⟩ := opK_sound h
    rw [withOps_cons ho]
    simp only [Good, OpE]
    rcases guardK_sound h hs with ⟨hw, env', hs', h'⟩ | ⟨hw, env', hs', h'⟩
    · rw [if_pos hw]
      cases hq : quietOp C.T o.op with
      | true =>
        rw [if_pos rfl]
        obtain ⟨v, h1, h2⟩ := vop_steady hT hs' hq h'
        obtain ⟨_, h2⟩ := stabK_sound h2
        obtain ⟨hst, h2⟩ := stabK_sound h2
        refine ⟨v, fun w1 hr => ?_, ?_⟩
        · cases hrd : readsOp o.op with
          | false => exact h1 w1 fun h => by simp [hrd] at h
          | true =>
            rcases hr hrd with ⟨hi, hrel⟩ | rfl
            · exact vop_at hT hs' hq (hst (memN_iff.2 hi) w1 hrel)
            · exact h1 w1 fun _ => Ext.refl _
        · obtain ⟨env'', h3, h4, h5, h6⟩ := putK_sound h2 hs' hn
          exact vcOpsX_sound hT hQ hZ h3 h4 (h5.trans hd) h6
      | false =>
        rw [if_neg (by simp)]
        refine vop_sound hT hs' h' (fun v w' hk => ?_) (fun ch w' hz => hZ a w' ch hn hd hz)
        obtain ⟨h1, h2⟩ := stabK_sound hk
        refine ⟨fun hi => h1 (memN_iff.2 hi), ?_⟩
        obtain ⟨env'', h3, h4, h5, h6⟩ := putK_sound (stabK_sound h2).2 hs' hn
        exact vcOpsX_sound hT hQ hZ h3 h4 (h5.trans hd) h6
    · rw [if_neg (by simp [hw])]
      obtain ⟨env'', h3, h4, h5, h6⟩ := putK_sound h' hs' hn
      exact vcOpsX_sound hT hQ hZ h3 h4 (h5.trans hd) h6
theorem draw_vcX {C : Cx} (hT : TabOk C.P C.T) (hm : C.P.follows .mixedOrders = true) {id : Nat} {ops : Array Oper} {env : Env} {ds : List Deferred} {w : World} {Q : Post} (Rel : World → World → Prop) (hR : ∀ a b c : World, Rel a b → Rel b c → Rel a c) (xs ys π : List Nat)
    (hok : orderOk C.T ops.toList xs ys π = true)
    (h : ∀ w1, Drew w w1 → vcOpsX C Rel ops.toList xs ys π env w1 (fun env' w' => pruneK env' C.live fun e' => Q .normal e' ds w') (fun ch w' => Q (.panic ch) [] ds w')) :
    SemC C (.region id ops true) env ds w Q := by
  refine ⟨fun a hs hn hd => ?_⟩
  simp only [orderOk, Bool.and_eq_true, decide_eq_true_eq] at hok
  obtain ⟨⟨⟨⟨⟨ht, hp⟩, hall⟩, hlen⟩, hnodup⟩, hlts⟩ := hok
  have hmem : ∀ i, i < ops.toList.length → i ∈ π := fun i hi => by simpa using List.all_eq_true.1 hall i (by simpa using hi)
  have key := h { w with drawn := w.drawn + 1 } ⟨rfl, rfl, rfl, rfl, Nat.le_refl _, fun _ _ => rfl⟩
  let Q' : Exit → Act → World → Prop := fun e a' w' => a'.tmps.size = C.n ∧ match e with
    | .panic ch => Q (.panic ch) [] a'.defers w'
    | e => ∃ env', Sat env' a'.tmps ∧ Q e env' a'.defers w'
  refine wpIn_mono (Q := Q') ?_ (fun e a' w' hq => ?_)
  · refine wpIn_region_any hm ?_
    have hg : Good C ops.toList xs ys Rel Q' (withOps ops.toList π) a { w with drawn := w.drawn + 1 } := by
      refine vcOpsX_sound hT (ds := ds) (fun env' a' w' h1 h2 h3 h4 => ?_) (fun a' w' ch h1 h2 h3 => ?_) hs hn hd key
      · obtain ⟨e', h5, h6⟩ := pruneK_sound h4
        exact ⟨h2, e', fun t v ht => h1 t v (h5 t v ht), h3 ▸ h6⟩
      · exact ⟨h1, h2 ▸ h3⟩
    have hlt : ∀ i ∈ π, i < ops.toList.length := fun i hi => by simpa using List.all_eq_true.1 hlts i hi
    have := Good.any (C := C) (ops := ops.toList) (xs := xs) (ys := ys) (Rel := Rel) (Q := Q') hR (fun d v ch a w hq => by
      obtain ⟨h1, h2⟩ := hq
      refine ⟨?_, ?_⟩
      · cases d <;> simpa [Act.put] using h1
      · cases d <;> exact h2) ops.size π (Array.replicate ops.size false) a { w with drawn := w.drawn + 1 } (by simp [hlen]) hnodup (by simp) (fun i hi => ?_) hlt (fun i o ho hl => ?_) ht hp hg
    · simpa using this
    · have : i < ops.size := by simpa using hi
      simp [Array.getD, this, hmem i hi]
    · have : i < ops.size := by simpa using (List.getElem?_eq_some_iff.1 ho).1
      simp [Array.getD, this] at hl
  · obtain ⟨h1, h2⟩ := hq
    cases e with
    | panic ch => exact ⟨h1, [], Sat.nil _, h2⟩
    | _ => exact ⟨h1, h2⟩
end Go.Proofs.YtffaffojkfalhaaGreatDoor
