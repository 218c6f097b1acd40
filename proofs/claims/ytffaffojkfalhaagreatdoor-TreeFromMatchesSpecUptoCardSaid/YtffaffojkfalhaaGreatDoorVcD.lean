/-
  Regions and code: the conditions, and that they suffice; a function's body.
-/
import Derived.Test.YtffaffojkfalhaaGreatDoorVcC
import Derived.RangeFuncLeaves
import Derived.RangeFuncRecord
namespace Go.Proofs.YtffaffojkfalhaaGreatDoor
open Go Go.RowKit

def putK (n : Nat) (d : Option Tmp) (v : Value) (env : Env) (k : Env → Prop) : Prop :=
  match d with
  | none => k env
  | some d => (match Nat.ble (d + 1) n with | true => k ((d, v) :: env) | false => False)
theorem putK_sound {n : Nat} {d : Option Tmp} {v : Value} {env : Env} {k : Env → Prop} {a : Act} (h : putK n d v env k) (hs : Sat env a.tmps) (hn : a.tmps.size = n) :
    ∃ env', Sat env' (a.put d v).tmps ∧ (a.put d v).tmps.size = n ∧ (a.put d v).defers = a.defers ∧ k env' := by
  unfold putK at h
  split at h
  · exact ⟨env, hs, hn, rfl, h⟩
  · rename_i d
    split at h
    · rename_i hb
      have hlt : d < a.tmps.size := by rw [hn]; exact Nat.le_of_ble_eq_true hb
      exact ⟨_, hs.put hlt v, by simp [Act.put, hn], rfl, h⟩
    · exact h.elim
def dstK : List Oper → Nat → (Nat → Prop) → Prop
  | [], _, _ => False
  | o :: _, 0, k => (match o.dst with | some s => k s | none => False)
  | _ :: r, j + 1, k => dstK r j k
theorem dstK_sound {l : List Oper} {j : Nat} {k : Nat → Prop} (h : dstK l j k) : ∃ o s, l[j]? = some o ∧ o.dst = some s ∧ k s := by
  induction l generalizing j with
  | nil => exact h.elim
  | cons o r ih =>
    cases j with
    | zero =>
      simp only [dstK] at h
      split at h
      · rename_i s hs; exact ⟨o, s, rfl, hs, h⟩
      · exact h.elim
    | succ j => obtain ⟨o', s, h1, h2, h3⟩ := ih h; exact ⟨o', s, h1, h2, h3⟩
def guardK (ops : List Oper) (env : Env) (g : Option (Nat × Bool)) (ex sk : Env → Prop) : Prop :=
  match g with
  | none => ex env
  | some (j, want) => dstK ops j fun s => getK env s fun v => (match v with
    | .bool b => condG 0 b fun b' => (match b', want with
      | true, true => ex ((s, .bool true) :: env)
      | false, false => ex ((s, .bool false) :: env)
      | true, false => sk ((s, .bool true) :: env)
      | false, true => sk ((s, .bool false) :: env))
    | .tuple _ => sk env
    | _ => False)
theorem guardK_sound {ops : List Oper} {env : Env} {o : Oper} {ex sk : Env → Prop} {tm : Array Value} (h : guardK ops env o.guard ex sk) (hs : Sat env tm) :
    (Region.wanted o (yielded ops.toArray tm) = true ∧ ∃ env', Sat env' tm ∧ ex env') ∨ (Region.wanted o (yielded ops.toArray tm) = false ∧ ∃ env', Sat env' tm ∧ sk env') := by
  unfold guardK at h
  split at h
  · rename_i hg
    exact .inl ⟨by simp [Region.wanted, hg], env, hs, h⟩
  · rename_i j want hg
    replace h := dstK_sound h; obtain ⟨oj, s, ho, hd, h⟩ := h
    replace h := getK_iff.1 h; obtain ⟨v, hv, h⟩ := h
    have htm := hs s v hv
    have hy : yielded ops.toArray tm j = match v with | .bool b => some b | _ => none := by
      have ho' : ops.toArray[j]? = some oj := by simpa using ho
      simp only [yielded, ho', Option.bind_some, hd, htm]
      cases v <;> rfl
    split at h
    · rename_i b
      replace h := condG_eq.1 h
      cases b <;> cases want <;> simp only at h
      · exact .inl ⟨by simp [Region.wanted, hg, hy], _, hs.cons htm, h⟩
      · exact .inr ⟨by simp [Region.wanted, hg, hy], _, hs.cons htm, h⟩
      · exact .inr ⟨by simp [Region.wanted, hg, hy], _, hs.cons htm, h⟩
      · exact .inl ⟨by simp [Region.wanted, hg, hy], _, hs.cons htm, h⟩
    · exact .inr ⟨by simp [Region.wanted, hg, hy], env, hs, h⟩
    · exact h.elim
/- The recursors are written out: what 'whnf' leaves of the rest is then the same term that the kernel leaves. -/
def opsNil : Env → World → (Env → World → Prop) → (List PanicEntry → World → Prop) → Prop := fun env w K _ => K env w
def opsStep (C : Cx) (ops : List Oper) (o : Oper) (_ : List Oper) (r : Env → World → (Env → World → Prop) → (List PanicEntry → World → Prop) → Prop) : Env → World → (Env → World → Prop) → (List PanicEntry → World → Prop) → Prop :=
  fun env w K Z => guardK ops env o.guard
      (fun env' => vop C o.op o.type env' w (fun v w' => putK C.n o.dst v env' fun env'' => r env'' w' K Z) Z)
      (fun env' => putK C.n o.dst undef env' fun env'' => r env'' w K Z)
noncomputable def vcOps (C : Cx) (ops : List Oper) (l : List Oper) : Env → World → (Env → World → Prop) → (List PanicEntry → World → Prop) → Prop :=
  List.rec (motive := fun _ => Env → World → (Env → World → Prop) → (List PanicEntry → World → Prop) → Prop) opsNil (opsStep C ops) l
theorem vcOps_cons {C : Cx} {ops : List Oper} {o : Oper} {rest : List Oper} {env : Env} {w : World} {K : Env → World → Prop} {Z : List PanicEntry → World → Prop} : vcOps C ops (o :: rest) env w K Z = guardK ops env o.guard
      (fun env' => vop C o.op o.type env' w (fun v w' => putK C.n o.dst v env' fun env'' => vcOps C ops rest env'' w' K Z) Z)
      (fun env' => putK C.n o.dst undef env' fun env'' => vcOps C ops rest env'' w K Z) := rfl
theorem vcOps_sound {C : Cx} (hT : TabOk C.P C.T) {ops : List Oper} {Q : Exit → Act → World → Prop} {K : Env → World → Prop} {Z : List PanicEntry → World → Prop} {ds : List Deferred}
    (hQ : ∀ env (a : Act) w, Sat env a.tmps → a.tmps.size = C.n → a.defers = ds → K env w → Q .normal a w) (hZ : ∀ (a : Act) w ch, a.tmps.size = C.n → a.defers = ds → Z ch w → Q (.panic ch) a w) :
    ∀ {l : List Oper} {env : Env} {a : Act} {w : World}, Sat env a.tmps → a.tmps.size = C.n → a.defers = ds → vcOps C ops l env w K Z → wpListIn (Fr C.r) 0 C.P ops.toArray Q l a w
  | [], env, a, w, hs, hn, hd, h => hQ env a w hs hn hd h
  | o :: rest, env, a, w, hs, hn, hd, h => by
    unfold wpListIn
    rw [vcOps_cons] at h
    rcases guardK_sound h hs with ⟨hw, env', hs', h'⟩ | ⟨hw, env', hs', h'⟩
    · rw [if_pos hw]
      refine vop_sound hT hs' h' (fun v w' hk => ?_) (fun ch w' hz => hZ a w' ch hn hd hz)
      obtain ⟨env'', h1, h2, h3, h4⟩ := putK_sound hk hs' hn
      exact vcOps_sound hT hQ hZ h1 h2 (h3.trans hd) h4
    · rw [if_neg (by simp [hw])]
      refine ⟨fun _ _ => trivial, ?_⟩
      obtain ⟨env'', h1, h2, h3, h4⟩ := putK_sound h' hs' hn
      exact vcOps_sound hT hQ hZ h1 h2 (h3.trans hd) h4
def pruneK (env : Env) : List Nat → (Env → Prop) → Prop
  | [], k => k []
  | t :: ts, k => match get? env t with
    | some v => pruneK env ts fun e => k ((t, v) :: e)
    | none => pruneK env ts k
theorem get?_cons {s : Nat} {v : Value} {env : Env} {t : Nat} {u : Value} (h : get? ((s, v) :: env) t = some u) : (s = t ∧ v = u) ∨ get? env t = some u := by
  simp only [get?] at h
  cases e : Nat.beq s t with
  | true => simp only [e] at h; cases h; exact .inl ⟨Nat.eq_of_beq_eq_true e, rfl⟩
  | false => simp only [e] at h; exact .inr h
theorem pruneK_sound {env : Env} : ∀ {ts : List Nat} {k : Env → Prop}, pruneK env ts k → ∃ e', (∀ t v, get? e' t = some v → get? env t = some v) ∧ k e'
  | [], k, h => ⟨[], fun t v h => by simp [get?] at h, h⟩
  | t :: ts, k, h => by
    simp only [pruneK] at h
    split at h
    · rename_i v hv
      obtain ⟨e', h1, h2⟩ := pruneK_sound h
      refine ⟨_, fun s u hu => ?_, h2⟩
      rcases get?_cons hu with ⟨rfl, rfl⟩ | hu
      · exact hv
      · exact h1 s u hu
    · exact pruneK_sound h

abbrev Post := Exit → Env → List Deferred → World → Prop
/-- What the code comes to, from every frame that fits. -/
structure SemC (C : Cx) (c : Code) (env : Env) (ds : List Deferred) (w : World) (Q : Post) : Prop where
  out : ∀ a : Act, Sat env a.tmps → a.tmps.size = C.n → a.defers = ds →
    c.wpIn (Fr C.r) 0 C.P (fun e a' w' => a'.tmps.size = C.n ∧ ∃ env', Sat env' a'.tmps ∧ Q e env' a'.defers w') a w
theorem SemC.mono {C : Cx} {c : Code} {env : Env} {ds : List Deferred} {w : World} {Q Q' : Post} (h : SemC C c env ds w Q) (hq : ∀ e env ds w, Q e env ds w → Q' e env ds w) : SemC C c env ds w Q' :=
  ⟨fun a hs hn hd => wpIn_mono (h.out a hs hn hd) fun _ _ _ ⟨h1, env', h2, h3⟩ => ⟨h1, env', h2, hq _ _ _ _ h3⟩⟩
abbrev Den := Env → List Deferred → World → Post → Prop
def cSkip : Den := fun env ds w Q => Q .normal env ds w
def cSeq (_ _ : Code) (x y : Den) : Den := fun env ds w Q => x env ds w fun e env' ds' w' => (match e with
    | .normal => y env' ds' w' Q
    | e => Q e env' ds' w')
def cCond (c : Operand) (_ _ : Code) (x y : Den) : Den := fun env ds w Q => withV env c fun v => (match v with
    | .bool b => condG 0 b fun b' => (match b' with
      | true => x env ds w Q
      | false => y env ds w Q)
    | _ => False)
def cBlock (id : Nat) (_ : Code) (c : Den) : Den := fun env ds w Q => c env ds w fun e env' ds' w' => (match e with
    | .exit id' => (match Nat.beq id' id with
      | true => Q .normal env' ds' w'
      | false => Q (.exit id') env' ds' w')
    | e => Q e env' ds' w')
noncomputable def cRegion (C : Cx) (id : Nat) (ops : Array Oper) (dr : Bool) : Den := fun env ds w Q => (match dr with
    | false => vcOps C ops.toList ops.toList env w (fun env' w' => pruneK env' C.live fun e' => Q .normal e' ds w') (fun ch w' => Q (.panic ch) [] ds w')
    | true => SemC C (.region id ops true) env ds w Q)
noncomputable def vcCode (C : Cx) (c : Code) : Den :=
  Code.rec (motive := fun _ => Den) (skip := cSkip) (seq := cSeq) (cond := cCond) (block := cBlock) (region := cRegion C) (label := fun _ => cSkip)
    (exit := fun id env ds w Q => Q (.exit id) env ds w) (ret := fun env ds w Q => Q .ret env ds w)
    (loop := fun c _ => SemC C (.loop c)) (rangeFunc := fun f ps x y _ _ => SemC C (.rangeFunc f ps x y)) (scope := fun c _ => SemC C (.scope c)) (goto := fun l => SemC C (.goto l)) (refuse := fun y => SemC C (.refuse y)) c
section
variable {C : Cx} {env : Env} {ds : List Deferred} {w : World} {Q : Post}
theorem vcCode_seq {x y : Code} : vcCode C (.seq x y) env ds w Q = vcCode C x env ds w fun e env' ds' w' => (match e with
    | .normal => vcCode C y env' ds' w' Q
    | e => Q e env' ds' w') := rfl
theorem vcCode_cond {c : Operand} {x y : Code} : vcCode C (.cond c x y) env ds w Q = withV env c fun v => (match v with
    | .bool b => condG 0 b fun b' => (match b' with
      | true => vcCode C x env ds w Q
      | false => vcCode C y env ds w Q)
    | _ => False) := rfl
theorem vcCode_block {id : Nat} {c : Code} : vcCode C (.block id c) env ds w Q = vcCode C c env ds w fun e env' ds' w' => (match e with
    | .exit id' => (match Nat.beq id' id with
      | true => Q .normal env' ds' w'
      | false => Q (.exit id') env' ds' w')
    | e => Q e env' ds' w') := rfl
end
theorem vcCode_sound {C : Cx} (hT : TabOk C.P C.T) : ∀ {c : Code} {env : Env} {ds : List Deferred} {w : World} {Q : Post}, vcCode C c env ds w Q → SemC C c env ds w Q := by
  intro c
  induction c with
  | skip => exact fun h => ⟨fun a hs hn hd => wpIn_skip ⟨hn, _, hs, hd ▸ h⟩⟩
  | label l => exact fun h => ⟨fun a hs hn hd => wpIn_label ⟨hn, _, hs, hd ▸ h⟩⟩
  | exit id => exact fun h => ⟨fun a hs hn hd => wpIn_exit ⟨hn, _, hs, hd ▸ h⟩⟩
  | ret => exact fun h => ⟨fun a hs hn hd => wpIn_ret ⟨hn, _, hs, hd ▸ h⟩⟩
  | seq x y ihx ihy =>
    intro env ds w Q h
    rw [vcCode_seq] at h
    refine ⟨fun a hs hn hd => ?_⟩
    refine wpIn_seq (wpIn_mono ((ihx h).out a hs hn hd) fun e a' w' ⟨h1, env', h2, h3⟩ => ?_)
    cases e with
    | normal => exact (ihy h3).out a' h2 h1 rfl
    | _ => exact ⟨h1, env', h2, h3⟩
  | cond c x y ihx ihy =>
    intro env ds w Q h
    rw [vcCode_cond] at h
    refine ⟨fun a hs hn hd => ?_⟩
    replace h := withV_sound h hs
    split at h
    · rename_i b hb
      replace h := condG_eq.1 h
      cases b with
      | true => exact wpIn_cond_true hb ((ihx h).out a hs hn hd)
      | false => exact wpIn_cond_false hb ((ihy h).out a hs hn hd)
    · exact h.elim
  | block id c ih =>
    intro env ds w Q h
    rw [vcCode_block] at h
    refine ⟨fun a hs hn hd => ?_⟩
    refine wpIn_block (wpIn_mono ((ih h).out a hs hn hd) fun e a' w' ⟨h1, env', h2, h3⟩ => ?_)
    cases e with
    | exit id' =>
      simp only at h3
      simp only [Exit.inBlock]
      cases e : Nat.beq id' id with
      | true => rw [if_pos (Nat.eq_of_beq_eq_true e)]; simp only [e] at h3; exact ⟨h1, env', h2, h3⟩
      | false => rw [if_neg (Nat.ne_of_beq_eq_false e)]; simp only [e] at h3; exact ⟨h1, env', h2, h3⟩
    | _ => exact ⟨h1, env', h2, h3⟩
  | region id ops dr =>
    intro env ds w Q h
    cases dr with
    | true => exact h
    | false =>
      refine ⟨fun a hs hn hd => ?_⟩
      refine wpIn_region_list ?_
      have := vcOps_sound (ops := ops.toList) (ds := ds) hT (Q := fun e a' w' => a'.tmps.size = C.n ∧ ∃ env', Sat env' a'.tmps ∧ Q e env' a'.defers w') (fun env' a' w' h1 h2 h3 h4 => ?_) (fun a' w' ch h1 h2 h3 => ?_) hs hn hd h
      · simpa using this
      · obtain ⟨e', h5, h6⟩ := pruneK_sound h4
        exact ⟨h2, e', fun t v ht => h1 t v (h5 t v ht), h3 ▸ h6⟩
      · exact ⟨h1, [], Sat.nil _, h2 ▸ h3⟩
  | loop c ih => exact fun h => h
  | rangeFunc f ps x y ihx ihy => exact fun h => h
  | scope c ih => exact fun h => h
  | goto l => exact fun h => h
  | refuse why => exact fun h => h

/-! ### loops -/
def subK (big : Env) : Env → Prop
  | [] => True
  | (t, v) :: r => get? big t = some v ∧ subK big r
theorem subK_sound {big : Env} : ∀ {e : Env}, subK big e → ∀ t v, get? e t = some v → get? big t = some v
  | [], _, t, v, h => by simp [get?] at h
  | (s, u) :: r, ⟨h1, h2⟩, t, v, h => by
    rcases get?_cons h with ⟨rfl, rfl⟩ | h
    · exact h1
    · exact subK_sound h2 t v h
theorem wpIn_loop_ghost {F : Fence} {n : Nat} {P : Program} {Q : Exit → Act → World → Prop} {a : Act} {w : World} {c : Code} {S : Type} (I : S → Act → World → Prop) (μ : S → World → Nat) (s : S) (h₀ : I s a w)
    (round : ∀ s a w, I s a w → c.wpIn F n P (Exit.then (fun a' w' => ∃ s', I s' a' w' ∧ μ s' w' < μ s w) Q) a w) : (Code.loop c).wpIn F n P Q a w := by
  intro b k cs hro hb hr
  have key : ∀ j s a w, μ s w = j → I s a w →
      ∃ e a' w', Q e a' w' ∧ ArrivesIn (Machine.fenced P F) P (lone (b.atR a (.code c :: .inLoop c :: k)) cs w) b k cs e a' w' := by
    intro j
    induction j using Nat.strongRecOn with
    | _ j ih =>
      intro s a w hn hI
      obtain ⟨e, a₁, w₁, hq, harr⟩ := round s a w hI b (.inLoop c :: k) cs hro hb hr
      cases e with
      | normal =>
        obtain ⟨s₁, hI₁, hlt⟩ := hq
        obtain ⟨e₂, a₂, w₂, hq₂, harr₂⟩ := ih (μ s₁ w₁) (hn ▸ hlt) s₁ a₁ w₁ rfl hI₁
        exact ⟨e₂, a₂, w₂, hq₂, .of_steps (StepsIn.trans harr (.one (fenced_calm hb hr rfl) stepR_inLoop)) harr₂⟩
      | exit id => exact ⟨_, a₁, w₁, hq, .pass (x := .inLoop c) rfl (fun _ _ => .inl (by simp)) harr⟩
      | goto l => exact ⟨_, a₁, w₁, hq, .pass (x := .inLoop c) rfl (fun _ _ => .inl (by simp)) harr⟩
      | ret => exact ⟨_, a₁, w₁, hq, .pass (x := .inLoop c) rfl (fun _ _ => .inl (by simp)) harr⟩
      | panic ch => exact ⟨_, a₁, w₁, hq, .pass (x := .inLoop c) rfl (fun _ _ => .inl (by simp)) harr⟩
      | outgrown => exact ⟨_, a₁, w₁, hq, .pass (x := .inLoop c) rfl (fun _ _ => .inl (by simp)) harr⟩
  obtain ⟨e, a', w', hq, harr⟩ := key _ s a w rfl h₀
  exact ⟨e, a', w', hq, .of_steps (.one (fenced_calm hb hr rfl) stepR_loop) harr⟩
/-- A loop: 'vars s' are the slots that it turns; those of 'ks' stay. -/
theorem loop_inv {C : Cx} (hT : TabOk C.P C.T) {c : Code} {env : Env} {ds : List Deferred} {w : World} {Q : Post} {S : Type} (ks : List Nat) (vars : S → Env)
    (I : S → World → Prop) (μ : S → World → Nat) (s0 : S)
    (h : pruneK env ks fun keep => subK env (vars s0) ∧ I s0 w ∧ ∀ s w, I s w → vcCode C c (vars s ++ keep) ds w fun e env' ds' w' => (match e with
      | .normal => ds' = ds ∧ subK env' keep ∧ ∃ s', subK env' (vars s') ∧ I s' w' ∧ μ s' w' < μ s w
      | e => Q e env' ds' w')) : SemC C (.loop c) env ds w Q := by
  obtain ⟨keep, hk, h0, hI, hr⟩ := pruneK_sound h
  have app : ∀ {e1 e2 : Env} {t : Nat} {v : Value}, get? (e1 ++ e2) t = some v → get? e1 t = some v ∨ get? e2 t = some v := by
    intro e1 e2 t v h
    induction e1 with
    | nil => exact .inr h
    | cons p r ih =>
      obtain ⟨s, u⟩ := p
      simp only [List.cons_append, get?] at h ⊢
      cases e : Nat.beq s t with
      | true => simp only [e] at h ⊢; exact .inl h
      | false => simp only [e] at h ⊢; exact ih h
  refine ⟨fun a hs hn hd => ?_⟩
  refine wpIn_loop_ghost (fun s a w => a.tmps.size = C.n ∧ a.defers = ds ∧ Sat (vars s ++ keep) a.tmps ∧ I s w) μ s0
    ⟨hn, hd, fun t v h => (app h).elim (fun h => hs t v (subK_sound h0 t v h)) (fun h => hs t v (hk t v h)), hI⟩ ?_
  rintro s a w ⟨hn, hd, hs, hI⟩
  refine wpIn_mono ((vcCode_sound hT (hr s w hI)).out a hs hn hd) fun e a' w' ⟨h1, env', h2, h3⟩ => ?_
  cases e with
  | normal =>
    obtain ⟨h4, h8, s', h5, h6, h7⟩ := h3
    exact ⟨s', ⟨h1, h4, fun t v h => (app h).elim (fun h => h2 t v (subK_sound h5 t v h)) (fun h => h2 t v (subK_sound h8 t v h)), h6⟩, h7⟩
  | _ => exact ⟨h1, env', h2, h3⟩

/-! ### a function -/
def resV (C : Cx) (x : ResultVar) (env : Env) (w : World) (k : Value → Prop) : Prop :=
  match x with
  | .tmp t => getK env t k
  | .cell t ty => getK env t fun v => loadV C ty v w fun u _ => k u
def resVs (C : Cx) (env : Env) (w : World) : List ResultVar → (List Value → Prop) → Prop
  | [], k => k []
  | x :: xs, k => resV C x env w fun v => resVs C env w xs fun vs => k (v :: vs)
def resK (C : Cx) (xs : List ResultVar) (env : Env) (w : World) (k : Value → Prop) : Prop :=
  match xs with
  | [x] => resV C x env w k
  | xs => resVs C env w xs fun vs => k (.tuple vs.toArray)
def resSem (tm : Array Value) (x : ResultVar) : Sem Value := match x with | .tmp t => pure (tm.getD t undef) | .cell a t => do loadVar t (← asAddr (tm.getD a undef))
theorem results_eq (fn : Func) (tm : Array Value) : results fn tm = (do let vs ← fn.results.mapM (resSem tm); pure (if h : vs.size = 1 then vs[0] else .tuple vs)) := rfl
theorem resV_sound {C : Cx} (hT : TabOk C.P C.T) {x : ResultVar} {env : Env} {w : World} {k : Value → Prop} {tm : Array Value} (hs : Sat env tm) (h : resV C x env w k) :
    ∃ v, (resSem tm x).run C.P w = .ok v w ∧ k v := by
  cases x with
  | tmp t =>
    obtain ⟨v, hv, hk⟩ := getK_iff.1 h
    have := hs t v hv
    exact ⟨v, by simp [resSem, Array.getD_eq_getD_getElem?, this], hk⟩
  | cell t ty =>
    obtain ⟨v, hv, hk⟩ := getK_iff.1 h
    have := hs t v hv
    obtain ⟨a, u, rfl, hr, hk⟩ := loadV_var hT hk
    exact ⟨u, by simp [resSem, Array.getD_eq_getD_getElem?, this, asAddr, hr], hk⟩
theorem resVs_sound {C : Cx} (hT : TabOk C.P C.T) {env : Env} {w : World} {tm : Array Value} (hs : Sat env tm) : ∀ {xs : List ResultVar} {k : List Value → Prop}, resVs C env w xs k →
    ∃ vs, (xs.mapM (resSem tm)).run C.P w = .ok vs w ∧ vs.length = xs.length ∧ k vs
  | [], k, h => ⟨[], by simp, rfl, h⟩
  | x :: xs, k, h => by
    obtain ⟨v, hv, h⟩ := resV_sound hT hs h
    obtain ⟨vs, hvs, hl, hk⟩ := resVs_sound hT hs h
    refine ⟨v :: vs, ?_, by simp [hl], hk⟩
    rw [List.mapM_cons]
    simp [hv, hvs]
theorem resK_sound {C : Cx} (hT : TabOk C.P C.T) {fn : Func} {env : Env} {w : World} {tm : Array Value} (hs : Sat env tm) {k : Value → Prop} (h : resK C fn.results.toList env w k) :
    ∃ v, (results fn tm).run C.P w = .ok v w ∧ k v := by
  rw [results_eq, ← Array.toArray_toList (xs := fn.results), Array.mapM_eq_mapM_toList]
  unfold resK at h
  split at h
  · rename_i x hx
    obtain ⟨v, hv, hk⟩ := resV_sound hT hs h
    refine ⟨v, ?_, hk⟩
    rw [hx]
    simp [hv]
  · rename_i hne
    obtain ⟨vs, hvs, hl, hk⟩ := resVs_sound hT hs h
    refine ⟨_, ?_, hk⟩
    simp only [Sem.run_bind, Sem.run_map, hvs, Result.andThen_ok, Sem.run_pure]
    rw [dif_neg]
    intro h1
    have : fn.results.toList.length = 1 := by simpa [hl] using h1
    obtain ⟨x, hx⟩ := List.length_eq_one_iff.1 this
    exact hne x hx
def argEnv : Nat → List Value → Env
  | _, [] => []
  | i, v :: r => (i, v) :: argEnv (i + 1) r
theorem argEnv_sat {l : List Value} {m : Nat} : Sat (argEnv 0 l) (l.toArray ++ Array.replicate m undef) := by
  have key : ∀ (l pre : List Value) t v, get? (argEnv pre.length l) t = some v → (pre ++ l)[t]? = some v := by
    intro l
    induction l with
    | nil => intro pre t v h; simp [argEnv, get?] at h
    | cons u r ih =>
      intro pre t v h
      rcases get?_cons h with ⟨rfl, rfl⟩ | h
      · simp
      · have := ih (pre ++ [u]) t v (by simpa using h)
        simpa using this
  intro t v h
  have := key l [] t v h
  simp only [List.nil_append] at this
  have hlt : t < l.length := (List.getElem?_eq_some_iff.1 this).1
  rw [Array.getElem?_append_left (by simpa using hlt)]
  simpa using this
/-- the marks of ranges over functions, taken at the function's end -/
def marksK : List Deferred → World → (World → Prop) → Prop
  | [], w, k => k w
  | d :: ds, w, k => match d.target with
    | .collected D => w.heap[D]? = some (.deferred (some [])) ∧ ∀ w', Tw D w w' → marksK ds w' k
    | _ => False
theorem tw_putObj {w : World} {D : Nat} {o o' : Obj} (h : w.heap[D]? = some o) (ho : ∀ c t f, o ≠ .cells c t f) : Tw D w (w.putObj D o') := by
  refine ⟨rfl, rfl, rfl, by simp [World.putObj], fun k hk => World.putObj_heap_other (by omega), fun k c t f hk => ?_⟩
  have hne : k ≠ D := by
    intro e; subst e
    rw [h] at hk
    cases hk
    exact ho c t f rfl
  rw [World.putObj_heap_other hne]; exact hk
theorem marksK_sound {P : Program} {fn : Func} {tm : Array Value} {R : Ending → World → Prop} {u : FrameMode} (hu : u ≠ .run) : ∀ {ds : List Deferred} {w : World} {k : World → Prop}, marksK ds w k → (∀ w', k w' → LeavesInM (Fr none) 0 P fn tm R [] u w') → LeavesInM (Fr none) 0 P fn tm R ds u w
  | [], w, k, h, hk => hk w h
  | d :: ds, w, k, h, hk => by
    unfold marksK at h
    split at h
    · rename_i D hD
      obtain ⟨h1, h2⟩ := h
      refine ⟨hu, .inl ⟨D, _, hD, run_takeDeferred h1, ?_⟩⟩
      exact marksK_sound hu (h2 _ (tw_putObj h1 (fun _ _ _ => nofun))) hk
    · exact h.elim
def finQ (C : Cx) (rs : List ResultVar) (K : Value → World → Prop) (Z : List PanicEntry → World → Prop) : Post := fun e env ds w =>
  match e with
  | .normal => marksK ds w fun w' => resK C rs env w' fun v => K v w'
  | .ret => marksK ds w fun w' => resK C rs env w' fun v => K v w'
  | .panic ch => marksK ds w fun w' => Z ch w'
  | _ => False
theorem cal_of_vc {P : Program} {T : List TD} (hT : TabOk P T) {f : FuncId} {fn : Func} {c : Code} {args : List Value} {w : World} {K : Value → World → Prop} {Z : List PanicEntry → World → Prop}
    (hf : P.funcs[f]? = some fn) (hb : fn.body = some c) (hname : (fn.name == "runtime.NumGoroutine") = false) (n : Nat) (hn : fn.ntmps = n) (ha : args.length ≤ n) (live : List Nat)
    (h : vcCode ⟨P, T, n, live, none⟩ c (argEnv 0 args) [] w (finQ ⟨P, T, n, live, none⟩ fn.results.toList K Z)) : Cal P f args.toArray w K Z := by
  refine ⟨.inl ⟨enters_mk hf (by simp [hb]) hname, (callsIn_Fr (r := none) (n := 0)).1 ?_⟩⟩
  refine callsIn_of_wp_marks hf hb trivial ?_
  have hs : Sat (argEnv 0 args) (args.toArray ++ Array.replicate (fn.ntmps - args.toArray.size) undef) := argEnv_sat
  refine wpIn_mono ((vcCode_sound hT h).out { tmps := args.toArray ++ Array.replicate (fn.ntmps - args.toArray.size) undef, defers := [] } hs (by simp; omega) rfl) ?_
  rintro e a w' ⟨h1, env', h2, h3⟩
  have fin : ∀ {ds w}, (marksK ds w fun w' => resK ⟨P, T, n, live, none⟩ fn.results.toList env' w' fun v => K v w') → LeavesInM (Fr none) 0 P fn a.tmps (fun e w' => match e with | .returned v => K v w' | .panicked ch => Z ch w' | .outgrown => False) ds .returning w := by
    intro ds w h
    refine marksK_sound (by simp) h fun w' h => ?_
    obtain ⟨v, hr, hk⟩ := resK_sound (C := ⟨P, T, n, live, none⟩) hT h2 h
    exact ⟨v, hr, hk⟩
  cases e with
  | normal => exact fin h3
  | ret => exact fin h3
  | panic ch => exact marksK_sound (by simp) h3 fun w' h => h
  | exit id => exact h3.elim
  | goto l => exact h3.elim
  | outgrown => exact h3.elim
end Go.Proofs.YtffaffojkfalhaaGreatDoor
