/-
  Files of trees: the whole file (a deferred call that recovers).
-/
import Derived.Test.YtffaffojkfalhaaGreatDoorTreC
import Derived.RecoverIn
namespace Go.Proofs.YtffaffojkfalhaaGreatDoor
open Go Go.RowKit

/-! ### a region whose panics keep the frame -/
theorem Sat.keep {env : Env} {tm : Array Value} {d : Nat} {v : Value} (h : Sat env tm) (hd : ∀ t u, get? env t = some u → t ≠ d) : Sat env (tm.setIfInBounds d v) := by
  intro t u hu
  rw [Array.getElem?_setIfInBounds_ne (fun e => hd t u hu e.symm)]
  exact h t u hu
def noDst (env : Env) (l : List Oper) : Bool := l.all fun o => match o.dst with | none => true | some d => env.all fun p => p.1 != d
theorem noDst_ne {env : Env} {d : Nat} (h : (env.all fun p => p.1 != d) = true) : ∀ t u, get? env t = some u → t ≠ d := by
  induction env with
  | nil => intro t u hu; simp [get?] at hu
  | cons p r ih =>
    obtain ⟨s, x⟩ := p
    simp only [List.all_cons, Bool.and_eq_true] at h
    intro t u hu
    rcases get?_cons hu with ⟨rfl, _⟩ | hu
    · simpa using h.1
    · exact ih h.2 t u hu
theorem Sat.putd {env : Env} {a : Act} {o : Oper} {v : Value} (h : Sat env a.tmps) (hd : (match o.dst with | none => true | some d => env.all fun p => p.1 != d) = true) : Sat env (a.put o.dst v).tmps := by
  cases ho : o.dst with
  | none => exact h
  | some d =>
    rw [ho] at hd
    exact h.keep (noDst_ne hd)
theorem vcOps_keep {C : Cx} (hT : TabOk C.P C.T) {env0 : Env} {ops : List Oper} {Q : Exit → Act → World → Prop} {K : Env → World → Prop} {Z : List PanicEntry → World → Prop} {ds : List Deferred}
    (hQ : ∀ env (a : Act) w, Sat env a.tmps → a.tmps.size = C.n → a.defers = ds → K env w → Q .normal a w) (hZ : ∀ (a : Act) w ch, Sat env0 a.tmps → a.tmps.size = C.n → a.defers = ds → Z ch w → Q (.panic ch) a w) :
    ∀ {l : List Oper} {env : Env} {a : Act} {w : World}, noDst env0 l = true → Sat env0 a.tmps → Sat env a.tmps → a.tmps.size = C.n → a.defers = ds → vcOps C ops l env w K Z → wpListIn (Fr C.r) 0 C.P ops.toArray Q l a w
  | [], env, a, w, _, _, hs, hn, hd, h => hQ env a w hs hn hd h
  | o :: rest, env, a, w, hno, h0, hs, hn, hd, h => by
    unfold noDst at hno
    rw [List.all_cons, Bool.and_eq_true] at hno
    unfold wpListIn
    rw [vcOps_cons] at h
    rcases guardK_sound h hs with ⟨hw, env', hs', h'⟩ | ⟨hw, env', hs', h'⟩
    · rw [if_pos hw]
      refine vop_sound hT hs' h' (fun v w' hk => ?_) (fun ch w' hz => hZ a w' ch h0 hn hd hz)
      obtain ⟨env'', h1, h2, h3, h4⟩ := putK_sound hk hs' hn
      exact vcOps_keep hT hQ hZ hno.2 (h0.putd hno.1) h1 h2 (h3.trans hd) h4
    · rw [if_neg (by simp [hw])]
      refine ⟨fun _ _ => trivial, ?_⟩
      obtain ⟨env'', h1, h2, h3, h4⟩ := putK_sound h' hs' hn
      exact vcOps_keep hT hQ hZ hno.2 (h0.putd hno.1) h1 h2 (h3.trans hd) h4
theorem region_keep {C : Cx} (hT : TabOk C.P C.T) (env0 : Env) {id : Nat} {ops : Array Oper} {env : Env} {ds : List Deferred} {w : World} {Q : Post} (hno : noDst env0 ops.toList = true) (h0 : subK env env0)
    (h : vcOps C ops.toList ops.toList env w (fun env' w' => pruneK env' C.live fun e' => Q .normal e' ds w') (fun ch w' => Q (.panic ch) env0 ds w')) : SemC C (.region id ops false) env ds w Q := by
  refine ⟨fun a hs hn hd => ?_⟩
  refine wpIn_region_list ?_
  have := vcOps_keep (ops := ops.toList) (ds := ds) hT (env0 := env0) (Q := fun e a' w' => a'.tmps.size = C.n ∧ ∃ env', Sat env' a'.tmps ∧ Q e env' a'.defers w') (fun env' a' w' h1 h2 h3 h4 => ?_) (fun a' w' ch h1 h2 h3 h4 => ?_) hno (fun t v ht => hs t v (subK_sound h0 t v ht)) hs hn hd h
  · simpa using this
  · obtain ⟨e', h5, h6⟩ := pruneK_sound h4
    exact ⟨h2, e', fun t v ht => h1 t v (h5 t v ht), h3 ▸ h6⟩
  · exact ⟨h2, env0, h1, h3 ▸ h4⟩

/-! ### 'defer func() { .. }()' -/
theorem region_defer {C : Cx} (hT : TabOk C.P C.T) (hr : C.r = none) {id g d : Nat} {o1 o2 : Oper} {cap : Array Operand} {env : Env} {ds : List Deferred} {w : World} {Q : Post}
    (h1 : o1.op = .makeFunc (.func g) #[] cap) (g1 : o1.guard = none) (d1 : o1.dst = some d) (h2 : o2.op = .defer ⟨.value (.tmp d), #[], #[]⟩) (g2 : o2.guard = none) (d2 : o2.dst = none) (hd : d < C.n)
    (h : withVs env cap.toList fun vs => Q .normal env ({ target := .fn (.func g) vs.toArray, args := #[] } :: ds) w) (hno : (env.all fun p => p.1 != d) = true) : SemC C (.region id #[o1, o2] false) env ds w Q := by
  refine ⟨fun a hs hn hdf => ?_⟩
  refine wpIn_region_list ?_
  have hv : vop C o1.op o1.type env w (fun v w' => (∃ vs : List Value, v = .func (.func g) #[] vs.toArray ∧ Q .normal env ({ target := .fn (.func g) vs.toArray, args := #[] } :: ds) w') ∧ w' = w) (fun _ _ => False) := by
    rw [h1]
    have key : ∀ (l : List Operand) (k : List Value → Prop) (k' : List Value → Prop), (∀ vs, k vs → k' vs) → withVs env l k → withVs env l k' := by
      intro l
      induction l with
      | nil => exact fun k k' hk h => hk _ h
      | cons x l ih =>
        intro k k' hk h
        cases x with
        | tmp t =>
          obtain ⟨v, h3, h4⟩ := getK_iff.1 h
          exact getK_iff.2 ⟨v, h3, ih _ _ (fun vs => hk _) h4⟩
        | const v => exact ih _ _ (fun vs => hk _) h
        | global g => exact ih _ _ (fun vs => hk _) h
        | func f => exact ih _ _ (fun vs => hk _) h
    exact key cap.toList _ _ (fun vs hq => ⟨⟨vs, rfl, hq⟩, rfl⟩) h
  show wpListIn (Fr C.r) 0 C.P #[o1, o2] _ [o1, o2] a w
  unfold wpListIn
  rw [if_pos (by simp [Region.wanted, g1])]
  refine vop_sound hT hs hv (fun v w' hk => ?_) (fun ch w' hz => hz.elim)
  obtain ⟨⟨vs, rfl, hq⟩, rfl⟩ := hk
  unfold wpListIn
  rw [if_pos (by simp [Region.wanted, g2])]
  refine ⟨fun _ _ => trivial, ?_⟩
  have e : (Fr C.r).round = none := by show C.r = none; exact hr
  have ev : (a.put o1.dst (.func (.func g) #[] vs.toArray)).eval (.tmp d) = .func (.func g) #[] vs.toArray := by
    rw [d1]
    have : d < a.tmps.size := by rw [hn]; exact hd
    simp [Act.eval, Act.put, Array.getD_eq_getD_getElem?, this]
  rw [e, Oper.semAt_none]
  simp only [execOp, h2, resolve, ev, Deferred.ofValue, Sem.run_bind, Sem.run_pure, Result.andThen_ok]
  rw [Oper.uponIn_defer]
  have em : #[] ++ Array.map (a.put o1.dst (.func (.func g) #[] vs.toArray)).eval #[] = #[] := by simp
  rw [em, d1, d2]
  refine wpListIn_nil ⟨by simp [Act.put, hn], env, hs.keep (noDst_ne hno), ?_⟩
  have : (({ a.put (some d) (.func (.func g) #[] vs.toArray) with defers := { target := .fn (.func g) vs.toArray, args := #[] } :: (a.put (some d) (.func (.func g) #[] vs.toArray)).defers } : Act).put none undef).defers = { target := .fn (.func g) vs.toArray, args := #[] } :: ds := by
    simp [Act.put, hdf]
  rw [this]
  exact hq
/-! ### a function that defers one call -/
theorem cal_of_defer {P : Program} {T : List TD} (hT : TabOk P T) {f g : FuncId} {fn : Func} {c : Code} {args : List Value} {w : World} {K : Value → World → Prop}
    (hf : P.funcs[f]? = some fn) (hb : fn.body = some c) (hname : (fn.name == "runtime.NumGoroutine") = false) (n : Nat) (hn : fn.ntmps = n) (ha : args.length ≤ n) (live : List Nat) (hg : Enters P g)
    (h : SemC ⟨P, T, n, live, none⟩ c (argEnv 0 args) [] w fun e env ds w => ∃ cap : List Value, ds = [{ target := .fn (.func g) cap.toArray, args := #[] }] ∧ match e with
      | .ret => CallsDIn (Fr none) 0 P g cap.toArray .returning w fun e u' w' => (∃ v, e = .returned v) ∧ u' = .returning ∧ resK ⟨P, T, n, live, none⟩ fn.results.toList env w' fun v => K v w'
      | .panic ch => ∃ x, ch = [{ v := x, recovered := false }] ∧ CallsDIn (Fr none) 0 P g cap.toArray (.panicking [{ v := x, recovered := false }]) w fun e u' w' => (∃ v, e = .returned v) ∧ u' = .panicking [{ v := x, recovered := true }] ∧ resK ⟨P, T, n, live, none⟩ fn.results.toList env w' fun v => K v w'
      | _ => False) : Ret P f args.toArray w K := by
  refine ⟨.inl ⟨enters_mk hf (by simp [hb]) hname, (callsIn_Fr (r := none) (n := 0)).1 ?_⟩⟩
  refine callsIn_of_wp_marks hf hb trivial ?_
  have hs : Sat (argEnv 0 args) (args.toArray ++ Array.replicate (fn.ntmps - args.toArray.size) undef) := argEnv_sat
  refine wpIn_mono (h.out { tmps := args.toArray ++ Array.replicate (fn.ntmps - args.toArray.size) undef, defers := [] } hs (by simp; omega) rfl) ?_
  rintro e a w' ⟨h1, env', h2, cap, hds, h3⟩
  have hinv : ∀ w, (invoke (.fn (.func g) cap.toArray) #[]).run P w = .ok (.enter g cap.toArray) w := by
    intro w
    have := hg cap.toArray w
    simpa [invoke] using this
  have fin : ∀ {w'}, (resK ⟨P, T, n, live, none⟩ fn.results.toList env' w' fun v => K v w') → ∃ v, (results fn a.tmps).run P w' = .ok v w' ∧ K v w' := by
    intro w' h
    exact resK_sound (C := ⟨P, T, n, live, none⟩) hT h2 h
  cases e with
  | ret =>
    show LeavesInM _ _ _ _ _ _ a.defers _ _
    rw [hds]
    refine ⟨by simp, .inr ⟨fun h => by simp [Fr, Fence.wide] at h, _, _, g, cap.toArray, rfl, hinv w', fun _ _ => trivial, h3.mono ?_⟩⟩
    rintro e u' w'' ⟨⟨v, rfl⟩, rfl, hk⟩
    obtain ⟨v, hr, hk⟩ := fin hk
    exact ⟨v, hr, hk⟩
  | panic ch =>
    obtain ⟨x, rfl, h3⟩ := h3
    show LeavesInM _ _ _ _ _ _ a.defers _ _
    rw [hds]
    refine ⟨by simp, .inr ⟨fun h => by simp [Fr, Fence.wide] at h, _, _, g, cap.toArray, rfl, hinv w', fun _ _ => trivial, h3.mono ?_⟩⟩
    rintro e u' w'' ⟨⟨v, rfl⟩, rfl, hk⟩
    obtain ⟨v, hr, hk⟩ := fin hk
    exact ⟨v, hr, hk⟩
  | normal => exact h3.elim
  | exit id => exact h3.elim
  | goto l => exact h3.elim
  | outgrown => exact h3.elim
/-! ### the deferred closure -/
theorem rec_go {C : Cx} (hT : TabOk C.P C.T) (hr : C.r = none) {f : FuncId} {fn : Func} {args : List Value} {id t u : Nat} {o1 o2 : Oper} {x : Code} {m m' : FrameMode} {v : Value} {w : World} {R : Ending → FrameMode → World → Prop}
    (hf : C.P.funcs[f]? = some fn) (hb : fn.body = some (.seq (.region id #[o1, o2] false) x)) (hn : fn.ntmps = C.n) (hl : args.length ≤ C.n)
    (h1 : ∀ (a : Act) (w : World), (execOp a.eval o1).run C.P w = .ok .recover w) (g1 : o1.guard = none) (d1 : o1.dst = some t) (h2 : o2.op = .assign (.tmp t)) (g2 : o2.guard = none) (d2 : o2.dst = some u) (ht : t < C.n) (hu : u < C.n)
    (hm : ∀ (c₀ : Frame) cs, c₀.mode = m → (recoverD (c₀ :: cs) = some (v, { c₀ with mode := m' } :: cs)) ∨ (recoverD (c₀ :: cs) = none ∧ v = .nilIface ∧ m' = m))
    (h : SemC C x ((u, v) :: (t, v) :: argEnv 0 args) [] w fun e env ds w => ds = [] ∧ (match e with
      | .normal => resK C fn.results.toList env w fun q => R (.returned q) m' w
      | _ => False)) : CallsDIn (Fr none) 0 C.P f args.toArray m w R := by
  refine callsDIn_of_wpSIn hf hb trivial ?_
  intro c₀ cs hmode
  refine wpSIn_seq ?_
  refine wpSIn_region ?_
  have hs : Sat (argEnv 0 args) (args.toArray ++ Array.replicate (fn.ntmps - args.toArray.size) undef) := argEnv_sat
  generalize ha : ({ tmps := args.toArray ++ Array.replicate (fn.ntmps - args.toArray.size) undef, defers := [] } : Act) = a
  have hs : Sat (argEnv 0 args) a.tmps := by rw [← ha]; exact hs
  have hz : a.tmps.size = C.n := by rw [← ha]; simp; omega
  have hd : a.defers = [] := by rw [← ha]
  show wpOpsSIn _ _ _ _ _ [0, 1] _ _ _
  have w1 : Region.wanted o1 (yielded #[o1, o2] a.tmps) = true := by simp [Region.wanted, g1]
  have key : ∀ cs', cs' = { c₀ with mode := m' } :: cs → wpOpsSIn (Fr none) 0 C.P #[o1, o2] (Exit.thenS (x.wpSIn (Fr none) 0 C.P (bodyPostS C.P fn c₀ cs R)) (bodyPostS C.P fn c₀ cs R)) [1] (a.put o1.dst v) cs' w := by
    intro cs' hcs
    subst hcs
    have w2 : Region.wanted o2 (yielded #[o1, o2] (a.put o1.dst v).tmps) = true := by simp [Region.wanted, g2]
    have ev : (a.put o1.dst v).eval (.tmp t) = v := by
      rw [d1]
      have : t < a.tmps.size := by rw [hz]; exact ht
      simp [Act.eval, Act.put, Array.getD_eq_getD_getElem?, this]
    simp only [wpOpsSIn]
    rw [show (#[o1, o2] : Array Oper)[1]? = some o2 from rfl]
    dsimp only
    refine ⟨fun _ _ => trivial, ?_⟩
    rw [if_pos w2]
    have hx : (execOp (a.put o1.dst v).eval o2).run C.P w = .ok (.value v) w := by simp [execOp, h2, ev]
    rw [hx]
    show Code.wpSIn _ _ _ _ _ _ _ _
    refine wpSIn_of_wpIn rfl ?_
    have hsat : Sat ((u, v) :: (t, v) :: argEnv 0 args) ((a.put o1.dst v).put o2.dst v).tmps := by
      rw [d1, d2]
      refine Sat.put (Sat.put hs (by rw [hz]; exact ht) v) ?_ v
      simp [Act.put, hz, hu]
    have := h.out ((a.put o1.dst v).put o2.dst v) hsat (by rw [d1, d2]; simp [Act.put, hz]) (by rw [d1, d2]; exact hd)
    rw [hr] at this
    refine wpIn_mono this fun e a' w' ⟨q1, env', q2, q3, q4⟩ => ?_
    cases e with
    | normal =>
      obtain ⟨q, hq, hk⟩ := resK_sound (C := C) hT q2 q4
      exact ⟨q3, m', rfl, q, hq, hk⟩
    | ret => exact q4.elim
    | panic ch => exact q4.elim
    | exit id => exact q4.elim
    | goto l => exact q4.elim
    | outgrown => exact q4.elim
  rw [wpOpsSIn, show (#[o1, o2] : Array Oper)[0]? = some o1 from rfl]
  dsimp only
  refine ⟨fun _ _ => trivial, ?_⟩
  rw [if_pos w1, h1]
  dsimp only
  rcases hm c₀ cs hmode with h3 | ⟨h3, h4, h5⟩
  · rw [h3]
    exact key _ rfl
  · rw [h3]
    dsimp only
    rw [← h4]
    refine key _ ?_
    rw [h5, ← hmode]
section
variable {V0 w0 V W w : World}
abbrev okB4 (b : Bool) : List Value := [.bool b]
abbrev zeroL : List Value := [iv 0, iv 0, .slice none 0 0, .slice none 0 0, .slice none 0 0]
set_option maxRecDepth 100000 in
theorem clos_panic {b2 b3 b4 : Nat} {c2 : List Value} {c3 : Value} {c4 : Bool} (h2 : c2.length = 5) (H : Rel w0 V0 [.blk b4 [.bool c4] 4, .blk b3 [c3] 52, .blk b2 c2 27] V w) :
    CallsDIn (Fr none) 0 Tryz.prog 44 [.pointer (some ⟨b2, 0, none⟩), .pointer (some ⟨b3, 0, none⟩), .pointer (some ⟨b4, 0, none⟩)].toArray (.panicking [wrongE]) w fun e u' w' => (∃ v, e = .returned v) ∧ u' = .panicking [{ v := wrongE.v, recovered := true }] ∧ Rel w0 V0 [.blk b4 [.bool false] 4, .blk b3 [.slice none 0 0] 52, .blk b2 zeroL 27] V w' := by
  obtain ⟨x0, x1, x2, x3, x4, rfl⟩ : ∃ x0 x1 x2 x3 x4, c2 = [x0, x1, x2, x3, x4] := by
    match c2, h2 with
    | [x0, x1, x2, x3, x4], _ => exact ⟨x0, x1, x2, x3, x4, rfl⟩
  refine rec_go (C := ⟨Tryz.prog, tab, 8, [0, 1, 2, 3, 6], none⟩) (t := 4) (u := 3) (v := wrongE.v) (m' := .panicking [{ v := wrongE.v, recovered := true }]) tabOk rfl Tryz.func44 rfl rfl (by simp) (fun _ _ => rfl) rfl rfl rfl rfl rfl (by decide) (by decide) (fun c₀ cs h => .inl (by simp [recoverD, h])) ?_
  refine SemC.seqGo tabOk ?_
  (first | (refine H.wg ?_; clear H; intros; rename_i w H; constructor) | refine wk ?_)
  refine SemC.go tabOk ?_
  (first | (refine H.wg ?_; clear H; intros; rename_i w H; constructor) | refine wk ?_)
  exact ⟨⟨_, rfl⟩, rfl, H⟩
set_option maxRecDepth 100000 in
theorem clos_ret {b2 b3 b4 : Nat} {own : List Res} (H : Rel w0 V0 own V w) :
    CallsDIn (Fr none) 0 Tryz.prog 44 [.pointer (some ⟨b2, 0, none⟩), .pointer (some ⟨b3, 0, none⟩), .pointer (some ⟨b4, 0, none⟩)].toArray .returning w fun e u' w' => (∃ v, e = .returned v) ∧ u' = .returning ∧ Rel w0 V0 own V w' := by
  refine rec_go (C := ⟨Tryz.prog, tab, 8, [0, 1, 2, 3, 6], none⟩) (t := 4) (u := 3) (v := .nilIface) (m' := .returning) tabOk rfl Tryz.func44 rfl rfl (by simp) (fun _ _ => rfl) rfl rfl rfl rfl rfl (by decide) (by decide) (fun c₀ cs h => .inr ⟨by simp [recoverD, h], rfl, rfl⟩) ?_
  refine SemC.seqGo tabOk ?_
  (first | (refine H.wg ?_; clear H; intros; rename_i w H; constructor) | refine wk ?_)
  refine SemC.go tabOk ?_
  (first | (refine H.wg ?_; clear H; intros; rename_i w H; constructor) | refine wk ?_)
  exact ⟨⟨_, rfl⟩, rfl, H⟩
end
section
variable {V W w : World}
/-- what the program reads of a file -/
theorem read_tree (hE : NumT V) (hV : Sub V W) {sl : Sl} {l : List UInt8} (hs : Byt V sl l) (hl : l.length ≤ 1000) : Ret Tryz.prog 25 [sl.v].toArray W fun q w' => ∃ (V' : World) (h : VH) (r : Sl) (hs : List BkH), Sub V V' ∧ Rel W V [] V' w' ∧ (match trF l with
    | none => q = .tuple #[valV h, r.v, .bool false]
    | some (v, o) => q = .tuple #[valV h, r.v, .bool true] ∧ ValAt V' h v ∧ SlF bkC V' r hs ∧ Pw BkR V' hs o) := by
  have H := Rel.start hV
  refine cal_of_defer (g := 44) tabOk Tryz.func25 rfl (by kernel_rfl) 25 rfl (by simp) [0, 2, 3, 4, 5] (enters_mk Tryz.func44 (by kernel_rfl) (by kernel_rfl)) ?_
  refine SemC.seqGo tabOk ?_
  (first | (refine H.wh ?_; clear H; intros; rename_i w H; constructor) | refine wk ?_)
  ((first | refine Rel.nwD H ?_ | refine Rel.nw H ?_); clear H; intro w b2 H)
  (first | (refine H.wh ?_; clear H; intros; rename_i w H; constructor) | refine wk ?_)
  ((first | refine Rel.nwD H ?_ | refine Rel.nw H ?_); clear H; intro w b3 H)
  (first | (refine H.wh ?_; clear H; intros; rename_i w H; constructor) | refine wk ?_)
  ((first | refine Rel.nwD H ?_ | refine Rel.nw H ?_); clear H; intro w b4 H)
  (first | (refine H.wg ?_; clear H; intros; rename_i w H; constructor) | refine wk ?_)
  refine SemC.seq ?_
  refine region_defer (g := 44) (d := 6) tabOk rfl rfl rfl rfl rfl rfl rfl (by decide) ?_ rfl
  (conv => whnf)
  have H1 := H
  clear H
  have H := Rel.start H1.data
  refine SemC.seqGo tabOk ?_
  (first | (refine H.wh ?_; clear H; intros; rename_i w H; constructor) | refine wk ?_)
  ((first | refine Rel.nwD H ?_ | refine Rel.nw H ?_); clear H; intro w b5 H)
  (first | (refine H.wg ?_; clear H; intros; rename_i w H; constructor) | refine wk ?_)
  replace H := (H.rowNil 72 2).swap
  have hlen := hs.len
  refine SemC.seq (region_keep tabOk [(2, .pointer (some ⟨b2, 0, none⟩)), (3, .pointer (some ⟨b3, 0, none⟩)), (4, .pointer (some ⟨b4, 0, none⟩))] rfl (by repeat (first | exact trivial | refine ⟨rfl, ?_⟩)) ?_)
  (first | (refine H.wg ?_; clear H; intros; rename_i w H; constructor) | refine wk ?_)
  refine Cal.mono (value_tree (l.length + 1) _ _ _ _ [] b5 1000 sl ⟨none, 0, 0⟩ [] ⟨l, 0, [], []⟩ hE H ⟨hs, Pw.nil, by show 0 + l.length ≤ 1000; omega, Nat.le_refl _⟩ (by omega) (Nat.lt_succ_self _)) ?_ ?_
  rotate_left
  · intro ch w' hbad
    refine ⟨[.pointer (some ⟨b2, 0, none⟩), .pointer (some ⟨b3, 0, none⟩), .pointer (some ⟨b4, 0, none⟩)], rfl, ?_⟩
    have hno : trF l = none := by unfold trF; rw [hbad.why]
    refine ⟨wrongE.v, hbad.ch, (clos_panic rfl (H1.ext hbad.ext)).mono ?_⟩
    rintro e u' w'' ⟨h1, h2, H2⟩
    refine ⟨h1, h2, ?_⟩
    clear H
    have H := H2
    rw [hno]
    (first | (refine H.wg ?_; clear H; intros; rename_i w H; constructor) | refine wk ?_)
    exact ⟨V, zeroH, ⟨none, 0, 0⟩, [], Sub.refl _, H.sx, rfl⟩
  rintro v w ⟨v1, s', h1, hrd, rfl, V1, r1, o1, hs1, hV1, hR1, hva, H⟩
  replace H := H1.call H
  simp only [RdO, List.cons_append, List.nil_append] at H
  (first | (refine H.wg ?_; clear H; intros; rename_i w H; constructor) | refine wk ?_)
  refine SemC.seqGo tabOk ?_
  (first | (refine H.wg ?_; clear H; intros; rename_i w H; constructor) | refine wk ?_)
  refine (skip_tree H hR1 (by omega) true).use ?_
  clear H
  rintro v w ⟨rfl, V2, r2, o2, hs2, hV2, hR2, _, H⟩
  rw [if_pos rfl] at hR2 H
  simp only [RdO, List.cons_append, List.nil_append] at H
  have hol := hR2.ol
  have hoth := hR2.oth
  have hr2 := hR2.rest.len
  have e : trF l = if (skR [10] s').rest = [] then some (v1, (skR [10] s').oth) else none := by unfold trF; rw [hrd]
  obtain ⟨V3, hV3, H, hb5⟩ := H.freezeBlk
  obtain ⟨V4, hV4, H, ho2⟩ := H.freezeF (fun _ => rfl) (by decide)
  have c0 : V4.cell? ⟨b5, 0, none⟩ = some r2.v := hV4.cell (hb5.cel rfl)
  have c3 : V4.cell? ⟨b5, 3, none⟩ = some o2.v := hV4.cell (hb5.cel rfl)
  (first | (refine H.wg ?_; clear H; intros; rename_i w H; constructor) | refine wk ?_)
  refine SemC.seqGo tabOk ?_
  ((first | refine draw_vcTX (id := 5) tabOk mixed (Kv V4) Kv.trans [11, 12] [4, 8] [0, 1, 2, 3, 4, 5, 6, 7, 8, 9, 10, 11, 12, 13] [(11, []), (12, [11]), (13, [11, 12])] (by kernel_rfl) ?_); intro w hdw; replace H := Rel.ext H hdw.ext)
  repeat' ((first | (refine H.wh ?_; clear H; intros; rename_i w H; constructor) | refine wk ?_); (first | refine Kv.go H ?_ | refine Kv.go2 H (by assumption) ?_ | (refine And.intro (fun w1 hkp => ?_) ?_; focus ((first | have H := Kv.in H hkp | have H := Kv.in2 H (by assumption) hkp); ((repeat ((conv => whnf); first | refine an ?_ | refine H.ce ?_ | refine H.db ?_ | refine ea ?_ | refine ol ?_ | fail | refine cT ?_ | refine cF ?_ | refine cN ?_ | refine cM ?_ | refine H.lw ?_ | refine H.ll ?_)); (conv => whnf)); all_goals (first | exact ⟨rfl, rfl⟩ | exact rfl))) | refine And.intro ?_ ?_ | ((first | refine Rel.nwD H ?_ | refine Rel.nw H ?_); clear H; intro w _ H)))
  (first | (refine H.wh ?_; clear H; intros; rename_i w H; constructor) | refine wk ?_)
  refine SemC.go tabOk ?_
  (conv => whnf)
  refine ⟨[.pointer (some ⟨b2, 0, none⟩), .pointer (some ⟨b3, 0, none⟩), .pointer (some ⟨b4, 0, none⟩)], rfl, (clos_ret H).mono ?_⟩
  rintro q u' w'' ⟨q1, q2, H2⟩
  refine ⟨q1, q2, ?_⟩
  clear H
  have H := H2
  (first | (refine H.wg ?_; clear H; intros; rename_i w H; constructor) | refine wk ?_)
  refine ⟨V4, h1, o2, hs2, hV1.trans (hV2.trans (hV3.trans hV4)), H.sx, ?_⟩
  rw [e]
  by_cases h0 : (skR [10] s').rest = []
  · rw [if_pos h0]
    have : r2.len = 0 := by rw [hr2, h0]; rfl
    rw [this]
    exact ⟨rfl, hva.up (hV2.trans (hV3.trans hV4)), ho2, hoth.up BkR.up (hV3.trans hV4)⟩
  · rw [if_neg h0]
    have : r2.len ≠ 0 := fun e => h0 (List.eq_nil_of_length_eq_zero (hr2.symm.trans e))
    rw [decide_eq_false (by omega)]
end
end Go.Proofs.YtffaffojkfalhaaGreatDoor
