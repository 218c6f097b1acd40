/-
  What is owned, in another order.
-/
import Derived.Test.YtffaffojkfalhaaGreatDoorVcS
import Derived.Test.YtffaffojkfalhaaGreatDoorVcU
namespace Go.Proofs.YtffaffojkfalhaaGreatDoor
open Go Go.RowKit

/-- one thing out of a list, and the rest -/
inductive Out1 : List Res → Res → List Res → Prop where
  | h {r : Res} {l : List Res} : Out1 (r :: l) r l
  | t {x r : Res} {l k : List Res} : Out1 l r k → Out1 (x :: l) r (x :: k)
/-- some things of a list, in any order -/
inductive Pick : List Res → List Res → Prop where
  | z {l : List Res} : Pick l []
  | s {l k o : List Res} {r : Res} : Out1 l r k → Pick k o → Pick l (r :: o)
theorem Out1.perm {l k : List Res} {r : Res} (h : Out1 l r k) : l.Perm (r :: k) := by
  induction h with
  | h => exact List.Perm.refl _
  | t _ ih => exact (List.Perm.cons _ ih).trans (List.Perm.swap _ _ _)
theorem Pick.perm {l o : List Res} (h : Pick l o) : ∃ k, l.Perm (o ++ k) := by
  induction h with
  | @z l => exact ⟨l, List.Perm.refl _⟩
  | s h _ ih =>
    obtain ⟨k, hk⟩ := ih
    exact ⟨k, h.perm.trans (List.Perm.cons _ hk)⟩
section
variable {w0 V0 V w : World} {own : List Res}
theorem Rel.pick (H : Rel w0 V0 own V w) {o : List Res} (h : Pick own o := by repeat constructor) : Rel w0 V0 o V w := by
  obtain ⟨k, hk⟩ := h.perm
  have hm : ∀ r ∈ o, r ∈ own := fun r hr => hk.mem_iff.2 (List.mem_append_left _ hr)
  exact ⟨H.base, H.sub, H.old, fun r hr => H.laid r (hm r hr), fun r hr => H.new r (hm r hr), fun r hr => H.hid r (hm r hr), ((hk.pairwise_iff (fun h => Res.off_symm h)).1 H.apart).sublist (List.sublist_append_left _ _), H.data⟩
/-- less is read -/
theorem Rel.less (H : Rel w0 V0 own V w) {U : World} (h1 : Sub V0 U) (h2 : Sub U V) : Rel w0 V0 own U w :=
  ⟨H.base, h1, fun b hb hn c t f hc => H.old b hb hn c t f (h2.cel b c t f hc), H.laid, H.new, fun r hr b hb c t f hc => H.hid r hr b hb c t f (h2.cel b c t f hc), H.apart, h2.trans H.data⟩
end
end Go.Proofs.YtffaffojkfalhaaGreatDoor
namespace Go.Proofs.YtffaffojkfalhaaGreatDoor
open Go Go.RowKit

theorem stepX_sound {C : Cx} (hT : TabOk C.P C.T) {Rel : World → World → Prop} {ops : List Oper} {xs ys : List Nat} {Q : Exit → Act → World → Prop} {K : Env → World → Prop} {Z : List PanicEntry → World → Prop} {ds : List Deferred} {i : Nat} {rest : List Nat} {r : OpsDen} {G : Act → World → Prop}
    (hZ : ∀ (a : Act) w ch, a.tmps.size = C.n → a.defers = ds → Z ch w → Q (.panic ch) a w) (hr : ∀ env (a : Act) w, Sat env a.tmps → a.tmps.size = C.n → a.defers = ds → r env w K Z → G a w) {env : Env} {a : Act} {w : World} (hs : Sat env a.tmps) (hn : a.tmps.size = C.n) (hd : a.defers = ds)
    (h : opsStepX C Rel ops xs ys i rest r env w K Z) : ∃ o, ops[i]? = some o ∧ OpE C ops xs ys Rel Q i o G a w := by
  unfold opsStepX at h
  obtain ⟨o, ho, h⟩ := opK_sound h
  refine ⟨o, ho, ?_⟩
  simp only [OpE]
  rcases guardK_sound h hs with ⟨hw, env', hs', h'⟩ | ⟨hw, env', hs', h'⟩
  · rw [if_pos hw]
    cases hq : quietOp C.T o.op with
    | true =>
      rw [if_pos rfl]
      obtain ⟨v, h1, h2⟩ := vop_steady hT hs' hq h'
      obtain ⟨_, h2⟩ := stabK_sound h2
      obtain ⟨hst, h2⟩ := stabK_sound h2
      refine ⟨v, fun w1 hr1 => ?_, ?_⟩
      · cases hrd : readsOp o.op with
        | false => exact h1 w1 fun h => by simp [hrd] at h
        | true =>
          rcases hr1 hrd with ⟨hi, hrel⟩ | rfl
          · exact vop_at hT hs' hq (hst (memN_iff.2 hi) w1 hrel)
          · exact h1 w1 fun _ => Ext.refl _
      · obtain ⟨env'', h3, h4, h5, h6⟩ := putK_sound h2 hs' hn
        exact hr _ _ _ h3 h4 (h5.trans hd) h6
    | false =>
      rw [if_neg (by simp)]
      refine vop_sound hT hs' h' (fun v w' hk => ?_) (fun ch w' hz => hZ a w' ch hn hd hz)
      obtain ⟨h1, h2⟩ := stabK_sound hk
      refine ⟨fun hi => h1 (memN_iff.2 hi), ?_⟩
      obtain ⟨env'', h3, h4, h5, h6⟩ := putK_sound (stabK_sound h2).2 hs' hn
      exact hr _ _ _ h3 h4 (h5.trans hd) h6
  · rw [if_neg (by simp [hw])]
    obtain ⟨env'', h3, h4, h5, h6⟩ := putK_sound h' hs' hn
    exact hr _ _ _ h3 h4 (h5.trans hd) h6
def opsStepTX (C : Cx) (Rel : World → World → Prop) (ops : List Oper) (xs ys : List Nat) (E : Effs) (_ : Nat) (_ : List Nat) (r : TDen) : TDen := fun R env w K Z => match R with
  | [] => K env w
  | i :: rest => match isEff i E with
    | true => candK (i :: rest) (fun j => opsStepX C Rel ops xs ys j [] (r (delN j (i :: rest))) env w K Z) E
    | false => opsStepX C Rel ops xs ys i [] (r rest) env w K Z
noncomputable def vcOpsTX (C : Cx) (Rel : World → World → Prop) (ops : List Oper) (xs ys : List Nat) (E : Effs) (l : List Nat) : TDen := List.rec (motive := fun _ => TDen) opsNilT (opsStepTX C Rel ops xs ys E) l
theorem vcOpsTX_sound {C : Cx} (hT : TabOk C.P C.T) {Rel : World → World → Prop} {ops : List Oper} {xs ys : List Nat} {E : Effs} {Q : Exit → Act → World → Prop} {K : Env → World → Prop} {Z : List PanicEntry → World → Prop} {ds : List Deferred}
    (hQ : ∀ env (a : Act) w, Sat env a.tmps → a.tmps.size = C.n → a.defers = ds → K env w → Q .normal a w) (hZ : ∀ (a : Act) w ch, a.tmps.size = C.n → a.defers = ds → Z ch w → Q (.panic ch) a w) :
    ∀ {l R : List Nat} {env : Env} {a : Act} {w : World}, Sat env a.tmps → a.tmps.size = C.n → a.defers = ds → vcOpsTX C Rel ops xs ys E l R env w K Z → GoodT C ops xs ys Rel Q E l.length R a w
  | [], R, env, a, w, hs, hn, hd, h => hQ env a w hs hn hd h
  | f :: l, [], env, a, w, hs, hn, hd, h => hQ env a w hs hn hd h
  | f :: l, i :: rest, env, a, w, hs, hn, hd, h => by
    have h : opsStepTX C Rel ops xs ys E f l (vcOpsTX C Rel ops xs ys E l) (i :: rest) env w K Z := h
    have one : ∀ j R', opsStepX C Rel ops xs ys j [] (vcOpsTX C Rel ops xs ys E l R') env w K Z → ∀ o, ops[j]? = some o → OpE C ops xs ys Rel Q j o (GoodT C ops xs ys Rel Q E l.length R') a w := by
      intro j R' hj o ho
      obtain ⟨o', ho', h'⟩ := stepX_sound (ys := ys) (G := GoodT C ops xs ys Rel Q E l.length R') hT hZ (fun env a w h1 h2 h3 h4 => vcOpsTX_sound hT hQ hZ h1 h2 h3 h4) hs hn hd hj
      rw [ho] at ho'
      cases ho'
      exact h'
    unfold opsStepTX at h
    simp only [List.length_cons, GoodT]
    cases he : isEff i E with
    | false =>
      simp only [he] at h
      exact one i rest h
    | true =>
      simp only [he] at h ⊢
      have mono : ∀ (E' : Effs) (f g : Nat → Prop), (∀ j, f j → g j) → candK (i :: rest) f E' → candK (i :: rest) g E' := by
        intro E' f g hfg
        induction E' with
        | nil => exact fun h => h
        | cons p E' ih =>
          obtain ⟨j, an⟩ := p
          simp only [candK]
          split
          · split
            · exact fun h => ⟨hfg j h.1, ih h.2⟩
            · exact hfg j
          · exact ih
      exact mono E _ _ (fun j hj => one j _ hj) h
theorem draw_vcTX {C : Cx} (hT : TabOk C.P C.T) (hm : C.P.follows .mixedOrders = true) {id : Nat} {ops : Array Oper} {env : Env} {ds : List Deferred} {w : World} {Q : Post} (Rel : World → World → Prop) (hR : ∀ a b c : World, Rel a b → Rel b c → Rel a c) (xs ys π : List Nat) (E : Effs)
    (hok : orderOkT C.T ops.toList xs ys π E = true)
    (h : ∀ w1, Drew w w1 → vcOpsTX C Rel ops.toList xs ys E π π env w1 (fun env' w' => pruneK env' C.live fun e' => Q .normal e' ds w') (fun ch w' => Q (.panic ch) [] ds w')) :
    SemC C (.region id ops true) env ds w Q := by
  refine ⟨fun a hs hn hd => ?_⟩
  simp only [orderOkT, Bool.and_eq_true, decide_eq_true_eq] at hok
  obtain ⟨⟨⟨⟨⟨⟨ht, hp⟩, hall⟩, hlen⟩, hnodup⟩, hlts⟩, hE⟩ := hok
  have hmem : ∀ i, i < ops.toList.length → i ∈ π := fun i hi => by simpa using List.all_eq_true.1 hall i (by simpa using hi)
  have key := h { w with drawn := w.drawn + 1 } ⟨rfl, rfl, rfl, rfl, Nat.le_refl _, fun _ _ => rfl⟩
  let Q' : Exit → Act → World → Prop := fun e a' w' => a'.tmps.size = C.n ∧ match e with
    | .panic ch => Q (.panic ch) [] a'.defers w'
    | e => ∃ env', Sat env' a'.tmps ∧ Q e env' a'.defers w'
  refine wpIn_mono (Q := Q') ?_ (fun e a' w' hq => ?_)
  · refine wpIn_region_any hm ?_
    have hg : GoodT C ops.toList xs ys Rel Q' E π.length π a { w with drawn := w.drawn + 1 } := by
      refine vcOpsTX_sound hT (ds := ds) (fun env' a' w' h1 h2 h3 h4 => ?_) (fun a' w' ch h1 h2 h3 => ?_) hs hn hd key
      · obtain ⟨e', h5, h6⟩ := pruneK_sound h4
        exact ⟨h2, e', fun t v ht => h1 t v (h5 t v ht), h3 ▸ h6⟩
      · exact ⟨h1, h2 ▸ h3⟩
    have hlt : ∀ i ∈ π, i < ops.toList.length := fun i hi => by simpa using List.all_eq_true.1 hlts i hi
    have := GoodT.any (C := C) (ops := ops.toList) (xs := xs) (ys := ys) (Rel := Rel) (Q := Q') hR (fun d v ch a w hq => by
      obtain ⟨h1, h2⟩ := hq
      refine ⟨?_, ?_⟩
      · cases d <;> simpa [Act.put] using h1
      · cases d <;> exact h2) (fun i an hi x hx => by simpa using List.all_eq_true.1 (List.all_eq_true.1 hE _ hi) x hx) ops.size π (Array.replicate ops.size false) a { w with drawn := w.drawn + 1 } (by simp [hlen]) hnodup (by simp) (fun i hi => ?_) hlt (fun i o ho hl => ?_) ht hp hg
    · simpa using this
    · have : i < ops.size := by simpa using hi
      simp [Array.getD, this, hmem i hi]
    · have : i < ops.size := by simpa using (List.getElem?_eq_some_iff.1 ho).1
      simp [Array.getD, this] at hl
  · obtain ⟨h1, h2⟩ := hq
    cases e with
    | panic ch => exact ⟨h1, [], Sat.nil _, h2⟩
    | _ => exact ⟨h1, h2⟩
/-- what V holds is kept -/
structure Kv (V w w' : World) : Prop where
  up : Sub V w → Sub V w'
theorem Kv.trans {V : World} (a b c : World) (h : Kv V a b) (k : Kv V b c) : Kv V a c := ⟨fun s => k.up (h.up s)⟩
theorem Kv.of {w0 V0 V w' : World} {own : List Res} (H : Rel w0 V0 own V w') {w : World} : Kv V w w' := ⟨fun _ => H.data⟩
theorem Kv.go {w0 V0 V w' : World} {own : List Res} (H : Rel w0 V0 own V w') {w : World} {p : Prop} (h : p) : Kv V w w' ∧ p := ⟨Kv.of H, h⟩
theorem Kv.go2 {w0 V0 V U w' : World} {own : List Res} (H : Rel w0 V0 own V w') (hs : Sub U V) {w : World} {p : Prop} (h : p) : Kv U w w' ∧ p := ⟨⟨fun _ => hs.trans H.data⟩, h⟩
theorem Kv.in2 {w0 V0 V U w : World} {own : List Res} (H : Rel w0 V0 own V w) (hs : Sub U V) {w1 : World} (h : Kv U w w1) : Rel w1 U [] U w1 := Rel.start (h.up (hs.trans H.data))
theorem Kv.in {w0 V0 V w : World} {own : List Res} (H : Rel w0 V0 own V w) {w1 : World} (h : Kv V w w1) : Rel w1 V [] V w1 := Rel.start (h.up H.data)
end Go.Proofs.YtffaffojkfalhaaGreatDoor
