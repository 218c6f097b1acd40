/-
  A range over a function: the iterator's contract, the caller's rule.
-/
import Derived.Test.YtlhgmigoncmcaaaGreatVcG
import Derived.RangeFuncIn
import Derived.RangeFuncRecord
namespace Go.Proofs.YtlhgmigoncmcaaaGreat
open Go Go.RowKit

/-- what holds no cells and lies from B on stays -/
def Keep (B : Nat) (w w' : World) : Prop := ∀ (j : Nat) (o : Obj), B ≤ j → w.heap[j]? = some o → (∀ c t f, o ≠ .cells c t f) → w'.heap[j]? = some o
theorem Keep.refl (B : Nat) (w : World) : Keep B w w := fun _ _ _ h _ => h
theorem Keep.trans {B : Nat} {a b c : World} (h : Keep B a b) (k : Keep B b c) : Keep B a c := fun j o hj ho hn => k j o hj (h j o hj ho hn) hn
theorem Keep.ext {B : Nat} {a b : World} (h : Ext a b) : Keep B a b := fun j _ _ ho _ => (h.block j (Array.getElem?_eq_some_iff.1 ho).1).trans ho
theorem Keep.upd {B : Nat} {w : World} {b : Nat} {c l : List Value} {t t' : TypeId} {w' : World} (hb : Blk w b c t) (h : Upd w b l t' w') : Keep B w w' := fun j o _ ho hn => by
  have hne : j ≠ b := by
    intro e; subst e
    rw [hb] at ho
    cases ho
    exact hn _ _ _ rfl
  rw [h.other hne]; exact ho
theorem Keep.grew {B : Nat} {w : World} {s : Sl} {e : TypeId} {sz : Nat} {xs : List Value} {w' : World} {s' : Sl} (hr : Row w s e sz xs) (h : Grew w s w' s') : Keep B w w' := fun j o _ ho hn => by
  rw [h.block j (Array.getElem?_eq_some_iff.1 ho).1 ?_]; exact ho
  rcases hr.at_ with ⟨h1, _⟩ | ⟨b, cur, h1, h2, _⟩
  · exact .inl h1
  · refine .inr fun e => ?_
    rw [h1] at e
    simp only [ablk] at e
    subst e
    rw [h2] at ho
    cases ho
    exact hn _ _ _ rfl

/-- An iterator yields xs in their order, as long as the rounds say so; S: what it reads. -/
structure IterOk (P : Program) (gf : Nat) (lb : List Value) (xs : List (List Value)) (S : World → Prop) : Prop where
  enters : Enters P gf
  out : ∀ (l : Nat) (W : World) (J : Nat → World → Prop) (Jx : World → Prop), (∀ k W, J k W → S W) → (∀ k W W', J k W → Ext W W' → J k W') → (∀ W W', Jx W → Ext W W' → Jx W') →
    (∀ k x W1, xs[k]? = some x → J k W1 → Yld P l x.toArray W1 fun b W2 => (b = true → J (k + 1) W2) ∧ (b = false → Jx W2)) → J 0 W →
    Ret P gf (.func (.yield l) #[] #[] :: lb).toArray W fun _ W' => J xs.length W' ∨ Jx W'

def putAll : List Nat → List Value → Env → Env
  | p :: ps, v :: vs, env => putAll ps vs ((p, v) :: env)
  | _, _, env => env
theorem putAll_sat {n : Nat} : ∀ {ps : List Nat} {vs : List Value} {env : Env} {tm : Array Value}, Sat env tm → tm.size = n → (∀ p ∈ ps, p < n) →
    Sat (putAll ps vs env) ((ps.zip vs).foldl (fun t p => t.setIfInBounds p.1 p.2) tm) ∧ ((ps.zip vs).foldl (fun t p => t.setIfInBounds p.1 p.2) tm).size = n
  | [], vs, env, tm, hs, hn, _ => by cases vs <;> exact ⟨hs, hn⟩
  | p :: ps, [], env, tm, hs, hn, _ => ⟨hs, hn⟩
  | p :: ps, v :: vs, env, tm, hs, hn, hp => by
    simp only [putAll, List.zip_cons_cons, List.foldl_cons]
    exact putAll_sat (hs.put (by rw [hn]; exact hp p (by simp)) v) (by simpa using hn) (fun q hq => hp q (by simp [hq]))
/-- how a round may be left -/
def roundQ (B : Nat) (W : World) (I : World → Prop) (Ix : Code → World → Prop) : Post := fun e _ _ W' => match e with
  | .normal => Keep B W W' ∧ I W'
  | .ret => Keep B W W' ∧ Ix .ret W'
  | .exit id => Keep B W W' ∧ Ix (.exit id) W'
  | _ => False
theorem range_vc {C : Cx} (hT : TabOk C.P C.T) (hro : C.r = none) {g : Operand} {ps : Array Tmp} {assign body : Code} {env : Env} {ds : List Deferred} {w : World} {Q : Post} {gf : Nat} {lb : List Value}
    (hg : withV env g fun v => v = .func (.func gf) #[] lb.toArray) {xs : List (List Value)} {S : World → Prop} (hit : IterOk C.P gf lb xs S) (hps : ∀ x ∈ xs, x.length = ps.size) (hpn : (ps.toList.all fun p => decide (p < C.n)) = true)
    (I : Nat → World → Prop) (Ix : Code → World → Prop) (hI : ∀ k W W', I k W → Tw w.heap.size W W' → I k W') (hIx : ∀ c W W', Ix c W → Tw w.heap.size W W' → Ix c W') (hS : ∀ k W, I k W → S W) (h0 : I 0 w)
    (hround : ∀ l k x W, xs[k]? = some x → I k W → vcCode { C with r := some l } assign (putAll ps.toList x env) [] W fun e env1 ds1 W1 => (match e with
      | .normal => ds1 = [] ∧ Keep w.heap.size W W1 ∧ ∀ W2, Tw w.heap.size W1 W2 → vcCode { C with r := some l } body env1 [] W2 (roundQ w.heap.size W2 (I (k + 1)) Ix)
      | _ => False))
    (hdone : ∀ D W, w.heap.size ≤ D → W.heap[D]? = some (.deferred (some [])) → I xs.length W → Q .normal env ({ target := .collected D, args := #[] } :: ds) W)
    (hstop : ∀ D c W, w.heap.size ≤ D → W.heap[D]? = some (.deferred (some [])) → Ix c W → vcCode C c env ({ target := .collected D, args := #[] } :: ds) W Q) :
    SemC C (.rangeFunc g ps assign body) env ds w Q := by
  refine ⟨fun a hs hn hd => ?_⟩
  have hgv := withV_sound hg hs
  rw [hro]
  refine wpIn_rangeFunc ?_
  intro fn _
  obtain ⟨rec, hrec⟩ : ∃ rec : LoopState → Option Code → Loop, rec = fun st pe => { state := st, pending := pe, fn, tmps := a.tmps, params := ps, assign, body, defers := w.heap.size } := ⟨_, rfl⟩
  obtain ⟨W1, hW1⟩ : ∃ W1, (w.alloc (.deferred (some []))).alloc (.loop (rec .ready none)) = W1 := ⟨_, rfl⟩
  have hL1 : W1.heap[w.heap.size + 1]? = some (.loop (rec .ready none)) := by
    rw [← hW1]; have := heap_alloc_new (w.alloc (.deferred (some []))) (.loop (rec .ready none)); rwa [World.size_alloc] at this
  have hK1 : W1.heap[w.heap.size]? = some (.deferred (some [])) := by
    rw [← hW1]; exact (Below.heap_alloc _ _ _ (by simp)).trans (heap_alloc_new w _)
  have hE1 : Ext w W1 := by rw [← hW1]; exact ((Below.refl _ w).alloc (Nat.le_refl _) _).alloc (by simp) _
  refine ⟨w.heap.size + 1, [{ target := .collected w.heap.size, args := #[] }], W1, { target := .fn (.func gf) lb.toArray, args := #[.func (.yield (w.heap.size + 1)) #[] #[]] }, W1, gf,
    (.func (.yield (w.heap.size + 1)) #[] #[] :: lb).toArray, W1, ?_, ?_, fun _ _ => trivial, ?_, fun h => by simp [Fr, Fence.wide] at h, ?_⟩
  · rw [← hW1, hrec]; exact run_enterLoop_outer _ _ _ _ _
  · simp only [resolve, hgv]
    simp [Deferred.ofValue, go_sem]
  · have := hit.enters (.func (.yield (w.heap.size + 1)) #[] #[] :: lb).toArray W1
    simp only [invoke]
    rw [← this]
    simp
  · have nd : ∀ r c t f, Obj.loop r ≠ .cells c t f := fun _ _ _ _ => nofun
    have ndd : ∀ r c t f, Obj.deferred r ≠ .cells c t f := fun _ _ _ _ => nofun
    have tw1 : ∀ {W : World} {r : Loop} (o : Obj), W.heap[w.heap.size + 1]? = some (.loop r) → Tw w.heap.size W (W.putObj (w.heap.size + 1) o) := fun o h => (tw_putObj h (nd _)).mono (by omega)
    have lt1 : ∀ {W : World} {o : Obj}, W.heap[w.heap.size + 1]? = some o → w.heap.size + 1 < W.heap.size := fun h => (Array.getElem?_eq_some_iff.1 h).1
    refine callsIn_Fr.2 (Calls.mono' (Ret.calls (hit.out (w.heap.size + 1) W1
      (fun k W => I k W ∧ W.heap[w.heap.size + 1]? = some (.loop (rec .ready none)) ∧ W.heap[w.heap.size]? = some (.deferred (some [])))
      (fun W => ∃ c, Ix c W ∧ W.heap[w.heap.size + 1]? = some (.loop (rec .done (some c))) ∧ W.heap[w.heap.size]? = some (.deferred (some [])))
      (fun k W h => hS k W h.1) ?_ ?_ ?_ ⟨hI _ _ _ h0 (hE1.tw (Nat.le_refl _)), hL1, hK1⟩)) ?_)
    · rintro k W W' ⟨h1, h2, h3⟩ he
      have := lt1 h2
      exact ⟨hI _ _ _ h1 (he.tw (by omega)), (he.block _ (by omega)).trans h2, (he.block _ (by omega)).trans h3⟩
    · rintro W W' ⟨c, h1, h2, h3⟩ he
      have := lt1 h2
      exact ⟨c, hIx _ _ _ h1 (he.tw (by omega)), (he.block _ (by omega)).trans h2, (he.block _ (by omega)).trans h3⟩
    · rintro k x W hx ⟨hi, hl, hk⟩
      have hlt := lt1 hl
      have hxm : x ∈ xs := List.mem_of_getElem? hx
      have hy := run_yield (P := C.P) (args := x.toArray) hl (by rw [hrec]; simpa using hps x hxm)
      rw [hrec] at hy
      have hzip : (ps.zip x.toArray).foldl (fun tmps (t, a) => tmps.setIfInBounds t a) a.tmps = (ps.toList.zip x).foldl (fun t p => t.setIfInBounds p.1 p.2) a.tmps := by
        rw [← Array.foldl_toList, Array.toList_zip]
      obtain ⟨hs1, hn1⟩ := putAll_sat (n := C.n) (ps := ps.toList) (vs := x) hs hn (fun p hp => by simpa using List.all_eq_true.1 hpn p hp)
      refine ⟨fn, _, assign, body, hy, ?_⟩
      simp only [hzip]
      refine roundIn_of_wpIn (F := Fr none) trivial ?_
      have hv := (vcCode_sound (C := { C with r := some (w.heap.size + 1) }) hT (hround (w.heap.size + 1) k x W hx hi)).out ⟨_, []⟩ hs1 hn1 rfl
      refine wpIn_mono hv ?_
      rintro e a1 Wa ⟨hn2, env1, hs2, hq⟩
      cases e with
      | normal =>
        obtain ⟨hd1, hkeep, hb⟩ := hq
        have hla := hkeep _ _ (by omega) hl (nd _)
        have hka := hkeep _ _ (by omega) hk (ndd _)
        have hlta := lt1 hla
        refine ⟨_, run_beginRound hla (by rw [hrec]), ?_⟩
        have hl2 : (Wa.putObj (w.heap.size + 1) (.loop { rec .ready none with state := .busy })).heap[w.heap.size + 1]? = some (.loop { rec .ready none with state := .busy }) := World.putObj_heap_same hlta
        have hk2 : (Wa.putObj (w.heap.size + 1) (.loop { rec .ready none with state := .busy })).heap[w.heap.size]? = some (.deferred (some [])) := (World.putObj_heap_other (by omega)).trans hka
        have hb := (vcCode_sound (C := { C with r := some (w.heap.size + 1) }) hT (hb _ (tw1 (.loop { rec .ready none with state := .busy }) hla))).out a1 hs2 hn2 hd1
        have fin : ∀ (jump : Option Code) (W3 : World), Keep w.heap.size (Wa.putObj (w.heap.size + 1) (.loop { rec .ready none with state := .busy })) W3 →
            (Instr.endRound (w.heap.size + 1) jump).run C.P W3 = .ok (.bool jump.isNone) (W3.putObj (w.heap.size + 1) (.loop (rec (if jump.isNone then .ready else .done) jump))) ∧
            Tw w.heap.size W3 (W3.putObj (w.heap.size + 1) (.loop (rec (if jump.isNone then .ready else .done) jump))) ∧
            (W3.putObj (w.heap.size + 1) (.loop (rec (if jump.isNone then .ready else .done) jump))).heap[w.heap.size + 1]? = some (.loop (rec (if jump.isNone then .ready else .done) jump)) ∧
            (W3.putObj (w.heap.size + 1) (.loop (rec (if jump.isNone then .ready else .done) jump))).heap[w.heap.size]? = some (.deferred (some [])) := fun jump W3 hk3 => by
          have hl3 := hk3 _ _ (by omega) hl2 (nd _)
          have h1 := run_endRound (P := C.P) jump hl3
          have h2 := hk3 _ _ (by omega) hk2 (ndd _)
          refine ⟨?_, tw1 _ hl3, World.putObj_heap_same (lt1 hl3), (World.putObj_heap_other (by omega)).trans h2⟩
          rw [hrec] at h1 ⊢
          exact h1
        refine wpIn_mono hb ?_
        rintro e a3 W3 ⟨_, _, _, hp⟩
        cases e with
        | normal =>
          obtain ⟨hk3, hi3⟩ := hp
          obtain ⟨hr, ht, hl4, hk4⟩ := fin none W3 hk3
          exact ⟨_, _, hr, true, rfl, fun _ => ⟨hI _ _ _ hi3 ht, hl4, hk4⟩, fun h => by cases h⟩
        | ret =>
          obtain ⟨hk3, hi3⟩ := hp
          obtain ⟨hr, ht, hl4, hk4⟩ := fin (some .ret) W3 hk3
          exact ⟨_, _, hr, false, rfl, fun h => (by cases h), fun _ => ⟨.ret, hIx _ _ _ hi3 ht, hl4, hk4⟩⟩
        | exit id =>
          obtain ⟨hk3, hi3⟩ := hp
          obtain ⟨hr, ht, hl4, hk4⟩ := fin (some (.exit id)) W3 hk3
          exact ⟨_, _, hr, false, rfl, fun h => (by cases h), fun _ => ⟨.exit id, hIx _ _ _ hi3 ht, hl4, hk4⟩⟩
        | goto t => exact hp.elim
        | panic ch => exact hp.elim
        | outgrown => exact hp.elim
      | _ => exact hq.elim
    · rintro e W2 ⟨v, rfl, (⟨hi, hl, hk⟩ | ⟨c, hi, hl, hk⟩)⟩
      · refine ⟨none, _, by have := run_endLoop (P := C.P) hl (by rw [hrec]; simp); rw [hrec] at this; exact this, hn, env, hs, ?_⟩
        have := hdone w.heap.size (W2.putObj (w.heap.size + 1) (.loop { rec .ready none with state := .exhausted })) (Nat.le_refl _) ((World.putObj_heap_other (by omega)).trans hk) (hI _ _ _ hi (tw1 _ hl))
        rw [hrec] at this
        simpa [hd] using this
      · refine ⟨some c, _, by have := run_endLoop (P := C.P) hl (by rw [hrec]; simp); rw [hrec] at this; exact this, ?_⟩
        have := hstop w.heap.size c (W2.putObj (w.heap.size + 1) (.loop { rec .done (some c) with state := .exhausted })) (Nat.le_refl _) ((World.putObj_heap_other (by omega)).trans hk) (hIx _ _ _ hi (tw1 _ hl))
        rw [hrec] at this
        have key := (vcCode_sound hT this).out { a with defers := [{ target := .collected w.heap.size, args := #[] }] ++ a.defers } hs hn (by simp [hd])
        rw [hro] at key
        exact key
end Go.Proofs.YtlhgmigoncmcaaaGreat
