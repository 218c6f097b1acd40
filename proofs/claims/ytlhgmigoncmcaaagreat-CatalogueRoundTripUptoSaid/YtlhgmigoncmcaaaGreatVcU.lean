/-
  A drawn region in which one allocation may come at any time.
-/
import Derived.Test.YtlhgmigoncmcaaaGreatVcR
namespace Go.Proofs.YtlhgmigoncmcaaaGreat
open Go Go.RowKit

/-- a cut behind a piece of code that ends as usual -/
theorem SemC.cutN {S : Type} {C : Cx} {c : Code} {env : Env} {ds : List Deferred} {w : World} {Q : Post} (M : S → Env) (I : S → World → Prop)
    (h : SemC C c env ds w (fun e env' ds' w' => match e with
      | .normal => ds' = ds ∧ ∃ s, subK env' (M s) ∧ I s w'
      | e => Q e env' ds' w'))
    (k : ∀ s w', I s w' → Q .normal (M s) ds w') : SemC C c env ds w Q := by
  refine ⟨fun a hs hn hd => wpIn_mono (h.out a hs hn hd) fun e a' w' ⟨h1, env', h2, h3⟩ => ?_⟩
  cases e with
  | normal =>
    simp only at h3
    obtain ⟨hds, s, h4, h5⟩ := h3
    exact ⟨h1, M s, fun t v ht => h2 t v (subK_sound h4 t v ht), by rw [hds]; exact k s w' h5⟩
  | _ => exact ⟨h1, env', h2, h3⟩

section
variable {C : Cx} {ops : List Oper} {xs ys : List Nat} {Rel : World → World → Prop} {Q : Exit → Act → World → Prop}
/-- two operations change places -/
theorem OpE.swap {i j : Nat} {o x : Oper} (hR : ∀ a b c : World, Rel a b → Rel b c → Rel a c) (hQ : ∀ d v ch a w, Q (.panic ch) (Act.put a d v) w → Q (.panic ch) a w) (hb : before1 C.T ops.toArray xs ys j x i o = true) {K : Act → World → Prop} {a : Act} {w : World}
    (h : OpE C ops xs ys Rel Q j x (OpE C ops xs ys Rel Q i o K) a w) : OpE C ops xs ys Rel Q i o (OpE C ops xs ys Rel Q j x K) a w := by
  simp only [before1, Bool.and_eq_true, Bool.or_eq_true, Bool.not_eq_true', List.contains_iff_mem] at hb
  obtain ⟨⟨⟨⟨hq, hap⟩, hsx⟩, hso⟩, hrd⟩ := hb
  obtain ⟨a1, a2, a3⟩ := Oper.apart_spec hap
  have hselx : ∀ cs b, x.op ≠ .select cs b := fun cs b e => by rw [e] at hsx; cases hsx
  have ho : ∀ (K : Act → World → Prop) (a : Act) (w : World), OpE C ops xs ys Rel Q j x K a w ↔ if Region.wanted x (yielded ops.toArray a.tmps) = true then (if quietOp C.T x.op = true then ∃ v, (∀ w1, (readsOp x.op = true → (j ∈ ys ∧ Rel w w1) ∨ w1 = w) → (Oper.semAt C.r a.eval x).run C.P w1 = .ok (.value v) w1) ∧ K (a.put x.dst v) w
     else x.wpIn (Fr C.r) 0 C.P a w (fun a1 w1 => (j ∈ xs → Rel w w1) ∧ K a1 w1) Q) else K (a.put x.dst undef) w := fun _ _ _ => Iff.rfl
  rw [ho] at h
  split at h
  · rename_i hw
    obtain ⟨v, hv, h⟩ := h
    have h := OpE.commute hso a1 a2 (hQ x.dst v) h
    refine OpE.mono h fun b w1 ⟨u, hb⟩ hw1 hg => ?_
    have hev : b.eval = (a.put o.dst u).eval := by funext z; cases z <;> simp [Act.eval, hb]
    rw [ho, hb, wanted_put (fun t ht => a3 t ht), if_pos hw, if_pos hq, hev, semAt_put hselx (fun t ht => a3 t ht)]
    refine ⟨v, fun w2 h2 => hv w2 fun hr => ?_, hg⟩
    rcases hw1 with rfl | ⟨hnq, hx⟩
    · exact h2 hr
    · rcases hrd with (hqo | hnr) | ⟨hi, hj⟩
      · simp [hqo] at hnq
      · simp [hr] at hnr
      · rcases h2 hr with ⟨_, h3⟩ | rfl
        · exact .inl ⟨hj, hR _ _ _ (hx hi) h3⟩
        · exact .inl ⟨hj, hx hi⟩
  · rename_i hw
    have h := OpE.commute hso a1 a2 (hQ x.dst undef) h
    refine OpE.mono h fun b w1 ⟨u, hb⟩ hw1 hg => ?_
    rw [ho, hb, wanted_put (fun t ht => a3 t ht), if_neg hw]
    exact hg
variable (C ops xs ys Rel Q) in
/-- the allocation al comes ahead of any that chs names, or of the first that dns names, or at the end -/
def GoodA (al : Nat) (oal : Oper) (dns chs : List Nat) : List (Nat × Oper) → Act → World → Prop
  | [], a, w => OpE C ops xs ys Rel Q al oal (Good C ops xs ys Rel Q []) a w
  | (i, o) :: r, a, w =>
    if memN i dns = true then OpE C ops xs ys Rel Q al oal (Good C ops xs ys Rel Q ((i, o) :: r)) a w
    else (memN i chs = true → OpE C ops xs ys Rel Q al oal (Good C ops xs ys Rel Q ((i, o) :: r)) a w) ∧ OpE C ops xs ys Rel Q i o (GoodA al oal dns chs r) a w
theorem GoodA.now {al : Nat} {oal : Oper} {dns chs : List Nat} (hR : ∀ a b c : World, Rel a b → Rel b c → Rel a c) (hQ : ∀ d v ch a w, Q (.panic ch) (Act.put a d v) w → Q (.panic ch) a w) : ∀ {l : List (Nat × Oper)} {a : Act} {w : World},
    (∀ p ∈ l, memN p.1 dns = false → memN p.1 chs = false → before1 C.T ops.toArray xs ys p.1 p.2 al oal = true) → GoodA C ops xs ys Rel Q al oal dns chs l a w → OpE C ops xs ys Rel Q al oal (Good C ops xs ys Rel Q l) a w
  | [], a, w, _, h => h
  | (i, o) :: r, a, w, hp, h => by
    simp only [GoodA] at h
    split at h
    · exact h
    · rename_i hd
      cases hc : memN i chs with
      | true => exact h.1 hc
      | false =>
        refine OpE.swap hR hQ (hp (i, o) (by simp) (by simpa using hd) hc) (OpE.mono h.2 fun a1 w1 _ _ hg => ?_)
        exact GoodA.now hR hQ (fun p hp' => hp p (by simp [hp'])) hg
theorem GoodA.move {al : Nat} {oal : Oper} {dns chs : List Nat} {i : Nat} {o : Oper} {B : List (Nat × Oper)} (hR : ∀ a b c : World, Rel a b → Rel b c → Rel a c) (hQ : ∀ d v ch a w, Q (.panic ch) (Act.put a d v) w → Q (.panic ch) a w) (hi : memN i dns = false) : ∀ {A : List (Nat × Oper)} {a : Act} {w : World},
    (∀ p ∈ A, before1 C.T ops.toArray xs ys p.1 p.2 i o = true ∧ memN p.1 dns = false ∧ memN p.1 chs = false) → GoodA C ops xs ys Rel Q al oal dns chs (A ++ (i, o) :: B) a w → OpE C ops xs ys Rel Q i o (GoodA C ops xs ys Rel Q al oal dns chs (A ++ B)) a w
  | [], a, w, _, h => by
    simp only [List.nil_append, GoodA, hi] at h
    exact h.2
  | (j, x) :: A, a, w, hA, h => by
    obtain ⟨hb, hd, hc⟩ := hA (j, x) (by simp)
    simp only [List.cons_append, GoodA, hd] at h
    have h2 := OpE.swap hR hQ hb (OpE.mono h.2 fun a1 w1 _ _ hg => GoodA.move hR hQ hi (fun p hp => hA p (by simp [hp])) hg)
    refine OpE.mono h2 fun a1 w1 _ _ hg => ?_
    simp only [List.cons_append, GoodA, hd, hc]
    exact ⟨fun h => (by cases h), hg⟩
def dnLast (dns : List Nat) : List Nat → Bool
  | [] => true
  | i :: r => match memN i dns with
    | true => r.all fun j => memN j dns
    | false => dnLast dns r
theorem dnLast_front {dns : List Nat} {i : Nat} {B : List Nat} (hi : memN i dns = false) : ∀ {A : List Nat}, dnLast dns (A ++ i :: B) = true → ∀ p ∈ A, memN p dns = false
  | [], _, p, hp => by simp at hp
  | x :: A, h, p, hp => by
    simp only [List.cons_append, dnLast] at h
    cases hx : memN x dns with
    | true =>
      rw [hx] at h
      have := List.all_eq_true.1 h i (by simp)
      rw [hi] at this
      cases this
    | false =>
      rw [hx] at h
      rcases List.mem_cons.1 hp with rfl | hp
      · exact hx
      · exact dnLast_front hi h p hp
theorem dnLast_del {dns : List Nat} {i : Nat} {B : List Nat} : ∀ {A : List Nat}, dnLast dns (A ++ i :: B) = true → dnLast dns (A ++ B) = true
  | [], h => by
    simp only [List.nil_append, dnLast] at h ⊢
    cases hx : memN i dns with
    | true =>
      rw [hx] at h
      cases B with
      | nil => rfl
      | cons y B =>
        have h1 := List.all_eq_true.1 h y (by simp)
        simp only [dnLast, h1]
        exact List.all_eq_true.2 fun z hz => List.all_eq_true.1 h z (by simp [hz])
    | false => rw [hx] at h; exact h
  | x :: A, h => by
    simp only [List.cons_append, dnLast] at h ⊢
    cases hx : memN x dns with
    | true =>
      rw [hx] at h
      refine List.all_eq_true.2 fun z hz => List.all_eq_true.1 h z ?_
      simp only [List.mem_append, List.mem_cons] at hz ⊢
      rcases hz with hz | hz
      · exact .inl hz
      · exact .inr (.inr hz)
    | false => rw [hx] at h; exact dnLast_del h
theorem withOps_mem {A : List Nat} {p : Nat × Oper} (h : p ∈ withOps ops A) : p.1 ∈ A ∧ ops[p.1]? = some p.2 := by
  simp only [withOps, List.mem_filterMap] at h
  obtain ⟨x, hx, h⟩ := h
  cases ho : ops[x]? with
  | none => simp [ho] at h
  | some o =>
    simp only [ho, Option.map_some, Option.some.injEq] at h
    subst h
    exact ⟨hx, ho⟩
theorem GoodA.any {al : Nat} {oal : Oper} {dns chs : List Nat} (hRt : ∀ a b c : World, Rel a b → Rel b c → Rel a c) (hQ : ∀ d v ch a w, Q (.panic ch) (Act.put a d v) w → Q (.panic ch) a w)
    (hal : ops[al]? = some oal) (hpre : preds oal = []) (hdn : ∀ i, memN i dns = true → al ∈ ancs ops ops.length i) (hch : ∀ i o, ops[i]? = some o → memN i chs = true → quietOp C.T o.op = false) : ∀ (fuel : Nat) (R : List Nat) (listed : Array Bool) (a : Act) (w : World), R.length + 1 ≤ fuel → R.Nodup → al ∉ R → listed.size = ops.length →
    (∀ i, i < ops.length → (listed.getD i true = false ↔ (i ∈ R ∨ i = al))) → (∀ i ∈ R, i < ops.length) → (∀ i o, ops[i]? = some o → listed.getD i true = true → ∀ j ∈ preds o, listed.getD j false = true) →
    topoOk ops R = true → pairsOk C.T ops xs ys R = true → dnLast dns R = true → (∀ p ∈ withOps ops R, memN p.1 dns = false → memN p.1 chs = false → before1 C.T ops.toArray xs ys p.1 p.2 al oal = true) →
    GoodA C ops xs ys Rel Q al oal dns chs (withOps ops R) a w → wpAnyIn (Fr C.r) 0 C.P .any ops.toArray Q fuel listed a w := by
  have hallt := (List.getElem?_eq_some_iff.1 hal).1
  intro fuel
  induction fuel with
  | zero => intro R listed a w hl; omega
  | succ fuel ih =>
    intro R listed a w hl hnd hnal hsz hR hlt hcl ht hp hdl hbf h
    have hgf : ∀ j, listed.getD j false = true → listed.getD j true = true := by
      intro j hj
      by_cases hlt : j < listed.size
      · simpa [Array.getD, hlt] using hj
      · simp [Array.getD, hlt] at hj
    have hall : listed.getD al true = false := (hR al hallt).2 (.inr rfl)
    have hset : ∀ i, i < ops.length → ∀ j d, (listed.setIfInBounds i true).getD j d = if i = j then true else listed.getD j d := by
      intro i hilt j d
      by_cases hj : j < listed.size
      · by_cases e : i = j
        · subst e; simp [Array.getD, hj]
        · simp [Array.getD, hj, e]
      · by_cases e : i = j
        · subst e; omega
        · simp [Array.getD, hj, e]
    refine ⟨fun hnil => ?_, fun i hi => ?_⟩
    · exfalso
      have hx : al ∈ Region.ready .any ops.toArray listed := ready_iff.2 ⟨oal, hal, hall, by simp [hpre]⟩
      rw [hnil] at hx
      simp at hx
    · obtain ⟨o, ho, h1, h2⟩ := ready_iff.1 hi
      have hilt := (List.getElem?_eq_some_iff.1 ho).1
      have hclo : ∀ j oj, ops[j]? = some oj → (listed.setIfInBounds i true).getD j true = true → ∀ k ∈ preds oj, (listed.setIfInBounds i true).getD k false = true := by
        intro j oj hoj hlj k hk
        rw [hset i hilt] at hlj ⊢
        by_cases e : i = j
        · subst e
          rw [ho] at hoj
          cases hoj
          have := h2 k hk
          split
          · rfl
          · exact this
        · rw [if_neg e] at hlj
          have := hcl j oj hoj hlj k hk
          split
          · rfl
          · exact this
      by_cases hia : i = al
      · subst hia
        rw [hal] at ho
        cases ho
        refine wpOpIn_mono (fun a1 w1 hg => ?_) (OpE.sound hal (GoodA.now hRt hQ hbf h))
        refine Good.any hRt hQ fuel R _ a1 w1 (by omega) hnd (by simpa using hsz) (fun j hj => ?_) hlt hclo ht hp hg
        rw [hset i hilt]
        by_cases e : i = j
        · subst e; simp only [if_true]; exact ⟨fun h => (by cases h), fun h => absurd h hnal⟩
        · rw [if_neg e, hR j hj]
          exact ⟨fun h => h.resolve_right (Ne.symm e), .inl⟩
      · have hiR := ((hR i hilt).1 h1).resolve_right hia
        obtain ⟨A, B, rfl⟩ := List.append_of_mem hiR
        have hna : ∀ x ∈ A, x ∉ ancs ops ops.length i := by
          intro x hx hc
          have hxl := ancs_listed hcl hgf ops.length i o ho h2 x hc
          have hxlt := hlt x (by simp [hx])
          have := (hR x hxlt).2 (.inl (by simp [hx]))
          rw [hgf x hxl] at this
          cases this
        have hidn : memN i dns = false := by
          cases hc : memN i dns with
          | false => rfl
          | true =>
            have hxl := ancs_listed hcl hgf ops.length i o ho h2 al (hdn i hc)
            rw [hgf al hxl] at hall
            cases hall
        rw [withOps_append, withOps_cons ho] at h
        have hfr := dnLast_front hidn hdl
        have hm := GoodA.move hRt hQ hidn (fun p hp' => by
          have hb := pairsOk_mem ho hp hna p hp'
          obtain ⟨hpA, hpo⟩ := withOps_mem hp'
          refine ⟨hb, hfr _ hpA, ?_⟩
          cases hc : memN p.1 chs with
          | false => rfl
          | true =>
            have hq := hch _ _ hpo hc
            simp only [before1, Bool.and_eq_true] at hb
            rw [hb.1.1.1.1] at hq
            cases hq) h
        rw [← withOps_append] at hm
        refine wpOpIn_mono (fun a1 w1 hg => ?_) (OpE.sound ho hm)
        have hni : i ∉ A ++ B := by
          have := hnd
          rw [List.nodup_append] at this
          intro hc
          rcases List.mem_append.1 hc with hc | hc
          · exact this.2.2 i hc i (by simp) rfl
          · exact (List.nodup_cons.1 this.2.1).1 hc
        have hsub : ∀ j, j ∈ A ++ B → j ∈ A ++ i :: B := by
          intro j hj
          simp only [List.mem_append, List.mem_cons] at hj ⊢
          rcases hj with hj | hj
          · exact .inl hj
          · exact .inr (.inr hj)
        refine ih (A ++ B) _ a1 w1 (by simp at hl ⊢; omega) ?_ (fun hc => hnal (hsub _ hc)) (by simpa using hsz) ?_ (fun j hj => hlt j (hsub j hj)) hclo (topoOk_del ht) (pairsOk_del hp) (dnLast_del hdl) ?_ hg
        · have := hnd
          rw [List.nodup_append] at this ⊢
          refine ⟨this.1, (List.nodup_cons.1 this.2.1).2, fun x hx y hy => this.2.2 x hx y (by simp [hy])⟩
        · intro j hj
          rw [hset i hilt]
          by_cases e : i = j
          · subst e; simp only [if_true]
            exact ⟨fun h => (by cases h), fun h => h.elim (fun h => absurd h hni) (fun h => absurd h hia)⟩
          · rw [if_neg e, hR j hj]
            simp only [List.mem_append, List.mem_cons]
            constructor
            · rintro ((h | h | h) | h)
              · exact .inl (.inl h)
              · exact absurd h.symm e
              · exact .inl (.inr h)
              · exact .inr h
            · rintro ((h | h) | h)
              · exact .inl (.inl h)
              · exact .inl (.inr (.inr h))
              · exact .inr h
        · intro p hp'
          refine hbf p ?_
          rw [withOps_append] at hp' ⊢
          rw [withOps_cons ho]
          rcases List.mem_append.1 hp' with hq | hq
          · exact List.mem_append.2 (.inl hq)
          · exact List.mem_append.2 (.inr (List.mem_cons_of_mem _ hq))
end
/-! ### the condition -/
def opsStepA (C : Cx) (ops : List Oper) (xs : List Nat) (al : Nat) (dns chs : List Nat) (i : Nat) (rest : List Nat) (r : OpsDen) : OpsDen := fun env w K Z =>
  match memN i dns with
  | true => vcOpsD C ops xs (al :: i :: rest) env w K Z
  | false => match memN i chs with
    | true => vcOpsD C ops xs (al :: i :: rest) env w K Z ∧ opsStepD C ops xs i rest r env w K Z
    | false => opsStepD C ops xs i rest r env w K Z
noncomputable def vcOpsA (C : Cx) (ops : List Oper) (xs : List Nat) (al : Nat) (dns chs l : List Nat) : OpsDen := List.rec (motive := fun _ => OpsDen) (vcOpsD C ops xs [al]) (opsStepA C ops xs al dns chs) l
theorem vcOpsA_cons {C : Cx} {ops : List Oper} {xs : List Nat} {al : Nat} {dns chs : List Nat} {i : Nat} {rest : List Nat} {env : Env} {w : World} {K : Env → World → Prop} {Z : List PanicEntry → World → Prop} : vcOpsA C ops xs al dns chs (i :: rest) env w K Z = opsStepA C ops xs al dns chs i rest (vcOpsA C ops xs al dns chs rest) env w K Z := rfl
theorem stepD_sound {C : Cx} (hT : TabOk C.P C.T) {ops : List Oper} {xs ys : List Nat} {Q : Exit → Act → World → Prop} {K : Env → World → Prop} {Z : List PanicEntry → World → Prop} {ds : List Deferred} {i : Nat} {rest : List Nat} {r : OpsDen} {G : Act → World → Prop}
    (hZ : ∀ (a : Act) w ch, a.tmps.size = C.n → a.defers = ds → Z ch w → Q (.panic ch) a w) (hr : ∀ env (a : Act) w, Sat env a.tmps → a.tmps.size = C.n → a.defers = ds → r env w K Z → G a w) {env : Env} {a : Act} {w : World} (hs : Sat env a.tmps) (hn : a.tmps.size = C.n) (hd : a.defers = ds)
    (h : opsStepD C ops xs i rest r env w K Z) : ∃ o, ops[i]? = some o ∧ OpE C ops xs ys Ext Q i o G a w := by
  unfold opsStepD at h
  obtain ⟨o, ho, h⟩ := opK_sound h
  refine ⟨o, ho, ?_⟩
  simp only [OpE]
  rcases guardK_sound h hs with ⟨hw, env', hs', h'⟩ | ⟨hw, env', hs', h'⟩
  · rw [if_pos hw]
    cases hq : quietOp C.T o.op with
    | true =>
      rw [if_pos rfl]
      obtain ⟨v, h1, h2⟩ := vop_steady hT hs' hq h'
      refine ⟨v, fun w1 hr => h1 w1 fun h => (hr h).elim (·.2) (fun e => e ▸ Ext.refl _), ?_⟩
      obtain ⟨env'', h3, h4, h5, h6⟩ := putK_sound (extK_sound h2).2 hs' hn
      exact hr _ _ _ h3 h4 (h5.trans hd) h6
    | false =>
      rw [if_neg (by simp)]
      refine vop_sound hT hs' h' (fun v w' hk => ?_) (fun ch w' hz => hZ a w' ch hn hd hz)
      obtain ⟨h1, h2⟩ := extK_sound hk
      refine ⟨fun hi => h1 (memN_iff.2 hi), ?_⟩
      obtain ⟨env'', h3, h4, h5, h6⟩ := putK_sound h2 hs' hn
      exact hr _ _ _ h3 h4 (h5.trans hd) h6
  · rw [if_neg (by simp [hw])]
    obtain ⟨env'', h3, h4, h5, h6⟩ := putK_sound h' hs' hn
    exact hr _ _ _ h3 h4 (h5.trans hd) h6
theorem vcOpsA_sound {C : Cx} (hT : TabOk C.P C.T) {ops : List Oper} {xs ys : List Nat} {al : Nat} {oal : Oper} (hal : ops[al]? = some oal) {dns chs : List Nat} {Q : Exit → Act → World → Prop} {K : Env → World → Prop} {Z : List PanicEntry → World → Prop} {ds : List Deferred}
    (hQ : ∀ env (a : Act) w, Sat env a.tmps → a.tmps.size = C.n → a.defers = ds → K env w → Q .normal a w) (hZ : ∀ (a : Act) w ch, a.tmps.size = C.n → a.defers = ds → Z ch w → Q (.panic ch) a w) :
    ∀ {l : List Nat} {env : Env} {a : Act} {w : World}, (∀ i ∈ l, i < ops.length) → Sat env a.tmps → a.tmps.size = C.n → a.defers = ds → vcOpsA C ops xs al dns chs l env w K Z → GoodA C ops xs ys Ext Q al oal dns chs (withOps ops l) a w
  | [], env, a, w, _, hs, hn, hd, h => by
    have h : vcOpsD C ops xs [al] env w K Z := h
    have := vcOpsD_sound (ys := ys) hT hQ hZ hs hn hd h
    rw [withOps_cons hal] at this
    exact this
  | i :: rest, env, a, w, hl, hs, hn, hd, h => by
    have hilt := hl i (by simp)
    have hoi : ops[i]? = some ops[i] := List.getElem?_eq_getElem hilt
    have now : vcOpsD C ops xs (al :: i :: rest) env w K Z → OpE C ops xs ys Ext Q al oal (Good C ops xs ys Ext Q ((i, ops[i]) :: withOps ops rest)) a w := by
      intro h
      have := vcOpsD_sound (ys := ys) hT hQ hZ hs hn hd h
      rw [withOps_cons hal, withOps_cons hoi] at this
      exact this
    have step : opsStepD C ops xs i rest (vcOpsA C ops xs al dns chs rest) env w K Z → OpE C ops xs ys Ext Q i ops[i] (GoodA C ops xs ys Ext Q al oal dns chs (withOps ops rest)) a w := by
      intro h
      obtain ⟨o, ho, h⟩ := stepD_sound (ys := ys) (G := GoodA C ops xs ys Ext Q al oal dns chs (withOps ops rest)) hT hZ (fun env a w h1 h2 h3 h4 => vcOpsA_sound hT hal hQ hZ (fun j hj => hl j (by simp [hj])) h1 h2 h3 h4) hs hn hd h
      rw [hoi] at ho
      cases ho
      exact h
    rw [vcOpsA_cons] at h
    unfold opsStepA at h
    rw [withOps_cons hoi]
    simp only [GoodA]
    cases h1 : memN i dns with
    | true => rw [h1] at h; exact now h
    | false =>
      rw [h1] at h
      rw [if_neg (by simp)]
      cases h2 : memN i chs with
      | true => rw [h2] at h; exact ⟨fun _ => now h.1, step h.2⟩
      | false => rw [h2] at h; exact ⟨fun h => (by cases h), step h⟩
def orderOkA (T : List TD) (ops : List Oper) (xs ys π : List Nat) (al : Nat) (dns chs : List Nat) : Bool :=
  topoOk ops π && pairsOk T ops xs ys π && ((List.range ops.length).all fun i => π.contains i || decide (i = al)) && decide (π.length + 1 = ops.length) && decide π.Nodup && (π.all fun i => decide (i < ops.length)) && !π.contains al && dnLast dns π &&
    (match ops[al]? with
      | some oal => (preds oal).isEmpty && (dns.all fun i => (ancs ops ops.length i).contains al) && (chs.all fun i => match ops[i]? with | some o => !quietOp T o.op | none => false) &&
        π.all fun i => memN i dns || memN i chs || (match ops[i]? with | some o => before1 T ops.toArray xs ys i o al oal | none => false)
      | none => false)
theorem draw_vcA {C : Cx} (hT : TabOk C.P C.T) (hm : C.P.follows .mixedOrders = true) {id : Nat} {ops : Array Oper} {env : Env} {ds : List Deferred} {w : World} {Q : Post} (xs π : List Nat) (al : Nat) (dns chs : List Nat)
    (hok : orderOkA C.T ops.toList xs π π al dns chs = true)
    (h : ∀ w1, Drew w w1 → vcOpsA C ops.toList xs al dns chs π env w1 (fun env' w' => pruneK env' C.live fun e' => Q .normal e' ds w') (fun ch w' => Q (.panic ch) [] ds w')) :
    SemC C (.region id ops true) env ds w Q := by
  refine ⟨fun a hs hn hd => ?_⟩
  simp only [orderOkA, Bool.and_eq_true, decide_eq_true_eq, Bool.not_eq_true', ← Bool.not_eq_true, List.contains_iff_mem] at hok
  obtain ⟨⟨⟨⟨⟨⟨⟨⟨ht, hp⟩, hall⟩, hlen⟩, hnodup⟩, hlts⟩, hnal⟩, hdl⟩, hrest⟩ := hok
  cases hal : ops.toList[al]? with
  | none => rw [hal] at hrest; cases hrest
  | some oal =>
    rw [hal] at hrest
    simp only [Bool.and_eq_true, List.isEmpty_iff] at hrest
    obtain ⟨⟨⟨hpre, hdns⟩, hchs⟩, hbf⟩ := hrest
    have hmem : ∀ i, i < ops.toList.length → i ∈ π ∨ i = al := fun i hi => by simpa using List.all_eq_true.1 hall i (by simpa using hi)
    have key := h { w with drawn := w.drawn + 1 } ⟨rfl, rfl, rfl, rfl, Nat.le_refl _, fun _ _ => rfl⟩
    let Q' : Exit → Act → World → Prop := fun e a' w' => a'.tmps.size = C.n ∧ match e with
      | .panic ch => Q (.panic ch) [] a'.defers w'
      | e => ∃ env', Sat env' a'.tmps ∧ Q e env' a'.defers w'
    have hlt : ∀ i ∈ π, i < ops.toList.length := fun i hi => by simpa using List.all_eq_true.1 hlts i hi
    refine wpIn_mono (Q := Q') ?_ (fun e a' w' hq => ?_)
    · refine wpIn_region_any hm ?_
      have hg : GoodA C ops.toList xs π Ext Q' al oal dns chs (withOps ops.toList π) a { w with drawn := w.drawn + 1 } := by
        refine vcOpsA_sound hT hal (ds := ds) (fun env' a' w' h1 h2 h3 h4 => ?_) (fun a' w' ch h1 h2 h3 => ?_) hlt hs hn hd key
        · obtain ⟨e', h5, h6⟩ := pruneK_sound h4
          exact ⟨h2, e', fun t v ht => h1 t v (h5 t v ht), h3 ▸ h6⟩
        · exact ⟨h1, h2 ▸ h3⟩
      have := GoodA.any (C := C) (ops := ops.toList) (xs := xs) (ys := π) (Rel := Ext) (Q := Q') (fun _ _ _ h k => Ext.trans h k) (fun d v ch a w hq => by
        obtain ⟨h1, h2⟩ := hq
        refine ⟨?_, ?_⟩
        · cases d <;> simpa [Act.put] using h1
        · cases d <;> exact h2) hal hpre (fun i hi => by simpa using List.all_eq_true.1 hdns i (memN_iff.1 hi)) (fun i o ho hi => by
          have := List.all_eq_true.1 hchs i (memN_iff.1 hi)
          rw [ho] at this
          simpa using this) ops.size π (Array.replicate ops.size false) a { w with drawn := w.drawn + 1 } (by simp at hlen; omega) hnodup hnal (by simp) (fun i hi => ?_) hlt (fun i o ho hl => ?_) ht hp hdl (fun p hp' h1 h2 => ?_) hg
      · simpa using this
      · have h' : i < ops.size := by simpa using hi
        simp [Array.getD, h', hmem i hi]
      · have : i < ops.size := by simpa using (List.getElem?_eq_some_iff.1 ho).1
        simp [Array.getD, this] at hl
      · obtain ⟨hpm, hpo⟩ := withOps_mem hp'
        have := List.all_eq_true.1 hbf _ hpm
        rw [h1, h2, hpo] at this
        simpa using this
    · obtain ⟨h1, h2⟩ := hq
      cases e with
      | panic ch => exact ⟨h1, [], Sat.nil _, h2⟩
      | _ => exact ⟨h1, h2⟩
end Go.Proofs.YtlhgmigoncmcaaaGreat
