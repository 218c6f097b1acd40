/-
  A drawn region in which one allocation may come at any time.
-/
import Derived.Test.YtffaffojkfalhaaGreatDoorVcR
namespace Go.Proofs.YtffaffojkfalhaaGreatDoor
open Go Go.RowKit

/-- a cut behind a piece of code that ends as usual -/
theorem SemC.cutN {S : Type} {C : Cx} {c : Code} {env : Env} {ds : List Deferred} {w : World} {Q : Post} (M : S → Env) (I : S → World → Prop)
    (h : SemC C c env ds w (fun e env' ds' w' => match e with
      | .normal => ds' = ds ∧ ∃ s, subK env' (M s) ∧ I s w'
      | e => Q e env' ds' w'))
    (k : ∀ s w', I s w' → Q .normal (M s) ds w') : SemC C c env ds w Q := by
  refine ⟨fun a hs hn hd => wpIn_mono (h.out a hs hn hd) fun e a' w' ⟨h1, env', h2, h3⟩ => ?_⟩
  cases e with
  | normal =>
    simp only at h3
    obtain ⟨hds, s, h4, h5⟩ := h3
    exact ⟨h1, M s, fun t v ht => h2 t v (subK_sound h4 t v ht), by rw [hds]; exact k s w' h5⟩
  | _ => exact ⟨h1, env', h2, h3⟩

section
variable {C : Cx} {ops : List Oper} {xs ys : List Nat} {Rel : World → World → Prop} {Q : Exit → Act → World → Prop}
/-- two operations change places -/
theorem OpE.swap {i j : Nat} {o x : Oper} (hR : ∀ a b c : World, Rel a b → Rel b c → Rel a c) (hQ : ∀ d v ch a w, Q (.panic ch) (Act.put a d v) w → Q (.panic ch) a w) (hb : before1 C.T ops.toArray xs ys j x i o = true) {K : Act → World → Prop} {a : Act} {w : World}
    (h : OpE C ops xs ys Rel Q j x (OpE C ops xs ys Rel Q i o K) a w) : OpE C ops xs ys Rel Q i o (OpE C ops xs ys Rel Q j x K) a w := by
  simp only [before1, Bool.and_eq_true, Bool.or_eq_true, Bool.not_eq_true', List.contains_iff_mem] at hb
  obtain ⟨⟨⟨⟨hq, hap⟩, hsx⟩, hso⟩, hrd⟩ := hb
  obtain ⟨a1, a2, a3⟩ := Oper.apart_spec hap
  have hselx : ∀ cs b, x.op ≠ .select cs b := fun cs b e => by rw [e] at hsx; cases hsx
  have ho : ∀ (K : Act → World → Prop) (a : Act) (w : World), OpE C ops xs ys Rel Q j x K a w ↔ if Region.wanted x (yielded ops.toArray a.tmps) = true then (if quietOp C.T x.op = true then ∃ v, (∀ w1, (readsOp x.op = true → (j ∈ ys ∧ Rel w w1) ∨ w1 = w) → (Oper.semAt C.r a.eval x).run C.P w1 = .ok (.value v) w1) ∧ K (a.put x.dst v) w
     else x.wpIn (Fr C.r) 0 C.P a w (fun a1 w1 => (j ∈ xs → Rel w w1) ∧ K a1 w1) Q) else K (a.put x.dst undef) w := fun _ _ _ => Iff.rfl
  rw [ho] at h
  split at h
  · rename_i hw
    obtain ⟨v, hv, h⟩ := h
    have h := OpE.commute hso a1 a2 (hQ x.dst v) h
    refine OpE.mono h fun b w1 ⟨u, hb⟩ hw1 hg => ?_
    have hev : b.eval = (a.put o.dst u).eval := by funext z; cases z <;> simp [Act.eval, hb]
    rw [ho, hb, wanted_put (fun t ht => a3 t ht), if_pos hw, if_pos hq, hev, semAt_put hselx (fun t ht => a3 t ht)]
    refine ⟨v, fun w2 h2 => hv w2 fun hr => ?_, hg⟩
    rcases hw1 with rfl | ⟨hnq, hx⟩
    · exact h2 hr
    · rcases hrd with (hqo | hnr) | ⟨hi, hj⟩
      · simp [hqo] at hnq
      · simp [hr] at hnr
      · rcases h2 hr with ⟨_, h3⟩ | rfl
        · exact .inl ⟨hj, hR _ _ _ (hx hi) h3⟩
        · exact .inl ⟨hj, hx hi⟩
  · rename_i hw
    have h := OpE.commute hso a1 a2 (hQ x.dst undef) h
    refine OpE.mono h fun b w1 ⟨u, hb⟩ hw1 hg => ?_
    rw [ho, hb, wanted_put (fun t ht => a3 t ht), if_neg hw]
    exact hg
end
/-! ### the condition -/
theorem stepD_sound {C : Cx} (hT : TabOk C.P C.T) {ops : List Oper} {xs ys : List Nat} {Q : Exit → Act → World → Prop} {K : Env → World → Prop} {Z : List PanicEntry → World → Prop} {ds : List Deferred} {i : Nat} {rest : List Nat} {r : OpsDen} {G : Act → World → Prop}
    (hZ : ∀ (a : Act) w ch, a.tmps.size = C.n → a.defers = ds → Z ch w → Q (.panic ch) a w) (hr : ∀ env (a : Act) w, Sat env a.tmps → a.tmps.size = C.n → a.defers = ds → r env w K Z → G a w) {env : Env} {a : Act} {w : World} (hs : Sat env a.tmps) (hn : a.tmps.size = C.n) (hd : a.defers = ds)
    (h : opsStepD C ops xs i rest r env w K Z) : ∃ o, ops[i]? = some o ∧ OpE C ops xs ys Ext Q i o G a w := by
  unfold opsStepD at h
  obtain ⟨o, ho, h⟩ := opK_sound h
  refine ⟨o, ho, ?_⟩
  simp only [OpE]
  rcases guardK_sound h hs with ⟨hw, env', hs', h'⟩ | ⟨hw, env', hs', h'⟩
  · rw [if_pos hw]
    cases hq : quietOp C.T o.op with
    | true =>
      rw [if_pos rfl]
      obtain ⟨v, h1, h2⟩ := vop_steady hT hs' hq h'
      refine ⟨v, fun w1 hr => h1 w1 fun h => (hr h).elim (·.2) (fun e => e ▸ Ext.refl _), ?_⟩
      obtain ⟨env'', h3, h4, h5, h6⟩ := putK_sound (extK_sound h2).2 hs' hn
      exact hr _ _ _ h3 h4 (h5.trans hd) h6
    | false =>
      rw [if_neg (by simp)]
      refine vop_sound hT hs' h' (fun v w' hk => ?_) (fun ch w' hz => hZ a w' ch hn hd hz)
      obtain ⟨h1, h2⟩ := extK_sound hk
      refine ⟨fun hi => h1 (memN_iff.2 hi), ?_⟩
      obtain ⟨env'', h3, h4, h5, h6⟩ := putK_sound h2 hs' hn
      exact hr _ _ _ h3 h4 (h5.trans hd) h6
  · rw [if_neg (by simp [hw])]
    obtain ⟨env'', h3, h4, h5, h6⟩ := putK_sound h' hs' hn
    exact hr _ _ _ h3 h4 (h5.trans hd) h6
end Go.Proofs.YtffaffojkfalhaaGreatDoor
namespace Go.Proofs.YtffaffojkfalhaaGreatDoor
open Go Go.RowKit

def delN (j : Nat) : List Nat → List Nat
  | [] => []
  | i :: r => match Nat.beq i j with
    | true => r
    | false => i :: delN j r
theorem delN_eq {j : Nat} {A B : List Nat} (h : j ∉ A) : delN j (A ++ j :: B) = A ++ B := by
  induction A with
  | nil => simp [delN]
  | cons x A ih =>
    have hx : Nat.beq x j = false := by
      cases e : Nat.beq x j with
      | false => rfl
      | true => exact absurd (by rw [Nat.eq_of_beq_eq_true e]; simp) h
    simp only [List.cons_append, delN, hx]
    rw [ih (fun hc => h (by simp [hc]))]
abbrev Effs := List (Nat × List Nat)
/-- none of an is left -/
def freeN (R : List Nat) : List Nat → Bool
  | [] => true
  | x :: r => match memN x R with
    | true => false
    | false => freeN R r
theorem freeN_of {R an : List Nat} (h : ∀ x ∈ an, x ∉ R) : freeN R an = true := by
  induction an with
  | nil => rfl
  | cons x r ih =>
    have : memN x R = false := by
      cases e : memN x R with
      | false => rfl
      | true => exact absurd (memN_iff.1 e) (h x (by simp))
    simp only [freeN, this]
    exact ih fun y hy => h y (by simp [hy])
def canN (R : List Nat) (j : Nat) (an : List Nat) : Bool := match memN j R with
  | true => freeN R an
  | false => false
def anyN (R : List Nat) : Effs → Bool
  | [] => false
  | (j, an) :: r => match canN R j an with
    | true => true
    | false => anyN R r
def isEff (i : Nat) : Effs → Bool
  | [] => false
  | (j, _) :: r => match Nat.beq i j with
    | true => true
    | false => isEff i r
theorem isEff_iff {i : Nat} {E : Effs} : isEff i E = true ↔ ∃ an, (i, an) ∈ E := by
  induction E with
  | nil => simp [isEff]
  | cons p r ih =>
    obtain ⟨j, an⟩ := p
    simp only [isEff]
    cases e : Nat.beq i j with
    | true =>
      have := Nat.eq_of_beq_eq_true e
      subst this
      simp only [true_iff]
      exact ⟨an, by simp⟩
    | false =>
      have hne := Nat.ne_of_beq_eq_false e
      simp only
      rw [ih]
      constructor
      · rintro ⟨a, ha⟩; exact ⟨a, by simp [ha]⟩
      · rintro ⟨a, ha⟩
        rcases List.mem_cons.1 ha with h | h
        · exact absurd (Prod.mk.inj h).1 hne
        · exact ⟨a, h⟩
/-- f for each effect that may come now -/
def candK (R : List Nat) (f : Nat → Prop) : Effs → Prop
  | [] => True
  | (j, an) :: r => match canN R j an with
    | true => (match anyN R r with
      | true => f j ∧ candK R f r
      | false => f j)
    | false => candK R f r
theorem candK_iff {R : List Nat} {f : Nat → Prop} {E : Effs} (h : candK R f E) : ∀ j an, (j, an) ∈ E → canN R j an = true → f j := by
  induction E with
  | nil => intro j an hm; simp at hm
  | cons p r ih =>
    obtain ⟨i, bn⟩ := p
    intro j an hm hc
    simp only [candK] at h
    have anyOf : ∀ (E : Effs), (j, an) ∈ E → anyN R E = true := by
      intro E
      induction E with
      | nil => intro h; simp at h
      | cons q E ihE =>
        obtain ⟨k, cn⟩ := q
        intro hq
        simp only [anyN]
        cases hk : canN R k cn with
        | true => rfl
        | false =>
          rcases List.mem_cons.1 hq with e | hq
          · cases e; rw [hc] at hk; cases hk
          · exact ihE hq
    rcases List.mem_cons.1 hm with e | hm
    · cases e
      rw [hc] at h
      simp only at h
      split at h
      · exact h.1
      · exact h
    · have ha := anyOf r hm
      cases hi : canN R i bn with
      | true => rw [hi, ha] at h; exact ih h.2 j an hm hc
      | false => rw [hi] at h; exact ih h j an hm hc
section
variable {C : Cx} {ops : List Oper} {xs ys : List Nat} {Rel : World → World → Prop} {Q : Exit → Act → World → Prop}
variable (C ops xs ys Rel Q) in
def GoodT (E : Effs) : Nat → List Nat → Act → World → Prop
  | 0, _, a, w => Q .normal a w
  | _ + 1, [], a, w => Q .normal a w
  | n + 1, i :: r, a, w => match isEff i E with
    | true => candK (i :: r) (fun j => ∀ o, ops[j]? = some o → OpE C ops xs ys Rel Q j o (GoodT E n (delN j (i :: r))) a w) E
    | false => ∀ o, ops[i]? = some o → OpE C ops xs ys Rel Q i o (GoodT E n r) a w
def pairsOkT (T : List TD) (ops : List Oper) (xs ys : List Nat) (E : Effs) : List Nat → Bool
  | [] => true
  | x :: r => (match ops[x]? with
    | some ox => r.all fun i => (ancs ops ops.length i).contains x || (isEff x E && isEff i E) || (!isEff x E && (match ops[i]? with
      | some oi => before1 T ops.toArray xs ys x ox i oi
      | none => false))
    | none => false) && pairsOkT T ops xs ys E r
theorem pairsOkT_del {E : Effs} {A B : List Nat} {i : Nat} : pairsOkT C.T ops xs ys E (A ++ i :: B) = true → pairsOkT C.T ops xs ys E (A ++ B) = true := by
  induction A with
  | nil => intro h; simp only [List.nil_append, pairsOkT, Bool.and_eq_true] at h ⊢; exact h.2
  | cons x A ih =>
    intro h
    simp only [List.cons_append, pairsOkT, Bool.and_eq_true] at h ⊢
    refine ⟨?_, ih h.2⟩
    have h1 := h.1
    cases ho : ops[x]? with
    | none => simp [ho] at h1
    | some o =>
      simp only [ho] at h1
      refine List.all_eq_true.2 fun j hj => List.all_eq_true.1 h1 j ?_
      simp only [List.mem_append, List.mem_cons] at hj ⊢
      rcases hj with hj | hj
      · exact .inl hj
      · exact .inr (.inr hj)
theorem GoodT.move {E : Effs} {i : Nat} {o : Oper} {B : List Nat} (ho : ops[i]? = some o) (hR : ∀ a b c : World, Rel a b → Rel b c → Rel a c) (hQ : ∀ d v ch a w, Q (.panic ch) (Act.put a d v) w → Q (.panic ch) a w)
    (hE : ∀ an, (i, an) ∈ E → ∀ x ∈ an, x ∈ ancs ops ops.length i) : ∀ {A : List Nat} {n : Nat} {a : Act} {w : World}, (A ++ i :: B).length = n + 1 → (A ++ i :: B).Nodup → (∀ x ∈ A ++ i :: B, x ∉ ancs ops ops.length i) →
    pairsOkT C.T ops xs ys E (A ++ i :: B) = true → GoodT C ops xs ys Rel Q E (n + 1) (A ++ i :: B) a w → OpE C ops xs ys Rel Q i o (GoodT C ops xs ys Rel Q E n (A ++ B)) a w
  | [], n, a, w, hl, hnd, hna, hp, h => by
    simp only [List.nil_append] at h hna ⊢
    simp only [GoodT] at h
    cases he : isEff i E with
    | false => rw [he] at h; exact h o ho
    | true =>
      rw [he] at h
      obtain ⟨an, han⟩ := isEff_iff.1 he
      have hc : canN (i :: B) i an = true := by
        unfold canN
        rw [memN_iff.2 (by simp)]
        exact freeN_of fun x hx hm => hna x hm (hE an han x hx)
      have := candK_iff h i an han hc o ho
      have e : delN i (i :: B) = B := delN_eq (A := []) (by simp)
      rw [e] at this
      exact this
  | x :: A, n, a, w, hl, hnd, hna, hp, h => by
    have hp' := hp
    simp only [List.cons_append, pairsOkT, Bool.and_eq_true] at hp
    cases he : isEff x E with
    | false =>
      obtain ⟨m, rfl⟩ : ∃ m, n = m + 1 := ⟨n - 1, by simp at hl; omega⟩
      have h1 := hp.1
      cases hx : ops[x]? with
      | none => rw [hx] at h1; cases h1
      | some ox =>
        rw [hx] at h1
        have h1 := List.all_eq_true.1 h1 i (by simp)
        rw [he, ho] at h1
        simp only [Bool.false_and, Bool.or_false, Bool.not_false, Bool.true_and, Bool.or_eq_true, List.contains_iff_mem] at h1
        have hb := h1.resolve_left (hna x (by simp))
        simp only [List.cons_append, GoodT, he] at h
        have h2 := OpE.swap hR hQ hb (OpE.mono (h ox hx) fun a1 w1 _ _ hg => GoodT.move (B := B) ho hR hQ hE (A := A) (by simp at hl ⊢; omega) (List.nodup_cons.1 hnd).2 (fun y hy => hna y (by simp at hy ⊢; exact .inr hy)) hp.2 hg)
        refine OpE.mono h2 fun a1 w1 _ _ hg => ?_
        simp only [List.cons_append, GoodT, he]
        intro o' ho'
        rw [hx] at ho'
        cases ho'
        exact hg
    | true =>
      simp only [List.cons_append, GoodT, he] at h
      have h1 := hp.1
      cases hx : ops[x]? with
      | none => rw [hx] at h1; cases h1
      | some ox =>
        rw [hx] at h1
        have h1 := List.all_eq_true.1 h1 i (by simp)
        rw [he, ho] at h1
        simp only [Bool.not_true, Bool.false_and, Bool.or_false, Bool.true_and, Bool.or_eq_true, List.contains_iff_mem] at h1
        have hie := h1.resolve_left (hna x (by simp))
        obtain ⟨an, han⟩ := isEff_iff.1 hie
        have hc : canN (x :: (A ++ i :: B)) i an = true := by
          unfold canN
          rw [memN_iff.2 (by simp)]
          exact freeN_of fun y hy hm => hna y (by simpa using hm) (hE an han y hy)
        have := candK_iff h i an han hc o ho
        have hni : i ∉ x :: A := by
          intro hc
          have := List.nodup_append.1 (show ((x :: A) ++ i :: B).Nodup from hnd)
          exact this.2.2 i hc i (by simp) rfl
        have e : delN i (x :: (A ++ i :: B)) = x :: A ++ B := delN_eq (A := x :: A) hni
        rw [e] at this
        exact this
theorem GoodT.any {E : Effs} (hRt : ∀ a b c : World, Rel a b → Rel b c → Rel a c) (hQ : ∀ d v ch a w, Q (.panic ch) (Act.put a d v) w → Q (.panic ch) a w) (hE : ∀ i an, (i, an) ∈ E → ∀ x ∈ an, x ∈ ancs ops ops.length i) : ∀ (fuel : Nat) (R : List Nat) (listed : Array Bool) (a : Act) (w : World), R.length ≤ fuel → R.Nodup → listed.size = ops.length →
    (∀ i, i < ops.length → (listed.getD i true = false ↔ i ∈ R)) → (∀ i ∈ R, i < ops.length) → (∀ i o, ops[i]? = some o → listed.getD i true = true → ∀ j ∈ preds o, listed.getD j false = true) →
    topoOk ops R = true → pairsOkT C.T ops xs ys E R = true → GoodT C ops xs ys Rel Q E R.length R a w → wpAnyIn (Fr C.r) 0 C.P .any ops.toArray Q fuel listed a w := by
  intro fuel
  induction fuel with
  | zero =>
    intro R listed a w hl hnd hsz hR hlt hcl ht hp h
    have : R = [] := List.eq_nil_of_length_eq_zero (by omega)
    subst this
    refine ⟨?_, h⟩
    rw [List.eq_nil_iff_forall_not_mem]
    intro i hi
    obtain ⟨o, ho, h1, _⟩ := ready_iff.1 hi
    exact absurd ((hR i (List.getElem?_eq_some_iff.1 ho).1).1 h1) (by simp)
  | succ fuel ih =>
    intro R listed a w hl hnd hsz hR hlt hcl ht hp h
    have hgd : ∀ j, j < ops.length → listed.getD j false = listed.getD j true := by
      intro j hj
      have : j < listed.size := by omega
      simp [Array.getD, this]
    have hgf : ∀ j, listed.getD j false = true → listed.getD j true = true := by
      intro j hj
      by_cases hlt : j < listed.size
      · simpa [Array.getD, hlt] using hj
      · simp [Array.getD, hlt] at hj
    refine ⟨fun hnil => ?_, fun i hi => ?_⟩
    · cases R with
      | nil => exact h
      | cons x R =>
        exfalso
        simp only [topoOk, Bool.and_eq_true] at ht
        have hx : x ∈ Region.ready .any ops.toArray listed := by
          have h1 := ht.1
          split at h1
          · rename_i o ho
            refine ready_iff.2 ⟨o, ho, (hR x (hlt x (by simp))).2 (by simp), fun j hj => ?_⟩
            have := List.all_eq_true.1 h1 j hj
            simp only [Bool.and_eq_true, decide_eq_true_eq, Bool.not_eq_true', ← Bool.not_eq_true, List.contains_iff_mem] at this
            rw [hgd j this.1]
            cases hv : listed.getD j true with
            | true => rfl
            | false => exact absurd ((hR j this.1).1 hv) this.2
          · cases h1
        rw [hnil] at hx
        simp at hx
    · obtain ⟨o, ho, h1, h2⟩ := ready_iff.1 hi
      have hilt := (List.getElem?_eq_some_iff.1 ho).1
      have hiR := (hR i hilt).1 h1
      obtain ⟨A, B, rfl⟩ := List.append_of_mem hiR
      have hna : ∀ x ∈ A ++ i :: B, x ∉ ancs ops ops.length i := by
        intro x hx hc
        have hxl := ancs_listed hcl hgf ops.length i o ho h2 x hc
        have hxlt := hlt x hx
        have := (hR x hxlt).2 hx
        rw [hgf x hxl] at this
        cases this
      have hlen : (A ++ i :: B).length = (A ++ B).length + 1 := by simp; omega
      rw [hlen] at h
      have hm := GoodT.move ho hRt hQ (hE i) hlen hnd hna hp h
      refine wpOpIn_mono (fun a1 w1 hg => ?_) (OpE.sound ho hm)
      have hni : i ∉ A ++ B := by
        have := hnd
        rw [List.nodup_append] at this
        intro hc
        rcases List.mem_append.1 hc with hc | hc
        · exact this.2.2 i hc i (by simp) rfl
        · exact (List.nodup_cons.1 this.2.1).1 hc
      have hset : ∀ j d, (listed.setIfInBounds i true).getD j d = if i = j then true else listed.getD j d := by
        intro j d
        by_cases hj : j < listed.size
        · by_cases e : i = j
          · subst e; simp [Array.getD, hj]
          · simp [Array.getD, hj, e]
        · by_cases e : i = j
          · subst e; omega
          · simp [Array.getD, hj, e]
      refine ih (A ++ B) _ a1 w1 (by simp at hl ⊢; omega) ?_ (by simpa using hsz) ?_ ?_ ?_ (topoOk_del ht) (pairsOkT_del hp) hg
      · have := hnd
        rw [List.nodup_append] at this ⊢
        refine ⟨this.1, (List.nodup_cons.1 this.2.1).2, fun x hx y hy => this.2.2 x hx y (by simp [hy])⟩
      · intro j hj
        rw [hset]
        by_cases e : i = j
        · subst e; simp only [if_true]; exact ⟨fun h => (by cases h), fun h => absurd h hni⟩
        · rw [if_neg e, hR j hj]
          simp only [List.mem_append, List.mem_cons]
          constructor
          · rintro (h | h | h)
            · exact .inl h
            · exact absurd h.symm e
            · exact .inr h
          · rintro (h | h)
            · exact .inl h
            · exact .inr (.inr h)
      · intro j hj
        refine hlt j ?_
        simp only [List.mem_append, List.mem_cons] at hj ⊢
        rcases hj with hj | hj
        · exact .inl hj
        · exact .inr (.inr hj)
      · intro j oj hoj hlj k hk
        rw [hset] at hlj ⊢
        by_cases e : i = j
        · subst e
          rw [ho] at hoj
          cases hoj
          have := h2 k hk
          split
          · rfl
          · exact this
        · rw [if_neg e] at hlj
          have := hcl j oj hoj hlj k hk
          split
          · rfl
          · exact this
end
/-! ### the condition -/
abbrev TDen := List Nat → OpsDen
def opsNilT : TDen := fun _ => opsNil
def opsStepT (C : Cx) (ops : List Oper) (xs : List Nat) (E : Effs) (_ : Nat) (_ : List Nat) (r : TDen) : TDen := fun R env w K Z => match R with
  | [] => K env w
  | i :: rest => match isEff i E with
    | true => candK (i :: rest) (fun j => opsStepD C ops xs j [] (r (delN j (i :: rest))) env w K Z) E
    | false => opsStepD C ops xs i [] (r rest) env w K Z
noncomputable def vcOpsT (C : Cx) (ops : List Oper) (xs : List Nat) (E : Effs) (l : List Nat) : TDen := List.rec (motive := fun _ => TDen) opsNilT (opsStepT C ops xs E) l
theorem vcOpsT_sound {C : Cx} (hT : TabOk C.P C.T) {ops : List Oper} {xs ys : List Nat} {E : Effs} {Q : Exit → Act → World → Prop} {K : Env → World → Prop} {Z : List PanicEntry → World → Prop} {ds : List Deferred}
    (hQ : ∀ env (a : Act) w, Sat env a.tmps → a.tmps.size = C.n → a.defers = ds → K env w → Q .normal a w) (hZ : ∀ (a : Act) w ch, a.tmps.size = C.n → a.defers = ds → Z ch w → Q (.panic ch) a w) :
    ∀ {l R : List Nat} {env : Env} {a : Act} {w : World}, Sat env a.tmps → a.tmps.size = C.n → a.defers = ds → vcOpsT C ops xs E l R env w K Z → GoodT C ops xs ys Ext Q E l.length R a w
  | [], R, env, a, w, hs, hn, hd, h => hQ env a w hs hn hd h
  | f :: l, [], env, a, w, hs, hn, hd, h => hQ env a w hs hn hd h
  | f :: l, i :: rest, env, a, w, hs, hn, hd, h => by
    have h : opsStepT C ops xs E f l (vcOpsT C ops xs E l) (i :: rest) env w K Z := h
    have one : ∀ j R', opsStepD C ops xs j [] (vcOpsT C ops xs E l R') env w K Z → ∀ o, ops[j]? = some o → OpE C ops xs ys Ext Q j o (GoodT C ops xs ys Ext Q E l.length R') a w := by
      intro j R' hj o ho
      obtain ⟨o', ho', h'⟩ := stepD_sound (ys := ys) (G := GoodT C ops xs ys Ext Q E l.length R') hT hZ (fun env a w h1 h2 h3 h4 => vcOpsT_sound hT hQ hZ h1 h2 h3 h4) hs hn hd hj
      rw [ho] at ho'
      cases ho'
      exact h'
    unfold opsStepT at h
    simp only [List.length_cons, GoodT]
    cases he : isEff i E with
    | false =>
      simp only [he] at h
      exact one i rest h
    | true =>
      simp only [he] at h ⊢
      have mono : ∀ (E' : Effs) (f g : Nat → Prop), (∀ j, f j → g j) → candK (i :: rest) f E' → candK (i :: rest) g E' := by
        intro E' f g hfg
        induction E' with
        | nil => exact fun h => h
        | cons p E' ih =>
          obtain ⟨j, an⟩ := p
          simp only [candK]
          split
          · split
            · exact fun h => ⟨hfg j h.1, ih h.2⟩
            · exact hfg j
          · exact ih
      exact mono E _ _ (fun j hj => one j _ hj) h
def orderOkT (T : List TD) (ops : List Oper) (xs ys π : List Nat) (E : Effs) : Bool :=
  topoOk ops π && pairsOkT T ops xs ys E π && ((List.range ops.length).all fun i => π.contains i) && decide (π.length = ops.length) && decide π.Nodup && (π.all fun i => decide (i < ops.length)) && E.all fun p => p.2.all fun x => (ancs ops ops.length p.1).contains x
theorem draw_vcT {C : Cx} (hT : TabOk C.P C.T) (hm : C.P.follows .mixedOrders = true) {id : Nat} {ops : Array Oper} {env : Env} {ds : List Deferred} {w : World} {Q : Post} (xs π : List Nat) (E : Effs)
    (hok : orderOkT C.T ops.toList xs π π E = true)
    (h : ∀ w1, Drew w w1 → vcOpsT C ops.toList xs E π π env w1 (fun env' w' => pruneK env' C.live fun e' => Q .normal e' ds w') (fun ch w' => Q (.panic ch) [] ds w')) :
    SemC C (.region id ops true) env ds w Q := by
  refine ⟨fun a hs hn hd => ?_⟩
  simp only [orderOkT, Bool.and_eq_true, decide_eq_true_eq] at hok
  obtain ⟨⟨⟨⟨⟨⟨ht, hp⟩, hall⟩, hlen⟩, hnodup⟩, hlts⟩, hE⟩ := hok
  have hmem : ∀ i, i < ops.toList.length → i ∈ π := fun i hi => by simpa using List.all_eq_true.1 hall i (by simpa using hi)
  have key := h { w with drawn := w.drawn + 1 } ⟨rfl, rfl, rfl, rfl, Nat.le_refl _, fun _ _ => rfl⟩
  let Q' : Exit → Act → World → Prop := fun e a' w' => a'.tmps.size = C.n ∧ match e with
    | .panic ch => Q (.panic ch) [] a'.defers w'
    | e => ∃ env', Sat env' a'.tmps ∧ Q e env' a'.defers w'
  refine wpIn_mono (Q := Q') ?_ (fun e a' w' hq => ?_)
  · refine wpIn_region_any hm ?_
    have hg : GoodT C ops.toList xs π Ext Q' E π.length π a { w with drawn := w.drawn + 1 } := by
      refine vcOpsT_sound hT (ds := ds) (fun env' a' w' h1 h2 h3 h4 => ?_) (fun a' w' ch h1 h2 h3 => ?_) hs hn hd key
      · obtain ⟨e', h5, h6⟩ := pruneK_sound h4
        exact ⟨h2, e', fun t v ht => h1 t v (h5 t v ht), h3 ▸ h6⟩
      · exact ⟨h1, h2 ▸ h3⟩
    have hlt : ∀ i ∈ π, i < ops.toList.length := fun i hi => by simpa using List.all_eq_true.1 hlts i hi
    have := GoodT.any (C := C) (ops := ops.toList) (xs := xs) (ys := π) (Rel := Ext) (Q := Q') (fun _ _ _ h k => Ext.trans h k) (fun d v ch a w hq => by
      obtain ⟨h1, h2⟩ := hq
      refine ⟨?_, ?_⟩
      · cases d <;> simpa [Act.put] using h1
      · cases d <;> exact h2) (fun i an hi x hx => by simpa using List.all_eq_true.1 (List.all_eq_true.1 hE _ hi) x hx) ops.size π (Array.replicate ops.size false) a { w with drawn := w.drawn + 1 } (by simp [hlen]) hnodup (by simp) (fun i hi => ?_) hlt (fun i o ho hl => ?_) ht hp hg
    · simpa using this
    · have : i < ops.size := by simpa using hi
      simp [Array.getD, this, hmem i hi]
    · have : i < ops.size := by simpa using (List.getElem?_eq_some_iff.1 ho).1
      simp [Array.getD, this] at hl
  · obtain ⟨h1, h2⟩ := hq
    cases e with
    | panic ch => exact ⟨h1, [], Sat.nil _, h2⟩
    | _ => exact ⟨h1, h2⟩
/-! ### bodies in pieces -/
section
variable {C : Cx} {env : Env} {ds : List Deferred} {w : World} {Q : Post}
theorem SemC.seq {x y : Code} (h : SemC C x env ds w fun e env' ds' w' => match e with
    | .normal => SemC C y env' ds' w' Q
    | e => Q e env' ds' w') : SemC C (.seq x y) env ds w Q := by
  refine ⟨fun a hs hn hd => wpIn_seq (wpIn_mono (h.out a hs hn hd) fun e a' w' ⟨h1, env', h2, h3⟩ => ?_)⟩
  cases e with
  | normal => exact h3.out a' h2 h1 rfl
  | _ => exact ⟨h1, env', h2, h3⟩
/-- walk through x, then go on with y -/
theorem SemC.seqGo (hT : TabOk C.P C.T) {x y : Code} (h : vcCode C x env ds w fun e env' ds' w' => match e with
    | .normal => SemC C y env' ds' w' Q
    | e => Q e env' ds' w') : SemC C (.seq x y) env ds w Q := SemC.seq (vcCode_sound hT h)
/-- walk through x, meet, then go on with y -/
theorem SemC.seqCut {S : Type} (hT : TabOk C.P C.T) (M : S → Env) (I : S → World → Prop) {x y : Code} (h : vcCode C x env ds w fun e env' ds' w' => match e with
    | .normal => ds' = ds ∧ ∃ s, subK env' (M s) ∧ I s w'
    | e => Q e env' ds' w') (k : ∀ s w', I s w' → SemC C y (M s) ds w' Q) : SemC C (.seq x y) env ds w Q :=
  SemC.seq (SemC.cutN M I (SemC.mono (vcCode_sound hT h) fun e env ds w h => by cases e <;> exact h) k)
theorem SemC.go (hT : TabOk C.P C.T) {x : Code} (h : vcCode C x env ds w Q) : SemC C x env ds w Q := vcCode_sound hT h
end
theorem cal_of_sem {P : Program} {T : List TD} (hT : TabOk P T) {f : FuncId} {fn : Func} {c : Code} {args : List Value} {w : World} {K : Value → World → Prop} {Z : List PanicEntry → World → Prop}
    (hf : P.funcs[f]? = some fn) (hb : fn.body = some c) (hname : (fn.name == "runtime.NumGoroutine") = false) (n : Nat) (hn : fn.ntmps = n) (ha : args.length ≤ n) (live : List Nat)
    (h : SemC ⟨P, T, n, live, none⟩ c (argEnv 0 args) [] w (finQ ⟨P, T, n, live, none⟩ fn.results.toList K Z)) : Cal P f args.toArray w K Z := by
  refine ⟨.inl ⟨enters_mk hf (by simp [hb]) hname, (callsIn_Fr (r := none) (n := 0)).1 ?_⟩⟩
  refine callsIn_of_wp_marks hf hb trivial ?_
  have hs : Sat (argEnv 0 args) (args.toArray ++ Array.replicate (fn.ntmps - args.toArray.size) undef) := argEnv_sat
  refine wpIn_mono (h.out { tmps := args.toArray ++ Array.replicate (fn.ntmps - args.toArray.size) undef, defers := [] } hs (by simp; omega) rfl) ?_
  rintro e a w' ⟨h1, env', h2, h3⟩
  have fin : ∀ {ds w}, (marksK ds w fun w' => resK ⟨P, T, n, live, none⟩ fn.results.toList env' w' fun v => K v w') → LeavesInM (Fr none) 0 P fn a.tmps (fun e w' => match e with | .returned v => K v w' | .panicked ch => Z ch w' | .outgrown => False) ds .returning w := by
    intro ds w h
    refine marksK_sound (by simp) h fun w' h => ?_
    obtain ⟨v, hr, hk⟩ := resK_sound (C := ⟨P, T, n, live, none⟩) hT h2 h
    exact ⟨v, hr, hk⟩
  cases e with
  | normal => exact fin h3
  | ret => exact fin h3
  | panic ch => exact marksK_sound (by simp) h3 fun w' h => h
  | exit id => exact h3.elim
  | goto l => exact h3.elim
  | outgrown => exact h3.elim
end Go.Proofs.YtffaffojkfalhaaGreatDoor
