/-
  Maps whose keys are references.
-/
import Derived.Test.YtlhgmigoncmcaaaGreatCatD
import Derived.WideKeyRuns
import Derived.Carry
namespace Go.Proofs.YtlhgmigoncmcaaaGreat
open Go Go.RowKit

abbrev refV (r : RefD) : Value := .agg (refC r).toArray
theorem checkKey_ref (em : Bool) (n : Nat) (r : RefD) (w : World) : (Instr.checkKey em (n + 2) 54 (refV r)).run Tryz.prog w = .ok () w := by
  have h1 : ∀ v w, (Instr.checkKey em (n + 1) 9 v).run Tryz.prog w = .ok () w := fun v w => by
    rw [Instr.checkKey]
    simp [run_underlying Tryz.underlying9]
  have h2 : ∀ v w, (Instr.checkKey em (n + 1) 3 v).run Tryz.prog w = .ok () w := fun v w => by
    rw [Instr.checkKey]
    simp [run_underlying Tryz.underlying3]
  have p1 : ∀ w, (part 9 (refC r).toArray 0).run Tryz.prog w = .ok (str r.name) w := fun w => run_part_scal (tabOk _ _ (by rfl : tab[9]? = some _)) rfl rfl w
  have p2 : ∀ w, (part 3 (refC r).toArray 1).run Tryz.prog w = .ok (iv r.ver) w := fun w => run_part_scal (tabOk _ _ (by rfl : tab[3]? = some _)) rfl rfl w
  rw [Instr.checkKey]
  simp only [Sem.run_bind, run_underlying Tryz.underlying54, Result.andThen_ok]
  rw [← Array.forIn_toList]
  simp [p1, p2, h1, h2]
theorem eqRun {C : Cx} (hT : TabOk C.P C.T) {t : TypeId} {d : TD} (hd : TdOk C.P t d) (he : d.eq = true) {fs : List (Nat × TypeId)} (hu : d.under = .struct fs) {xs ys : List Value} {k : PK} (h : eqFK C fs xs ys k) (w : World) :
    ∃ (p : Prop) (i : Decidable p), k p i ∧ (Op.equal t (.agg ⟨xs⟩) (.agg ⟨ys⟩)).run C.P w = .ok (@decide p i) w := by
  obtain ⟨d0, h1, h2⟩ := hd.under
  obtain ⟨fls, rfl, hnm, rfl⟩ := undOf_struct (h2.trans hu)
  obtain ⟨hg, hs⟩ := hd.eq he
  have hf : C.P.fieldsOf t = fls := by simp [Program.fieldsOf, h1]
  have hn : ∀ f ∈ fls.toList, f.name ≠ "_" := by
    intro f hf hc
    have : (fls.any fun f => f.name == "_") = true := by
      rw [Array.any_eq_true']
      exact ⟨f, by simpa using hf, by simp [hc]⟩
    rw [hnm] at this
    cases this
  obtain ⟨p, i, hr, hk⟩ := eqFK_sound hT (m := 9998) (w := w) hn h
  have hst := run_equalIn_struct (P := C.P) w 9999 t ⟨xs⟩ ⟨ys⟩ (by rw [hf]; exact h1) hs
  rw [hf] at hst
  exact ⟨p, i, hk, hst.trans hr⟩
set_option maxRecDepth 100000 in
theorem equal_ref (a b : RefD) (w : World) : (Op.equal 54 (refV a) (refV b)).run Tryz.prog w = .ok (decide (a = b)) w := by
  obtain ⟨d, hd⟩ : ∃ d, tab[54]? = some d := ⟨_, rfl⟩
  have hdo := tabOk _ _ hd
  have he : d.eq = true := by cases hd; rfl
  have hu : d.under = .struct [(0, 9), (1, 3)] := by cases hd; rfl
  obtain ⟨p, i, hk, hr⟩ := eqRun (C := ⟨Tryz.prog, tab, 0, [], none⟩) tabOk hdo he hu (xs := refC a) (ys := refC b) (k := fun p _ => (p ↔ a = b)) (by
    (conv => whnf)
    cases a; cases b; simp) w
  refine hr.trans ?_
  congr 1
  by_cases h : a = b
  · simp [h, hk.2 h]
  · simp [h]
    exact fun hp => h (hk.1 hp)
def refOf (e : Ent) : RefD := ⟨e.name, e.ver⟩
/-- the place of the entry with a reference -/
def place (l : List Ent) (r : RefD) : Option Nat := l.findIdx? fun e => decide (refOf e = r)
def posKV (i : Nat) (e : Ent) : Value × Value := (refV (refOf e), iv i)
structure MapIs (es : Array MapEntry) (l : List Ent) : Prop where
  eq : es.toList.map (fun e => (e.key, e.val)) = l.mapIdx posKV
theorem find_ref (r : RefD) (w : World) : ∀ (es : List MapEntry) (l : List Ent) (j : Nat), es.map (fun e => (e.key, e.val)) = l.mapIdx (fun i e => posKV (j + i) e) →
    (Instr.findAsking 54 (refV r) es j).run Tryz.prog w = .ok ((l.findIdx? fun e => decide (refOf e = r)).map fun i => (j + i, iv ((j + i : Nat) : Int))) w
  | [], l, j, h => by
    have : l = [] := by
      have := congrArg List.length h
      simpa using this.symm
    subst this
    simp [Instr.findAsking]
  | e :: es, [], j, h => by simp at h
  | e :: es, x :: l, j, h => by
    simp only [List.map_cons, List.mapIdx_cons, List.cons.injEq, posKV, Prod.mk.injEq, Nat.add_zero] at h
    obtain ⟨⟨hk, hv⟩, ht⟩ := h
    have ih := find_ref r w es l (j + 1) (by rw [ht]; congr 1; funext i e; simp only [posKV]; congr 2; omega)
    simp only [Instr.findAsking, Sem.run_bind, hk, equal_ref, Result.andThen_ok]
    by_cases hr : r = refOf x
    · subst hr
      simp [List.findIdx?_cons, hv]
    · have hr' : ¬ refOf x = r := fun h => hr h.symm
      simp only [hr, decide_false, Bool.false_eq_true, if_false, ih, List.findIdx?_cons, hr']
      cases l.findIdx? (fun e => decide (refOf e = r)) with
      | none => rfl
      | some i => simp only [Option.map_some]; rw [show j + 1 + i = j + (i + 1) by omega]
theorem findKey_ref {es : Array MapEntry} {l : List Ent} (h : MapIs es l) (r : RefD) (w : World) : (Instr.findKey 54 (refV r) es.toList).run Tryz.prog w = .ok ((place l r).map fun i => (i, iv (i : Int))) w := by
  rw [run_findKey_eq w (by rw [Tryz.underlying54])]
  have := find_ref r w es.toList l 0 (by rw [h.eq]; congr 1; funext i e; simp [posKV])
  simpa [place] using this
section
variable {w0 V0 V w : World} {own : List Res}
theorem Rel.makeMap {t : TypeId} (H : Rel w0 V0 own V w) {k : Value → World → Prop} (hk : ∀ w' b, Rel w0 V0 (.obj b (.map #[] 0) :: own) V w' → k (.map (some b)) w') : SemOk Tryz.prog (Instr.makeMap t none) w k :=
  .of (run_makeMap t w) (hk _ _ (H.newObj _))
theorem MapIs.nil : MapIs #[] [] := ⟨rfl⟩
theorem MapIs.push {es : Array MapEntry} {l : List Ent} (h : MapIs es l) (e : Ent) (c : Nat) : MapIs (es.push { key := refV (refOf e), val := iv (l.length : Int), born := c }) (l ++ [e]) := by
  refine ⟨?_⟩
  rw [Array.toList_push, List.map_append, h.eq, List.mapIdx_append]
  simp [posKV]
theorem Rel.mapPut {b clock : Nat} {es : Array MapEntry} {l : List Ent} {e : Ent} (H : Rel w0 V0 (.obj b (.map es clock) :: own) V w) (h : MapIs es l) (hn : place l (refOf e) = none) {k : Value → World → Prop}
    (hk : ∀ w' es' c', MapIs es' (l ++ [e]) → Rel w0 V0 (.obj b (.map es' c') :: own) V w' → k undef w') : SemOk Tryz.prog (do Instr.mapUpdate 81 (.map (some b)) (refV (refOf e)) (iv (l.length : Int)); pure undef) w k := by
  have hb : w.heap[b]? = some (.map es clock) := H.laid (.obj b (.map es clock)) (by simp)
  refine .of ?_ (hk _ _ (clock + 1) (h.push e clock) H.setObj)
  have hf := findKey_ref h (refOf e) w
  rw [hn] at hf
  simp [Instr.mapUpdate, run_underlying Tryz.underlying81, getObj, Go.setObj, Sem.run, hb, checkKey_ref, hf]
theorem Rel.lookupAt {i b clock : Nat} {es : Array MapEntry} {l : List Ent} {r : RefD} (H : Rel w0 V0 own V w) (hi : own[i]? = some (.obj b (.map es clock))) (h : MapIs es l) {k : Value → World → Prop}
    (hk : k (.tuple #[iv (((place l r).getD 0 : Nat) : Int), .bool (place l r).isSome]) w) : SemOk Tryz.prog (Instr.lookup 81 (.map (some b)) (refV r) true) w k := by
  have hb := H.objAt hi
  refine .of ?_ hk
  have hf := findKey_ref h r w
  have hz : (zeroValue 3).run Tryz.prog w = .ok (iv 0) w := (tabOk _ _ (by rfl : tab[3]? = some _)).run_zero rfl w
  cases hp : place l r with
  | none =>
    rw [hp] at hf
    simp [Instr.lookup, run_underlying Tryz.underlying81, getObj, Sem.run, hb, checkKey_ref, hf, hz]
  | some j =>
    rw [hp] at hf
    simp [Instr.lookup, run_underlying Tryz.underlying81, getObj, Sem.run, hb, checkKey_ref, hf]
end
end Go.Proofs.YtlhgmigoncmcaaaGreat
