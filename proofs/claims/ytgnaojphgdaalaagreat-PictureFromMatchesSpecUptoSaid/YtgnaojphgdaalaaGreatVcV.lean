/-
  Equality of arrays of bytes.
-/
import Derived.Test.YtgnaojphgdaalaaGreatVcS
import Derived.ChangeKeysEq
namespace Go.Proofs.YtgnaojphgdaalaaGreat
open Go Go.RowKit

def digL (d : Dig) : List UInt8 := (List.range 32).map d
theorem digC_map (d : Dig) : digC d = (digL d).map bv := rfl
theorem bv_inj {a b : UInt8} : bv a = bv b ↔ a = b := by
  constructor
  · intro h
    simp only [bv, Value.int.injEq, true_and] at h
    exact UInt8.toNat_inj.1 (by omega)
  · rintro rfl; rfl
theorem eqItems_u8 {P : Program} {e : TypeId} {d : TD} (hd : TdOk P e d) (hu : d.under = .int .u8) {a b : List UInt8} {w : World} {m : Nat} : ∀ is : List Nat, (∀ i ∈ is, i < a.length ∧ i < b.length) →
    (Op.eqItems (m + 1) e 1 ⟨a.map bv⟩ ⟨b.map bv⟩ is).run P w = .ok (decide (∀ i ∈ is, a[i]? = b[i]?)) w
  | [], _ => by simp [Op.eqItems]
  | i :: is, h => by
    obtain ⟨h1, h2⟩ := h i (by simp)
    have ih := eqItems_u8 (w := w) (m := m) hd hu is fun j hj => h j (by simp [hj])
    have hru := hd.int hu w
    have ha : isAggD d.under = false := by rw [hu]; rfl
    have p1 := run_part_scal hd ha (l := a.map bv) (off := i * 1) (v := bv a[i]) (by simp [h1]) w
    have p2 := run_part_scal hd ha (l := b.map bv) (off := i * 1) (v := bv b[i]) (by simp [h2]) w
    have p3 : (Op.equalIn (m + 1) e (bv a[i]) (bv b[i])).run P w = .ok (decide (a[i] = b[i])) w := by
      simp only [Op.equalIn, Sem.run_bind, hru, Result.andThen_ok, if_true, Sem.run_pure]
      by_cases hab : a[i] = b[i]
      · simp [hab]
      · have : ¬ ((a[i].toNat : Int) = (b[i].toNat : Int)) := fun hc => hab (UInt8.toNat_inj.1 (by omega))
        simp [hab, this]
    simp only [Op.eqItems, Sem.run_bind, p1, p2, p3, Result.andThen_ok]
    by_cases hab : a[i] = b[i]
    · simp only [hab, decide_true, Bool.not_true, Bool.false_eq_true, if_false]
      rw [ih]
      congr 1
      refine decide_eq_decide.2 ?_
      constructor
      · intro hh j hj
        rcases List.mem_cons.1 hj with rfl | hj
        · simp [h1, h2, hab]
        · exact hh j hj
      · intro hh j hj
        exact hh j (by simp [hj])
    · simp only [hab, decide_false, Bool.not_false, if_true, Sem.run_pure]
      congr 1
      refine (decide_eq_false fun hh => hab ?_).symm
      have := hh i (by simp)
      simpa [h1, h2] using this
/-- '==' of two arrays of bytes -/
theorem run_eqA {P : Program} {T : List TD} (hT : TabOk P T) {t e : TypeId} {n : Nat} {d de : TD} (hd : T[t]? = some d) (hu : d.under = .array n e) (hde : T[e]? = some de) (hue : de.under = .int .u8) (hsz : de.size = 1) {a b : List UInt8} (ha : a.length = n) (hb : b.length = n) (w : World) (m : Nat) :
    (Op.equalIn (m + 2) t (.agg ⟨a.map bv⟩) (.agg ⟨b.map bv⟩)).run P w = .ok (decide (a = b)) w := by
  have hdt := hT t d hd
  have hde' := hT e de hde
  obtain ⟨d0, q1, q2⟩ := hdt.under
  have hun : P.underlying t = some (.array n e) := by
    rw [hu] at q2
    cases d0 <;> simp_all [undOf] <;> (split at q2 <;> simp_all)
  obtain ⟨i, hi, his, _⟩ := hde'.info
  have hc : P.cellsOf e = 1 := by simp [Program.cellsOf, hi, his, hsz]
  rw [run_equalIn_array w (m + 1) _ _ hun hi, hc, eqItems_u8 hde' hue _ (fun i hi => by simp at hi; omega)]
  congr 1
  refine decide_eq_decide.2 ⟨fun h => List.ext_getElem? fun i => ?_, fun h => by simp [h]⟩
  by_cases hin : i < n
  · exact h i (by simpa using hin)
  · rw [List.getElem?_eq_none (by omega), List.getElem?_eq_none (by omega)]
theorem sem_eqA {P : Program} {T : List TD} (hT : TabOk P T) {t e : TypeId} {n : Nat} {d de : TD} (hg : P.eqGuardType P.depth t = false) (hd : T[t]? = some d) (hu : d.under = .array n e) (hde : T[e]? = some de) (hue : de.under = .int .u8) (hsz : de.size = 1) {a b : List UInt8} (ha : a.length = n) (hb : b.length = n) {x y : Operand} {w : World} {k : Value → World → Prop}
    (hk : k (.bool (decide (a = b))) w) : SemOk P (do eqGuard .eql t x y (.agg ⟨a.map bv⟩) (.agg ⟨b.map bv⟩); binOp .eql t (.agg ⟨a.map bv⟩) (.agg ⟨b.map bv⟩)) w k := by
  refine .of (v := .bool (decide (a = b))) (w' := w) ?_ hk
  rw [Sem.run_bind, run_eqGuard_agg (P := P) w .eql t x y _ _ hg]
  simp only [Result.andThen_ok]
  rw [run_eql_struct, run_eqA hT hd hu hde hue hsz ha hb w 9998]
  rfl
theorem sem_neA {P : Program} {T : List TD} (hT : TabOk P T) {t e : TypeId} {n : Nat} {d de : TD} (hg : P.eqGuardType P.depth t = false) (hd : T[t]? = some d) (hu : d.under = .array n e) (hde : T[e]? = some de) (hue : de.under = .int .u8) (hsz : de.size = 1) {a b : List UInt8} (ha : a.length = n) (hb : b.length = n) {x y : Operand} {w : World} {k : Value → World → Prop}
    (hk : k (.bool (!decide (a = b))) w) : SemOk P (do eqGuard .neq t x y (.agg ⟨a.map bv⟩) (.agg ⟨b.map bv⟩); binOp .neq t (.agg ⟨a.map bv⟩) (.agg ⟨b.map bv⟩)) w k := by
  refine .of (v := .bool (!decide (a = b))) (w' := w) ?_ hk
  rw [Sem.run_bind, run_eqGuard_agg (P := P) w .neq t x y _ _ hg]
  simp only [Result.andThen_ok]
  rw [run_neq_struct, run_eqA hT hd hu hde hue hsz ha hb w 9998]
  rfl
end Go.Proofs.YtgnaojphgdaalaaGreat
