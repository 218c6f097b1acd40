/-
  Scopes; ranges over strings.
-/
import Derived.Test.YtlhgmigoncmcaaaGreatVcR
import Derived.Scope
import Derived.Laws.RangeString
namespace Go.Proofs.YtlhgmigoncmcaaaGreat
open Go Go.RowKit

theorem i64_byte (b : UInt8) : I64 ((b.toNat : Nat) : Int) := by
  have := b.toNat_lt
  constructor <;> omega
theorem stepR_scope {P : Program} {b : Frame} {a : Act} {k : List Item} {cs : List Frame} {w : World} {c : Code} : step P (lone (b.atR a (.code (.scope c) :: k)) cs w) = .next (lone (b.atR a (.code c :: .inScope c :: k)) cs w) :=
  step_lone_go (by simp [stepG, stepG.exec, Frame.atR])
theorem stepR_inScope {P : Program} {b : Frame} {a : Act} {k : List Item} {cs : List Frame} {w : World} {c : Code} : step P (lone (b.atR a (.inScope c :: k)) cs w) = .next (lone (b.atR a k) cs w) :=
  step_lone_go (by simp [stepG, stepG.exec, Frame.atR])
theorem wpIn_scope {F : Fence} {n : Nat} {P : Program} {Q : Exit → Act → World → Prop} {a : Act} {w : World} {c : Code} (h : c.wpIn F n P (Exit.noGoto Q) a w) : (Code.scope c).wpIn F n P Q a w := by
  intro b k cs hro hb hr
  have h0 : (lone (b.atR a (.code (.scope c) :: k)) cs w).fenced P F := fenced_calm hb hr rfl
  obtain ⟨e, a₁, w₁, hq, harr⟩ := h b (.inScope c :: k) cs hro hb hr
  cases e with
  | normal => exact ⟨.normal, a₁, w₁, hq, .head h0 stepR_scope (StepsIn.trans harr (.one (fenced_calm hb hr rfl) stepR_inScope))⟩
  | exit id =>
    have hx : exitTo id (.inScope c :: k) = exitTo id k := by simp [exitTo]
    exact ⟨.exit id, a₁, w₁, hq, fun k' hk => .head h0 stepR_scope (harr.1 k' (by rw [hx]; exact hk)),
      fun hr' hk => let ⟨k₁, h1, h2⟩ := harr.2 hr' (by rw [hx]; exact hk); ⟨k₁, h1, .head h0 stepR_scope h2⟩⟩
  | goto l => exact hq.elim
  | ret => exact ⟨_, a₁, w₁, hq, .of_steps (.one h0 stepR_scope) harr⟩
  | panic ch => exact ⟨_, a₁, w₁, hq, .of_steps (.one h0 stepR_scope) harr⟩
  | outgrown => exact ⟨_, a₁, w₁, hq, .of_steps (.one h0 stepR_scope) harr⟩
/-- a scope out of which nothing jumps -/
theorem scope_vc {C : Cx} (hT : TabOk C.P C.T) {c : Code} {env : Env} {ds : List Deferred} {w : World} {Q : Post} (h : vcCode C c env ds w fun e env' ds' w' => (match e with
    | .goto _ => False
    | e => Q e env' ds' w')) : SemC C (.scope c) env ds w Q := by
  refine ⟨fun a hs hn hd => wpIn_scope (wpIn_mono ((vcCode_sound hT h).out a hs hn hd) fun e a' w' ⟨h1, env', h2, h3⟩ => ?_)⟩
  cases e with
  | goto l => exact h3.elim
  | _ => exact ⟨h1, env', h2, h3⟩
section
variable {w0 V0 V w : World} {own : List Res}
theorem Rel.newObj (H : Rel w0 V0 own V w) (o : Obj) : Rel w0 V0 (.obj w.heap.size o :: own) V (w.alloc o) :=
  H.more ((Below.refl _ _).alloc (Nat.le_refl _) _) (heap_alloc_new w o) fun b hb => by cases hb; exact Nat.le_refl _
theorem Rel.range {P : Program} {T : List TD} (hT : TabOk P T) {t : TypeId} {d : TD} (hd : T[t]? = some d) (hu : d.under = .string) (H : Rel w0 V0 own V w) {s : ByteArray} {k : Value → World → Prop}
    (hk : ∀ w' b, Rel w0 V0 (.obj b (.stringIter s 0) :: own) V w' → k (.pointer (some ⟨b, 0, none⟩)) w') : SemOk P (Instr.range t (.string s)) w k := by
  have ht : P.underlying t = some .string := by
    obtain ⟨d0, q1, q2⟩ := (hT t d hd).under
    rw [hu] at q2
    cases d0 <;> first | (simp_all [undOf]; done) | (simp only [undOf] at q2; split at q2 <;> cases q2)
  exact .of (run_range_string w t s ht) (hk _ _ (H.newObj _))
theorem Rel.setObj {b : Nat} {o o' : Obj} (H : Rel w0 V0 (.obj b o :: own) V w) : Rel w0 V0 (.obj b o' :: own) V { w with heap := w.heap.setIfInBounds b o' } := by
  have hb : w.heap[b]? = some o := H.laid (.obj b o) (by simp)
  have hlt := (Array.getElem?_eq_some_iff.1 hb).1
  exact H.put (i := 0) rfl rfl rfl rfl (by simp) (fun c hc hn => by
    have : b ≠ c := fun e => hn (by rw [e]; rfl)
    simp [Array.getElem?_setIfInBounds_ne this]) (by simp [Res.laid, hlt]) fun c hc => .inl hc
theorem Rel.next {P : Program} {ty b pos : Nat} {s : ByteArray} (H : Rel w0 V0 (.obj b (.stringIter s pos) :: own) V w) {k : Value → World → Prop}
    (h1 : pos < s.size → ∀ w', Rel w0 V0 (.obj b (.stringIter s (pos + (Utf8.decode s pos).2)) :: own) V w' → k (.tuple #[.bool true, .int .i64 pos, .int .i32 (Utf8.decode s pos).1]) w')
    (h2 : ¬ pos < s.size → k (.tuple #[.bool false]) w) : SemOk P (Instr.next (.pointer (some ⟨b, 0, none⟩)) true ty) w k := by
  have hb : w.heap[b]? = some (.stringIter s pos) := H.laid (.obj b (.stringIter s pos)) (by simp)
  by_cases h : pos < s.size
  · refine .of ?_ (h1 h _ H.setObj)
    simp [Instr.next, getObj, Go.setObj, Sem.run, hb, h, goInt]
  · refine .of ?_ (h2 h)
    simp [Instr.next, getObj, Sem.run, hb, h]
end
theorem decode_high (s : ByteArray) (pos : Nat) (h : pos < s.size) (ha : 128 ≤ (s[pos]'h).toNat) : 128 ≤ (Utf8.decode s pos).1 := by
  have e : s.get! (pos + 0) = s[pos]'h := by
    show s.get! pos = _
    simp [ByteArray.get!, getElem!_pos, h]
    rfl
  have ha' : ¬ (s[pos]'h).toNat < 128 := by omega
  simp only [Utf8.decode, e, ha', if_false]
  split
  · split
    · rename_i h1; simpa using h1
    · decide
  · split
    · split
      · rename_i h1; simp at h1; dsimp only; omega
      · decide
    · split
      · split
        · rename_i h1; simp at h1; dsimp only; omega
        · decide
      · decide
end Go.Proofs.YtlhgmigoncmcaaaGreat
