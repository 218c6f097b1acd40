/-
  Rows of elements that take n cells each: they grow; they are given away to be read.
-/
import Derived.Test.YtlhgmigoncmcaaaGreatCatD
namespace Go.Proofs.YtlhgmigoncmcaaaGreat
open Go Go.RowKit

section
variable {w0 V0 V w : World} {own : List Res}
theorem Res.off_symm {r s : Res} (h : Res.off r s) : Res.off s r := fun b hb hc => h b hc hb
theorem Rel.perm (H : Rel w0 V0 own V w) {own' : List Res} (h : own.Perm own') : Rel w0 V0 own' V w :=
  ⟨H.base, H.sub, H.old, fun r hr => H.laid r (h.mem_iff.2 hr), fun r hr => H.new r (h.mem_iff.2 hr), fun r hr => H.hid r (h.mem_iff.2 hr), (h.pairwise_iff Res.off_symm).1 H.apart, H.data⟩
theorem Rel.freezeF {α : Type} {f : α → List Value} {s : Sl} {e n : Nat} {l : List α} (H : Rel w0 V0 (.row s e n (l.flatMap f) :: own) V w) (hf : ∀ x, (f x).length = n) (hn : 0 < n) : ∃ V', Sub V V' ∧ Rel w0 V0 own V' w ∧ SlF f V' s l := by
  obtain ⟨V', h1, h2, h3, h4, h5⟩ := H.freezeRow
  refine ⟨V', h1, h2, ?_, h4, h3⟩
  rw [flat_len hf] at h5
  exact (Nat.eq_of_mul_eq_mul_right hn h5).symm
theorem Rel.rowLen {α : Type} {f : α → List Value} {s : Sl} {e n : Nat} {l : List α} {i : Nat} (H : Rel w0 V0 own V w) (hi : own[i]? = some (.row s e n (l.flatMap f))) (hf : ∀ x, (f x).length = n) (hn : 0 < n) : s.len = l.length := by
  have := (H.rowAt hi).len
  rw [flat_len hf] at this
  exact (Nat.eq_of_mul_eq_mul_right hn this).symm
theorem Rel.app1At {P : Program} {T : List TD} (hT : TabOk P T) {t ty e : TypeId} {d de : TD} (hd : T[t]? = some d) (hu : d.under = .slice e) (hde : T[e]? = some de) {z : Value} (hz : de.zero = some z) (hzs : z.cells.size = de.size) (hsz : 0 < de.size)
    {α : Type} {f : α → List Value} {l : List α} {x : α} (hf : ∀ y, (f y).length = de.size) (h1 : ∀ u ∈ f x, u.oneCell' = true) {s : Sl} {b : Nat} {t' : TypeId} (H : Rel w0 V0 (.blk b (f x) t' :: own) V w) {i : Nat} (hi : own[i]? = some (.row s e de.size (l.flatMap f)))
    (hb : (l.length + 1) * de.bytes ≤ 140737488355328) (hm : l.length + 1 ≤ 4611686018427387904)
    {k : Value → World → Prop} (hk : ∀ s' w', Rel w0 V0 (own.set i (.row s' e de.size ((l ++ [x]).flatMap f))) V w' → k s'.v w') : SemOk P (Builtin.append_ #[t, t] ty #[s.v, .slice (some ⟨b, 0, none⟩) 1 1]) w k := by
  have hx : Cells w (some ⟨b, 0, none⟩) (f x) := (H.bk_0).cells
  have hl := H.drop1.rowLen hi hf hsz
  refine Rel.appAt (x := ⟨some ⟨b, 0, none⟩, 1, 1⟩) hT hd hu hde hz hzs hsz H (i := i + 1) (by simpa using hi) hx (by rw [hf]; simp) h1 (by rw [hl]; exact hb) (by rw [hl]; exact hm) ?_
  intro s' w' H' _
  refine hk s' w' ?_
  rw [List.flatMap_append]
  simp only [List.flatMap_cons, List.flatMap_nil, List.append_nil]
  exact Rel.drop1 (by simpa using H')

theorem Rel.app1_0 {P : Program} {T : List TD} (hT : TabOk P T) {t ty e : TypeId} {d de : TD} (hd : T[t]? = some d) (hu : d.under = .slice e) (hde : T[e]? = some de) {z : Value} (hz : de.zero = some z) (hzs : z.cells.size = de.size) (hsz : 0 < de.size)
    {α : Type} {f : α → List Value} {l : List α} {x : α} (hf : ∀ y, (f y).length = de.size) (h1 : ∀ u ∈ f x, u.oneCell' = true) {s : Sl} {b : Nat} {t' : TypeId} (H : Rel w0 V0 (.blk b (f x) t' :: .row s e de.size (l.flatMap f) :: own) V w)
    (hb : (l.length + 1) * de.bytes ≤ 140737488355328) (hm : l.length + 1 ≤ 4611686018427387904)
    {k : Value → World → Prop} (hk : ∀ s' w', Rel w0 V0 (.row s' e de.size ((l ++ [x]).flatMap f) :: own) V w' → k s'.v w') : SemOk P (Builtin.append_ #[t, t] ty #[s.v, .slice (some ⟨b, 0, none⟩) 1 1]) w k :=
  Rel.app1At hT hd hu hde hz hzs hsz hf h1 H (i := 0) rfl hb hm hk
theorem Rel.app1_1 {r0 : Res} {P : Program} {T : List TD} (hT : TabOk P T) {t ty e : TypeId} {d de : TD} (hd : T[t]? = some d) (hu : d.under = .slice e) (hde : T[e]? = some de) {z : Value} (hz : de.zero = some z) (hzs : z.cells.size = de.size) (hsz : 0 < de.size)
    {α : Type} {f : α → List Value} {l : List α} {x : α} (hf : ∀ y, (f y).length = de.size) (h1 : ∀ u ∈ f x, u.oneCell' = true) {s : Sl} {b : Nat} {t' : TypeId} (H : Rel w0 V0 (.blk b (f x) t' :: r0 :: .row s e de.size (l.flatMap f) :: own) V w)
    (hb : (l.length + 1) * de.bytes ≤ 140737488355328) (hm : l.length + 1 ≤ 4611686018427387904)
    {k : Value → World → Prop} (hk : ∀ s' w', Rel w0 V0 (r0 :: .row s' e de.size ((l ++ [x]).flatMap f) :: own) V w' → k s'.v w') : SemOk P (Builtin.append_ #[t, t] ty #[s.v, .slice (some ⟨b, 0, none⟩) 1 1]) w k :=
  Rel.app1At hT hd hu hde hz hzs hsz hf h1 H (i := 1) rfl hb hm hk
theorem Rel.front_1 {r0 : Res} {r : Res} (H : Rel w0 V0 (r0 :: r :: own) V w) : Rel w0 V0 (r :: r0 :: own) V w := H.perm (List.perm_middle (l₁ := [r0]))
theorem Rel.app1_2 {r0 r1 : Res} {P : Program} {T : List TD} (hT : TabOk P T) {t ty e : TypeId} {d de : TD} (hd : T[t]? = some d) (hu : d.under = .slice e) (hde : T[e]? = some de) {z : Value} (hz : de.zero = some z) (hzs : z.cells.size = de.size) (hsz : 0 < de.size)
    {α : Type} {f : α → List Value} {l : List α} {x : α} (hf : ∀ y, (f y).length = de.size) (h1 : ∀ u ∈ f x, u.oneCell' = true) {s : Sl} {b : Nat} {t' : TypeId} (H : Rel w0 V0 (.blk b (f x) t' :: r0 :: r1 :: .row s e de.size (l.flatMap f) :: own) V w)
    (hb : (l.length + 1) * de.bytes ≤ 140737488355328) (hm : l.length + 1 ≤ 4611686018427387904)
    {k : Value → World → Prop} (hk : ∀ s' w', Rel w0 V0 (r0 :: r1 :: .row s' e de.size ((l ++ [x]).flatMap f) :: own) V w' → k s'.v w') : SemOk P (Builtin.append_ #[t, t] ty #[s.v, .slice (some ⟨b, 0, none⟩) 1 1]) w k :=
  Rel.app1At hT hd hu hde hz hzs hsz hf h1 H (i := 2) rfl hb hm hk
theorem Rel.front_2 {r0 r1 : Res} {r : Res} (H : Rel w0 V0 (r0 :: r1 :: r :: own) V w) : Rel w0 V0 (r :: r0 :: r1 :: own) V w := H.perm (List.perm_middle (l₁ := [r0, r1]))
theorem Rel.app1_3 {r0 r1 r2 : Res} {P : Program} {T : List TD} (hT : TabOk P T) {t ty e : TypeId} {d de : TD} (hd : T[t]? = some d) (hu : d.under = .slice e) (hde : T[e]? = some de) {z : Value} (hz : de.zero = some z) (hzs : z.cells.size = de.size) (hsz : 0 < de.size)
    {α : Type} {f : α → List Value} {l : List α} {x : α} (hf : ∀ y, (f y).length = de.size) (h1 : ∀ u ∈ f x, u.oneCell' = true) {s : Sl} {b : Nat} {t' : TypeId} (H : Rel w0 V0 (.blk b (f x) t' :: r0 :: r1 :: r2 :: .row s e de.size (l.flatMap f) :: own) V w)
    (hb : (l.length + 1) * de.bytes ≤ 140737488355328) (hm : l.length + 1 ≤ 4611686018427387904)
    {k : Value → World → Prop} (hk : ∀ s' w', Rel w0 V0 (r0 :: r1 :: r2 :: .row s' e de.size ((l ++ [x]).flatMap f) :: own) V w' → k s'.v w') : SemOk P (Builtin.append_ #[t, t] ty #[s.v, .slice (some ⟨b, 0, none⟩) 1 1]) w k :=
  Rel.app1At hT hd hu hde hz hzs hsz hf h1 H (i := 3) rfl hb hm hk
theorem Rel.front_3 {r0 r1 r2 : Res} {r : Res} (H : Rel w0 V0 (r0 :: r1 :: r2 :: r :: own) V w) : Rel w0 V0 (r :: r0 :: r1 :: r2 :: own) V w := H.perm (List.perm_middle (l₁ := [r0, r1, r2]))
theorem Rel.app1_4 {r0 r1 r2 r3 : Res} {P : Program} {T : List TD} (hT : TabOk P T) {t ty e : TypeId} {d de : TD} (hd : T[t]? = some d) (hu : d.under = .slice e) (hde : T[e]? = some de) {z : Value} (hz : de.zero = some z) (hzs : z.cells.size = de.size) (hsz : 0 < de.size)
    {α : Type} {f : α → List Value} {l : List α} {x : α} (hf : ∀ y, (f y).length = de.size) (h1 : ∀ u ∈ f x, u.oneCell' = true) {s : Sl} {b : Nat} {t' : TypeId} (H : Rel w0 V0 (.blk b (f x) t' :: r0 :: r1 :: r2 :: r3 :: .row s e de.size (l.flatMap f) :: own) V w)
    (hb : (l.length + 1) * de.bytes ≤ 140737488355328) (hm : l.length + 1 ≤ 4611686018427387904)
    {k : Value → World → Prop} (hk : ∀ s' w', Rel w0 V0 (r0 :: r1 :: r2 :: r3 :: .row s' e de.size ((l ++ [x]).flatMap f) :: own) V w' → k s'.v w') : SemOk P (Builtin.append_ #[t, t] ty #[s.v, .slice (some ⟨b, 0, none⟩) 1 1]) w k :=
  Rel.app1At hT hd hu hde hz hzs hsz hf h1 H (i := 4) rfl hb hm hk
theorem Rel.front_4 {r0 r1 r2 r3 : Res} {r : Res} (H : Rel w0 V0 (r0 :: r1 :: r2 :: r3 :: r :: own) V w) : Rel w0 V0 (r :: r0 :: r1 :: r2 :: r3 :: own) V w := H.perm (List.perm_middle (l₁ := [r0, r1, r2, r3]))
theorem Rel.app1_5 {r0 r1 r2 r3 r4 : Res} {P : Program} {T : List TD} (hT : TabOk P T) {t ty e : TypeId} {d de : TD} (hd : T[t]? = some d) (hu : d.under = .slice e) (hde : T[e]? = some de) {z : Value} (hz : de.zero = some z) (hzs : z.cells.size = de.size) (hsz : 0 < de.size)
    {α : Type} {f : α → List Value} {l : List α} {x : α} (hf : ∀ y, (f y).length = de.size) (h1 : ∀ u ∈ f x, u.oneCell' = true) {s : Sl} {b : Nat} {t' : TypeId} (H : Rel w0 V0 (.blk b (f x) t' :: r0 :: r1 :: r2 :: r3 :: r4 :: .row s e de.size (l.flatMap f) :: own) V w)
    (hb : (l.length + 1) * de.bytes ≤ 140737488355328) (hm : l.length + 1 ≤ 4611686018427387904)
    {k : Value → World → Prop} (hk : ∀ s' w', Rel w0 V0 (r0 :: r1 :: r2 :: r3 :: r4 :: .row s' e de.size ((l ++ [x]).flatMap f) :: own) V w' → k s'.v w') : SemOk P (Builtin.append_ #[t, t] ty #[s.v, .slice (some ⟨b, 0, none⟩) 1 1]) w k :=
  Rel.app1At hT hd hu hde hz hzs hsz hf h1 H (i := 5) rfl hb hm hk
theorem Rel.front_5 {r0 r1 r2 r3 r4 : Res} {r : Res} (H : Rel w0 V0 (r0 :: r1 :: r2 :: r3 :: r4 :: r :: own) V w) : Rel w0 V0 (r :: r0 :: r1 :: r2 :: r3 :: r4 :: own) V w := H.perm (List.perm_middle (l₁ := [r0, r1, r2, r3, r4]))
theorem Rel.app1_6 {r0 r1 r2 r3 r4 r5 : Res} {P : Program} {T : List TD} (hT : TabOk P T) {t ty e : TypeId} {d de : TD} (hd : T[t]? = some d) (hu : d.under = .slice e) (hde : T[e]? = some de) {z : Value} (hz : de.zero = some z) (hzs : z.cells.size = de.size) (hsz : 0 < de.size)
    {α : Type} {f : α → List Value} {l : List α} {x : α} (hf : ∀ y, (f y).length = de.size) (h1 : ∀ u ∈ f x, u.oneCell' = true) {s : Sl} {b : Nat} {t' : TypeId} (H : Rel w0 V0 (.blk b (f x) t' :: r0 :: r1 :: r2 :: r3 :: r4 :: r5 :: .row s e de.size (l.flatMap f) :: own) V w)
    (hb : (l.length + 1) * de.bytes ≤ 140737488355328) (hm : l.length + 1 ≤ 4611686018427387904)
    {k : Value → World → Prop} (hk : ∀ s' w', Rel w0 V0 (r0 :: r1 :: r2 :: r3 :: r4 :: r5 :: .row s' e de.size ((l ++ [x]).flatMap f) :: own) V w' → k s'.v w') : SemOk P (Builtin.append_ #[t, t] ty #[s.v, .slice (some ⟨b, 0, none⟩) 1 1]) w k :=
  Rel.app1At hT hd hu hde hz hzs hsz hf h1 H (i := 6) rfl hb hm hk
theorem Rel.front_6 {r0 r1 r2 r3 r4 r5 : Res} {r : Res} (H : Rel w0 V0 (r0 :: r1 :: r2 :: r3 :: r4 :: r5 :: r :: own) V w) : Rel w0 V0 (r :: r0 :: r1 :: r2 :: r3 :: r4 :: r5 :: own) V w := H.perm (List.perm_middle (l₁ := [r0, r1, r2, r3, r4, r5]))
theorem Rel.app1_7 {r0 r1 r2 r3 r4 r5 r6 : Res} {P : Program} {T : List TD} (hT : TabOk P T) {t ty e : TypeId} {d de : TD} (hd : T[t]? = some d) (hu : d.under = .slice e) (hde : T[e]? = some de) {z : Value} (hz : de.zero = some z) (hzs : z.cells.size = de.size) (hsz : 0 < de.size)
    {α : Type} {f : α → List Value} {l : List α} {x : α} (hf : ∀ y, (f y).length = de.size) (h1 : ∀ u ∈ f x, u.oneCell' = true) {s : Sl} {b : Nat} {t' : TypeId} (H : Rel w0 V0 (.blk b (f x) t' :: r0 :: r1 :: r2 :: r3 :: r4 :: r5 :: r6 :: .row s e de.size (l.flatMap f) :: own) V w)
    (hb : (l.length + 1) * de.bytes ≤ 140737488355328) (hm : l.length + 1 ≤ 4611686018427387904)
    {k : Value → World → Prop} (hk : ∀ s' w', Rel w0 V0 (r0 :: r1 :: r2 :: r3 :: r4 :: r5 :: r6 :: .row s' e de.size ((l ++ [x]).flatMap f) :: own) V w' → k s'.v w') : SemOk P (Builtin.append_ #[t, t] ty #[s.v, .slice (some ⟨b, 0, none⟩) 1 1]) w k :=
  Rel.app1At hT hd hu hde hz hzs hsz hf h1 H (i := 7) rfl hb hm hk
theorem Rel.front_7 {r0 r1 r2 r3 r4 r5 r6 : Res} {r : Res} (H : Rel w0 V0 (r0 :: r1 :: r2 :: r3 :: r4 :: r5 :: r6 :: r :: own) V w) : Rel w0 V0 (r :: r0 :: r1 :: r2 :: r3 :: r4 :: r5 :: r6 :: own) V w := H.perm (List.perm_middle (l₁ := [r0, r1, r2, r3, r4, r5, r6]))
end
end Go.Proofs.YtlhgmigoncmcaaaGreat
