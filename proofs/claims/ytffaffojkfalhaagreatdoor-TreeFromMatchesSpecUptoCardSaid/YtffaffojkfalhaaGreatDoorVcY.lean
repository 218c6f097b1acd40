/-
  Drawn regions whose stores loads may cross, with what is owned.
-/
import Derived.Test.YtffaffojkfalhaaGreatDoorVcU
import Derived.Test.YtffaffojkfalhaaGreatDoorVcS
namespace Go.Proofs.YtffaffojkfalhaaGreatDoor
open Go Go.RowKit

section
variable {w0 V0 V w : World} {own : List Res}
/-- what was frozen on the way need not be told -/
theorem Rel.back (H : Rel w0 V0 own V w) : Rel w0 V0 own V0 w :=
  ⟨H.base, Sub.refl _, fun _ _ h => h, H.laid, H.new, fun r hr b hb c t f hc => H.hid r hr b hb c t f (H.sub.cel b c t f hc), H.apart, H.sub.trans H.data⟩
/-- the other things owned, in a world in which one block may differ -/
theorem Rel.savAt (H : Rel w0 V0 own V w) {i : Nat} {r : Res} {b : Nat} (hi : own[i]? = some r) (hr : r.at_ = some b) {w1 : World} (hs : Sav [b] w w1) : ∃ E, Rel E E (own.eraseIdx i) V w1 := by
  have hlt := (List.getElem?_eq_some_iff.1 hi).1
  have hri := (List.getElem?_eq_some_iff.1 hi).2
  have hmem : r ∈ own := List.mem_of_getElem? hi
  have hsub : (own.eraseIdx i).Sublist own := List.eraseIdx_sublist ..
  have Hs := H.sl hsub
  have hoth : ∀ x ∈ own.eraseIdx i, x.at_ ≠ some b := by
    intro x hx hxb
    obtain ⟨j, hj⟩ := List.mem_iff_getElem?.1 hx
    rw [List.getElem?_eraseIdx] at hj
    have hp := List.pairwise_iff_getElem.1 H.apart
    split at hj
    · rename_i hji
      obtain ⟨hjl, hje⟩ := List.getElem?_eq_some_iff.1 hj
      exact hp j i hjl hlt hji b (by rw [hje]; exact hxb) (by rw [hri]; exact hr)
    · rename_i hji
      obtain ⟨hjl, hje⟩ := List.getElem?_eq_some_iff.1 hj
      exact hp i (j + 1) hlt hjl (by omega) b (by rw [hri]; exact hr) (by rw [hje]; exact hxb)
  refine ⟨{ w1 with heap := #[] }, ⟨rfl, rfl, rfl, by simp, fun k hk => by simp at hk⟩, ⟨fun c a t f hc => by simp at hc⟩, fun c hc => by simp at hc, fun x hx => ?_, fun x hx c hc => by simp, Hs.hid, Hs.apart, ⟨fun c a t f hc => ?_⟩⟩
  · have hl := Hs.laid x hx
    refine Res.keep hl fun c hc => hs.block c (Res.lt hl hc) ?_
    intro hcb
    rw [List.mem_singleton.1 hcb] at hc
    exact hoth x hx hc
  · have h1 := H.data.cel c a t f hc
    rw [hs.block c (Array.getElem?_eq_some_iff.1 h1).1]
    · exact h1
    · intro hcb
      rw [List.mem_singleton.1 hcb] at hc
      exact H.hid r hmem b hr a t f hc
theorem Rel.storeXAt (H : Rel w0 V0 own V w) {i b o : Nat} {c l : List Value} {t : TypeId} (hi : own[i]? = some (.blk b c t)) {k : World → Prop} (hk : replK c o l fun c' => ∀ w', Rel w0 V0 (own.set i (.blk b c' t)) V w' → k w') :
    ∃ c t', BlkF w b c t' ∧ replK c o l fun c' => ∀ w', UpdF w b c' t' w' → Sav [b] w w' ∧ k w' := by
  refine ⟨c, t, (H.blkAt hi).f, ?_⟩
  have mono : ∀ (c : List Value) (o : Nat) (l : List Value) (k k' : List Value → Prop), (∀ x, k x → k' x) → replK c o l k → replK c o l k' := by
    intro c
    induction c with
    | nil => intro o l k k' h hr; cases o <;> cases l <;> first | exact h _ hr | exact hr.elim
    | cons u c ih =>
      intro o l k k' h hr
      cases o with
      | zero =>
        cases l with
        | nil => exact h _ hr
        | cons v l => exact ih 0 l _ _ (fun x hx => h _ hx) hr
      | succ o => cases l <;> exact ih o _ _ _ (fun x hx => h _ hx) hr
  exact mono c o l _ _ (fun c' hc' w' hu => ⟨Sav.upd (hu.upd (H.blkAt hi)) (by simp), hc' w' (H.updAt hi (hu.upd (H.blkAt hi)))⟩) hk
/-- 'append' to a slice without spare room, of somebody else -/
theorem Rel.appFull {P : Program} {T : List TD} (hT : TabOk P T) {t ty e : TypeId} {d de : TD} (hd : T[t]? = some d) (hu : d.under = .slice e) (hde : T[e]? = some de) {z : Value} (hz : de.zero = some z) (hzs : z.cells.size = de.size) (hsz : 0 < de.size)
    {s x : Sl} {xs ys : List Value} (H : Rel w0 V0 own V w) (hs : Cells w s.a xs) (hsl : xs.length = s.len * de.size) (hsc : s.cap = s.len) (hx : Cells w x.a ys) (hxl : ys.length = x.len * de.size) (hx0 : 0 < x.len) (hb : (s.len + x.len) * de.bytes ≤ 140737488355328) (hm : s.len + x.len ≤ 4611686018427387904)
    {k : Value → World → Prop} (hk : ∀ s' w', Ext w w' → Rel w0 V0 (.row s' e de.size (xs ++ ys) :: own) V w' → s'.len = s.len + x.len → k s'.v w') : SemOk P (Builtin.append_ #[t, t] ty #[s.v, x.v]) w k := by
  have hd' := hT t d hd
  have hde' := hT e de hde
  obtain ⟨i, hi, hi1, hi2, hi3⟩ := hde'.info
  have ht : P.underlying t = some (.slice e) := by
    obtain ⟨d0, q1, q2⟩ := hd'.under
    rw [hu] at q2
    cases d0 <;> first | (simp_all [undOf]; done) | (simp only [undOf] at q2; split at q2 <;> cases q2)
  have hys : ys ≠ [] := by
    intro e; subst e
    have : 0 < x.len * de.size := Nat.mul_pos (by omega) hsz
    simp at hxl; omega
  have hpl := hx.1 hys
  have hnews : ∀ j v, ys[j]? = some v → w.cell? ((⟨ablk x.a, aoff x.a, none⟩ : Addr).add j) = some v := fun j v hj => by rw [addr_add]; exact hx.2 j v hj
  have hxe : x.v = .slice (some ⟨ablk x.a, aoff x.a, none⟩) x.len x.cap := by
    show Value.slice x.a x.len x.cap = _
    conv => lhs; rw [hpl]
  have hsize : i.size = de.size := hi1
  have hbytes : i.bytes = de.bytes := hi2
  rw [hxe]
  have hcap : ∀ old, grownCap w (s.len + x.len) old e ≤ maxLen := fun old => grownCap_le_maxLen w _ old e (by simp only [maxLen]; omega)
  have hge : ∀ old, s.len + x.len ≤ grownCap w (s.len + x.len) old e := fun old => grownCap_ge w _ old e
  have hlen : (xs ++ ys).length = (s.len + x.len) * de.size := by rw [List.length_append, hsl, hxl, Nat.add_mul]
  have fresh : ∀ old, k (.slice (some ⟨w.heap.size, 0, none⟩) (s.len + x.len) (grownCap w (s.len + x.len) old e))
      (w.drew.alloc (.cells (xs.toArray ++ ys.toArray ++ Builtin.zeroCells z.cells (grownCap w (s.len + x.len) old e - (s.len + x.len))) e)) := by
    intro old
    have hext : Ext w (w.drew.alloc (.cells (xs.toArray ++ ys.toArray ++ Builtin.zeroCells z.cells (grownCap w (s.len + x.len) old e - (s.len + x.len))) e)) :=
      ⟨rfl, rfl, rfl, by simp, fun c hc => heap_alloc_old w.drew _ c hc⟩
    refine hk ⟨some ⟨w.heap.size, 0, none⟩, s.len + x.len, grownCap w (s.len + x.len) old e⟩ _ hext (H.more hext ?_ fun b hb => ?_) rfl
    · refine ⟨hlen, .inr ⟨w.heap.size, _, rfl, ⟨(0, 0), heap_alloc_new w.drew _, .zero _⟩, hge old, hcap old, ?_, ?_⟩⟩
      · simp only [Array.size_append, List.size_toArray, size_zeroCells, hzs, hsl, hxl, ← Nat.add_mul]
        congr 1
        have := hge old
        omega
      · simp only [Array.toList_append, List.append_assoc]
        rw [← List.append_assoc, ← hlen]
        exact List.take_left
    · simp only [Res.at_, Option.map_some, Option.some.injEq] at hb
      omega
  cases hsa : s.a with
  | none =>
    have hxs : xs = [] := Decidable.byContradiction fun hne => by
      have := hs.1 hne
      rw [hsa] at this
      simp [Plain] at this
    subst hxs
    have h2 : s.len = 0 := by
      rcases Nat.eq_zero_or_pos s.len with h | h
      · exact h
      · have := Nat.mul_pos h hsz
        simp at hsl; omega
    have hb' : x.len * de.bytes ≤ 140737488355328 := by rw [h2, Nat.zero_add] at hb; exact hb
    have hrun := run_append_nil (P := P) w t ty e i z ht hi (hi3.trans hz) ⟨ablk x.a, aoff x.a, none⟩ x.len x.cap ys (by rw [hxl, hsize]) hnews (by omega) (by omega) (by rw [hbytes]; omega)
    have hf := fresh 0
    simp only [h2, Nat.zero_add, Array.empty_append] at hf
    have hse : s.v = .slice none 0 0 := by show Value.slice s.a s.len s.cap = _; rw [hsa, hsc, h2]
    rw [hse]
    exact .of hrun hf
  | some a =>
    have hse : s.v = .slice (some a) s.len s.cap := by show Value.slice s.a s.len s.cap = _; rw [hsa]
    rw [hse]
    have holds : ∀ j v, xs[j]? = some v → w.cell? (a.add j) = some v := fun j v hj => by
      have hne : xs ≠ [] := by intro e; subst e; simp at hj
      have hp := hs.1 hne
      rw [hsa] at hp
      have h2 := hs.2 j v hj
      rw [hsa] at h2
      have ha : a = ⟨ablk (some a), aoff (some a), none⟩ := Option.some.inj hp
      rw [ha, addr_add]; exact h2
    have hrun := run_append_grow (P := P) w t ty e i z ht hi (hi3.trans hz) a s.len s.cap xs (by rw [hsl, hsize]) holds ⟨ablk x.a, aoff x.a, none⟩ x.len x.cap ys (by rw [hxl, hsize]) hnews (by omega) (by omega) (growslice_fits (by omega) (by rw [hbytes]; exact hb))
    exact .of hrun (fresh s.cap)
end
end Go.Proofs.YtffaffojkfalhaaGreatDoor
