/-
  Rows of entries; a catalogue, or a fault.
-/
import Derived.Test.YtlhgmigoncmcaaaGreatCatG
import Derived.Test.YtlhgmigoncmcaaaGreatVcV
import Derived.Test.YtlhgmigoncmcaaaGreatVcY
namespace Go.Proofs.YtlhgmigoncmcaaaGreat
open Go Go.RowKit

theorem flat_one {α : Type} {f : α → List Value} {l : List α} (h : ∀ x, (f x).all Value.oneCell' = true) : ∀ u ∈ l.flatMap f, u.oneCell' = true := by
  intro u hu
  obtain ⟨x, _, hx⟩ := List.mem_flatMap.1 hu
  exact List.all_eq_true.1 (h x) u hx
def entP (p : Ent × EntH) : List Value := entC p.1 p.2
theorem entP_one (p : Ent × EntH) : ∀ u ∈ entP p, u.oneCell' = true := List.all_eq_true.1 rfl
section
variable {V : World}
/-- a row of entries -/
structure EntRow (V : World) (ps : List (Ent × EntH)) (l : List Ent) : Prop where
  map : ps.map (·.1) = l
  ok : ∀ p ∈ ps, EntOk V p.1 p.2
theorem EntRow.up {V' : World} {ps : List (Ent × EntH)} {l : List Ent} (h : EntRow V ps l) (k : Sub V V') : EntRow V' ps l := ⟨h.map, fun p hp => (h.ok p hp).up k⟩
theorem EntRow.nil (V : World) : EntRow V [] [] := ⟨rfl, by simp⟩
theorem EntRow.snoc {ps : List (Ent × EntH)} {l : List Ent} (h : EntRow V ps l) {e : Ent} {eh : EntH} (he : EntOk V e eh) : EntRow V (ps ++ [(e, eh)]) (l ++ [e]) := by
  refine ⟨by simp [h.map], fun p hp => ?_⟩
  rcases List.mem_append.1 hp with hp | hp
  · exact h.ok p hp
  · rw [List.mem_singleton.1 hp]; exact he
theorem EntRow.len {ps : List (Ent × EntH)} {l : List Ent} (h : EntRow V ps l) : ps.length = l.length := by rw [← h.map]; simp
theorem EntRow.ents {ps : List (Ent × EntH)} {l : List Ent} (h : EntRow V ps l) {s : Sl} (hs : SlF entP V s ps) : Ents V s l := ⟨ps, h.map, hs, h.ok⟩
abbrev LenOk (e : Ent) : Prop := e.sources.length ≤ 1099511627776 ∧ e.groups.length ≤ 1099511627776 ∧ e.pieces.length ≤ 1099511627776
end
theorem ent_lens {l : List Ent} (hent : ∀ i, i < l.length → entriesCode l i = 0) : ∀ e ∈ l, LenOk e := by
  intro e he
  obtain ⟨k, hlt, rfl⟩ := List.getElem_of_mem he
  have h1 := hent k hlt
  simp only [entriesCode, List.getElem?_eq_getElem hlt, Option.getD_some, entCode] at h1
  split at h1
  · contradiction
  · rename_i h2
    have h2 : entCode1 l[k] = 0 := Decidable.byContradiction h2
    rw [entCode1] at h2
    refine ⟨Decidable.byContradiction fun h4 => ?_, Decidable.byContradiction fun h4 => ?_, Decidable.byContradiction fun h4 => ?_⟩
    · have h5 : 4 < l[k].sources.length := by omega
      simp only [h5, if_true] at h2
      repeat' split at h2
      all_goals omega
    · have h5 : 4 < l[k].groups.length := by omega
      simp only [h5, if_true] at h2
      repeat' split at h2
      all_goals omega
    · have h5 : manCode l[k].csize l[k].pieces.length = 2 ∨ manCode l[k].csize l[k].pieces.length = 4 := by
        unfold manCode
        split
        · exact .inr rfl
        · exact .inl (by rw [if_pos (by omega)])
      repeat' split at h2
      all_goals omega
/-- a catalogue, or a fault -/
structure CatOr (W V : World) (c i : Int) (l : List Ent) (v : Value) (w' : World) : Prop where
  ex : ∃ V', Sub V V' ∧ Rel W V [] V' w' ∧ ((c ≠ 0 ∧ v = .tuple #[catV ⟨none, 0, 0⟩, faultV c i]) ∨ (c = 0 ∧ ∃ s : Sl, v = .tuple #[catV s, faultV 0 0] ∧ Ents V' s l))
end Go.Proofs.YtlhgmigoncmcaaaGreat
