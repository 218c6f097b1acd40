/-
  Encodings of entries differ if the entries do.
-/
import Derived.Test.YtlhgmigoncmcaaaGreatEncA
import Derived.Test.YtlhgmigoncmcaaaGreatCatU
namespace Go.Proofs.YtlhgmigoncmcaaaGreat
open Go Go.RowKit

theorem flat_inj {α β : Type} {f : α → List UInt8} {g : α → β} : ∀ {l l' : List α} {x y : List UInt8}, l.length = l'.length → (∀ a ∈ l, ∀ b ∈ l', ∀ u v, f a ++ u = f b ++ v → g a = g b ∧ u = v) → l.flatMap f ++ x = l'.flatMap f ++ y → l.map g = l'.map g ∧ x = y
  | [], [], x, y, _, _, h => ⟨rfl, by simpa using h⟩
  | [], _ :: _, _, _, hl, _, _ => by simp at hl
  | _ :: _, [], _, _, hl, _, _ => by simp at hl
  | a :: l, b :: l', x, y, hl, hf, h => by
    simp only [List.flatMap_cons, List.append_assoc] at h
    obtain ⟨h1, h2⟩ := hf a (by simp) b (by simp) _ _ h
    obtain ⟨h3, h4⟩ := flat_inj (by simpa using hl) (fun a ha b hb => hf a (by simp [ha]) b (by simp [hb])) h2
    exact ⟨by simp [h1, h3], h4⟩
theorem putL_inj {α β : Type} {f : α → List UInt8} {g : α → β} {l l' : List α} {x y : List UInt8} (hl : l.length ≤ 1099511627776) (hl' : l'.length ≤ 1099511627776) (hf : ∀ a ∈ l, ∀ b ∈ l', ∀ u v, f a ++ u = f b ++ v → g a = g b ∧ u = v) (h : putL f l ++ x = putL f l' ++ y) : l.map g = l'.map g ∧ x = y := by
  simp only [putL, List.append_assoc] at h
  obtain ⟨h1, h2⟩ := putN_inj (by constructor <;> omega) (by constructor <;> omega) h
  exact flat_inj (by omega) hf h2
theorem putRef_inj {a b : RefD} (ha : a.name.length ≤ 1099511627776) (hb : b.name.length ≤ 1099511627776) (va : I64 a.ver) (vb : I64 b.ver) {u v : List UInt8} (h : putRef a ++ u = putRef b ++ v) : a = b ∧ u = v := by
  simp only [putRef, List.append_assoc] at h
  obtain ⟨h1, h2⟩ := putC_inj ha hb h
  obtain ⟨h3, h4⟩ := putN_inj va vb h2
  exact ⟨ref_ext.1 ⟨h1, h3⟩, h4⟩
theorem digL_app {a b : Dig} {u v : List UInt8} (h : digL a ++ u = digL b ++ v) : digL a = digL b ∧ u = v := List.append_inj h (by rw [digL_len, digL_len])
theorem putL_map {l l' : List Dig} (h : l.map digL = l'.map digL) : putL digL l = putL digL l' := by
  have h1 : l.length = l'.length := by simpa using congrArg List.length h
  unfold putL
  rw [h1, List.flatMap_def, List.flatMap_def, h]
theorem putE_app {a b : Ent} (ha : Tame a) (hb : Tame b) {u v : List UInt8} (h : putE a ++ u = putE b ++ v) : sameEnt a b ∧ u = v := by
  simp only [putE, List.append_assoc] at h
  obtain ⟨h1, h⟩ := putC_inj (by have := ha.name; omega) (by have := hb.name; omega) h
  obtain ⟨h2, h⟩ := putN_inj ha.num.ver hb.num.ver h
  obtain ⟨h3, h⟩ := putN_inj ha.num.kind hb.num.kind h
  obtain ⟨h4, h⟩ := putN_inj ha.num.day hb.num.day h
  obtain ⟨h5, h⟩ := putN_inj ha.num.size hb.num.size h
  obtain ⟨h6, h⟩ := digL_app h
  obtain ⟨h7, h⟩ := putL_inj (g := id) (by have := ha.so; omega) (by have := hb.so; omega) (fun x hx y hy u v huv => putRef_inj (by have := ha.sn x hx; omega) (by have := hb.sn y hy; omega) (ha.num.srcs x hx) (hb.num.srcs y hy) huv) h
  obtain ⟨h8, h⟩ := putL_inj (g := id) (by have := ha.gr; omega) (by have := hb.gr; omega) (fun x hx y hy u v huv => putC_inj (a := x) (b := y) (by have := ha.gn x hx; omega) (by have := hb.gn y hy; omega) huv) h
  obtain ⟨h9, h⟩ := putN_inj ha.num.emb hb.num.emb h
  obtain ⟨h10, h⟩ := putN_inj ha.num.need hb.num.need h
  obtain ⟨h11, h⟩ := putN_inj ha.num.keep hb.num.keep h
  obtain ⟨h12, h⟩ := putN_inj ha.num.csize hb.num.csize h
  obtain ⟨h13, h⟩ := digL_app h
  obtain ⟨h14, h⟩ := putL_inj (g := digL) (by have := ha.pi; omega) (by have := hb.pi; omega) (fun x _ y _ u v huv => digL_app huv) h
  simp only [List.map_id] at h7 h8
  exact ⟨⟨h1, h2, h3, h4, h5, h6, h8, h9, h10, h11, h7, h12, h13, h14⟩, h⟩
theorem putE_iff {a b : Ent} (ha : Tame a) (hb : Tame b) : putE a = putE b ↔ sameEnt a b := by
  constructor
  · intro h
    exact (putE_app ha hb (u := []) (v := []) (by simpa using h)).1
  · rintro ⟨h1, h2, h3, h4, h5, h6, h8, h9, h10, h11, h7, h12, h13, h14⟩
    simp only [putE, h1, h2, h3, h4, h5, h6, h7, h8, h9, h10, h11, h12, h13, putL_map h14]
theorem sameEnt_symm {a b : Ent} : sameEnt a b ↔ sameEnt b a := by
  constructor <;> (rintro ⟨h1, h2, h3, h4, h5, h6, h8, h9, h10, h11, h7, h12, h13, h14⟩; exact ⟨h1.symm, h2.symm, h3.symm, h4.symm, h5.symm, h6.symm, h8.symm, h9.symm, h10.symm, h11.symm, h7.symm, h12.symm, h13.symm, h14.symm⟩)
theorem nameOk_len {s : List UInt8} (h : nameOk s = true) : s.length ≤ 32 := by
  simp only [nameOk, Bool.and_eq_true, decide_eq_true_eq] at h
  exact h.1.2
/-- what a code of 0 tells -/
theorem entCode1_zero {e : Ent} (h : entCode1 e = 0) : nameOk e.name = true ∧ e.sources.length ≤ 4 ∧ e.groups.length ≤ 4 ∧ firstCode (srcAt e.sources) e.sources.length = 0 ∧ firstCode (grpAt e.groups) e.groups.length = 0 ∧ manCode e.csize e.pieces.length = 0 := by
  unfold entCode1 at h
  by_cases a1 : nameOk e.name = false
  · rw [if_pos a1] at h; cases h
  rw [if_neg a1] at h
  split at h
  · cases h
  split at h
  · cases h
  split at h
  · cases h
  split at h
  · cases h
  split at h
  · cases h
  split at h
  · cases h
  rename_i a2
  split at h
  · cases h
  rename_i a3
  split at h
  · rename_i a4; exact absurd h a4
  rename_i a4
  split at h
  · rename_i a5; exact absurd h a5
  rename_i a5
  split at h
  · cases h
  split at h
  · cases h
  exact ⟨by simpa using a1, by omega, by omega, Decidable.not_not.1 a4, Decidable.not_not.1 a5, h⟩
theorem tame_of {e : Ent} (hn : EntNum e) (h : entCode1 e = 0) : Tame e := by
  obtain ⟨h1, h2, h3, h4, h5, h6⟩ := entCode1_zero h
  refine ⟨hn, by have := nameOk_len h1; omega, h2, fun r hr => ?_, h3, fun g hg => ?_, ?_⟩
  · obtain ⟨i, hi, rfl⟩ := List.getElem_of_mem hr
    have := firstCode_all h4 hi
    unfold srcAt at this
    split at this
    · cases this
    · rename_i hx
      simp only [hi, List.getElem?_eq_getElem, Option.getD_some] at hx
      have := nameOk_len (s := e.sources[i].name) (by simpa using hx)
      omega
  · obtain ⟨i, hi, rfl⟩ := List.getElem_of_mem hg
    have := firstCode_all h5 hi
    unfold grpAt at this
    split at this
    · cases this
    · rename_i hx
      simp only [hi, List.getElem?_eq_getElem, Option.getD_some] at hx
      have := nameOk_len (s := e.groups[i]) (by simpa using hx)
      omega
  · unfold manCode at h6
    split at h6
    · cases h6
    · split at h6
      · cases h6
      · omega
theorem entriesCode_one {l : List Ent} {i : Nat} (hi : i < l.length) (h : entriesCode l i = 0) : entCode1 l[i] = 0 := by
  simp only [entriesCode, List.getElem?_eq_getElem hi, Option.getD_some, entCode] at h
  split at h
  · contradiction
  · rename_i h2; exact Decidable.byContradiction h2
theorem tames {l : List Ent} (hn : ∀ e ∈ l, EntNum e) (hent : ∀ i, i < l.length → entriesCode l i = 0) : ∀ e ∈ l, Tame e := by
  intro e he
  obtain ⟨i, hi, rfl⟩ := List.getElem_of_mem he
  exact tame_of (hn _ he) (entriesCode_one hi (hent i hi))
theorem Tame.lens {e : Ent} (h : Tame e) : LenOk e := ⟨by have := h.so; omega, by have := h.gr; omega, by have := h.pi; omega⟩
end Go.Proofs.YtlhgmigoncmcaaaGreat
