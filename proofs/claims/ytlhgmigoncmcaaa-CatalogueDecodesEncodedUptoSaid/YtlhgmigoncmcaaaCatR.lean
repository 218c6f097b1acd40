/-
  each, Add.
-/
import Derived.Test.YtlhgmigoncmcaaaCatQ
import Derived.Test.YtlhgmigoncmcaaaVcU
namespace Go.Proofs.Ytlhgmigoncmcaaa
open Go Go.RowKit

def entP (p : Ent × EntH) : List Value := entC p.1 p.2
theorem entP_one (p : Ent × EntH) : ∀ u ∈ entP p, u.oneCell' = true := List.all_eq_true.1 rfl
section
variable {V W : World}
/-- a row of entries -/
structure EntRow (V : World) (ps : List (Ent × EntH)) (l : List Ent) : Prop where
  map : ps.map (·.1) = l
  ok : ∀ p ∈ ps, EntOk V p.1 p.2
theorem EntRow.up {V' : World} {ps : List (Ent × EntH)} {l : List Ent} (h : EntRow V ps l) (k : Sub V V') : EntRow V' ps l := ⟨h.map, fun p hp => (h.ok p hp).up k⟩
theorem EntRow.nil (V : World) : EntRow V [] [] := ⟨rfl, by simp⟩
theorem EntRow.snoc {ps : List (Ent × EntH)} {l : List Ent} (h : EntRow V ps l) {e : Ent} {eh : EntH} (he : EntOk V e eh) : EntRow V (ps ++ [(e, eh)]) (l ++ [e]) := by
  refine ⟨by simp [h.map], fun p hp => ?_⟩
  rcases List.mem_append.1 hp with hp | hp
  · exact h.ok p hp
  · rw [List.mem_singleton.1 hp]; exact he
theorem EntRow.len {ps : List (Ent × EntH)} {l : List Ent} (h : EntRow V ps l) : ps.length = l.length := by rw [← h.map]; simp
theorem EntRow.ents {ps : List (Ent × EntH)} {l : List Ent} (h : EntRow V ps l) {s : Sl} (hs : SlF entP V s ps) : Ents V s l := ⟨ps, h.map, hs, h.ok⟩
abbrev LenOk (e : Ent) : Prop := e.sources.length ≤ 1099511627776 ∧ e.groups.length ≤ 1099511627776 ∧ e.pieces.length ≤ 1099511627776
theorem each_spec (hV : Sub V W) {s : Sl} {l : List Ent} (hs : Ents V s l) (hl : l.length ≤ 1048576) (hlen : ∀ e ∈ l, LenOk e) : Ret Try.prog 54 [s.v, .func (.func 55) #[] #[]].toArray W fun v w' => ∃ (V' : World) (r : Sl) (ps : List (Ent × EntH)), Sub V V' ∧ v = r.v ∧ EntRow V' ps l ∧ Rel W V [.row r 44 76 (ps.flatMap entP)] V' w' := by
  have H := Rel.start hV
  have hsl := hs.len
  refine cal_of_vc tabOk Try.func54 rfl (by kernel_rfl) 22 rfl (by simp) [0, 1, 4, 5, 7, 8, 9, 10, 11] ?_
  ((repeat ((conv => whnf); first | refine an ?_ | ((first | refine H.nwD ?_ | refine H.nw ?_); clear H; intro w _ H) | refine H.ce ?_ | refine H.db ?_ | refine ea ?_ | (refine H.st ?_; (conv => whnf); clear H; intro w H) | refine condT fun _ => ?_ | refine condF fun _ => ?_ | refine condNT fun _ => ?_ | refine condNF fun _ => ?_ | refine H.da (hc1 _ _ (by rfl)) ?_ | refine H.datw hc1 (by rfl) ?_ | refine H.datl hc1 (by rfl) ?_ | refine H.lw ?_ | refine H.ll ?_)); (conv => whnf))
  replace H := H.rowNil 44 76
  refine loop_inv (S := Nat × Sl × List (Ent × EntH)) tabOk [0, 1, 4, 8, 9] (fun k => [(5, k.2.1.v), (10, iv k.1)]) (fun k w' => k.1 ≤ l.length ∧ ∃ V', Sub V V' ∧ EntRow V' k.2.2 (l.take k.1) ∧ Rel W V [.row k.2.1 44 76 (k.2.2.flatMap entP)] V' w') (fun k _ => l.length - k.1) (0, ⟨none, 0, 0⟩, []) ?_
  (conv => whnf)
  refine ⟨(by repeat (first | exact trivial | refine ⟨rfl, ?_⟩)), ⟨by omega, V, Sub.refl _, EntRow.nil V, H.sx⟩, ?_⟩
  clear H
  rintro ⟨k, r, ps⟩ w ⟨hk, V1, hV1, hps, H⟩
  dsimp only at hk H hps
  have hpl := hps.len
  by_cases hlt : k < l.length
  rotate_left
  · ((repeat ((conv => whnf); first | refine an ?_ | ((first | refine H.nwD ?_ | refine H.nw ?_); clear H; intro w _ H) | refine H.ce ?_ | refine H.db ?_ | refine ea ?_ | (refine H.st ?_; (conv => whnf); clear H; intro w H) | refine condT fun _ => ?_ | refine condF fun _ => ?_ | refine condNT fun _ => ?_ | refine condNF fun _ => ?_ | refine H.da (hc1 _ _ (by rfl)) ?_ | refine H.datw hc1 (by rfl) ?_ | refine H.datl hc1 (by rfl) ?_ | refine H.lw ?_ | refine H.ll ?_)); (conv => whnf))
    rw [List.take_of_length_le (by omega)] at hps
    exact ⟨V1, r, ps, hV1, rfl, hps, H.sx⟩
  obtain ⟨hp, eh, hok, hc1⟩ := (hs.up hV1).get hlt
  simp at hpl
  ((repeat ((conv => whnf); first | refine an ?_ | ((first | refine H.nwD ?_ | refine H.nw ?_); clear H; intro w _ H) | refine H.ce ?_ | refine H.db ?_ | refine ea ?_ | (refine H.st ?_; (conv => whnf); clear H; intro w H) | refine condT fun _ => ?_ | refine condF fun _ => ?_ | refine condNT fun _ => ?_ | refine condNF fun _ => ?_ | refine H.da (hc1 _ _ (by rfl)) ?_ | refine H.datw hc1 (by rfl) ?_ | refine H.datl hc1 (by rfl) ?_ | refine H.lw ?_ | refine H.ll ?_)); (conv => whnf))
  refine (clone_spec H.data hok (hlen _ (List.getElem_mem hlt))).use ?_
  rintro v w ⟨V2, h', hV2, K, rfl, hok'⟩
  replace H := H.call K
  have hq : entC l[k] h' = entP (l[k], h') := rfl
  ((repeat ((conv => whnf); first | refine an ?_ | ((first | refine H.nwD ?_ | refine H.nw ?_); clear H; intro w _ H) | refine H.ce ?_ | refine H.db ?_ | refine ea ?_ | (refine H.st ?_; (conv => whnf); clear H; intro w H) | refine condT fun _ => ?_ | refine condF fun _ => ?_ | refine condNT fun _ => ?_ | refine condNF fun _ => ?_ | refine H.da (hc1 _ _ (by rfl)) ?_ | refine H.datw hc1 (by rfl) ?_ | refine H.datl hc1 (by rfl) ?_ | refine H.lw ?_ | refine H.ll ?_)); (conv => whnf))
  refine Rel.app1_1 (f := entP) (x := (l[k], h')) tabOk rfl rfl rfl rfl rfl (by decide) (fun _ => rfl) (entP_one _) H (by simp; omega) (by omega) ?_
  clear H
  intro rn w H
  ((repeat ((conv => whnf); first | refine an ?_ | ((first | refine H.nwD ?_ | refine H.nw ?_); clear H; intro w _ H) | refine H.ce ?_ | refine H.db ?_ | refine ea ?_ | (refine H.st ?_; (conv => whnf); clear H; intro w H) | refine condT fun _ => ?_ | refine condF fun _ => ?_ | refine condNT fun _ => ?_ | refine condNF fun _ => ?_ | refine H.da (hc1 _ _ (by rfl)) ?_ | refine H.datw hc1 (by rfl) ?_ | refine H.datl hc1 (by rfl) ?_ | refine H.lw ?_ | refine H.ll ?_)); (conv => whnf))
  refine ⟨(by repeat (first | exact trivial | refine ⟨rfl, ?_⟩)), (k + 1, rn, ps ++ [(l[k], h')]), (by repeat (first | exact trivial | refine ⟨rfl, ?_⟩)), ⟨by omega, V2, hV1.trans hV2, ?_, H.sx⟩, by omega⟩
  rw [List.take_succ_eq_append_getElem hlt]
  exact (hps.up hV2).snoc hok'
end
end Go.Proofs.Ytlhgmigoncmcaaa
