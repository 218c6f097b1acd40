/-
  slices.Clone of an entry's slices; clone, each; equality of digests.
-/
import Derived.Test.YtlhgmigoncmcaaaCatG
import Derived.Test.YtlhgmigoncmcaaaVcV
namespace Go.Proofs.Ytlhgmigoncmcaaa
open Go Go.RowKit

theorem flat_one {α : Type} {f : α → List Value} {l : List α} (h : ∀ x, (f x).all Value.oneCell' = true) : ∀ u ∈ l.flatMap f, u.oneCell' = true := by
  intro u hu
  obtain ⟨x, _, hx⟩ := List.mem_flatMap.1 hu
  exact List.all_eq_true.1 (h x) u hx
section
variable {V W : World}
theorem clone_refs (hV : Sub V W) {s : Sl} {l : List RefD} (hs : SlF refC V s l) (hl : l.length ≤ 1099511627776) : Ret Try.prog 80 [s.v].toArray W fun v w' => ∃ (V' : World) (t : Sl), Sub V V' ∧ Rel W V [] V' w' ∧ v = t.v ∧ SlF refC V' t l := by
  have H := Rel.start hV
  have hlen := hs.len
  refine cal_of_vc tabOk Try.func80 rfl (by kernel_rfl) 8 rfl (by simp) [0, 2, 4] ?_
  rcases s with ⟨_ | p, n, c⟩
  · have hl0 : l = [] := by
      rcases l with _ | ⟨b, l⟩
      · rfl
      · have := hs.cells.1 (by simp [refC])
        simp [Plain] at this
    subst hl0
    ((repeat ((conv => whnf); first | refine an ?_ | ((first | refine H.nwD ?_ | refine H.nw ?_); clear H; intro w _ H) | refine H.ce ?_ | refine H.db ?_ | refine ea ?_ | (refine H.st ?_; (conv => whnf); clear H; intro w H) | refine condT fun _ => ?_ | refine condF fun _ => ?_ | refine condNT fun _ => ?_ | refine condNF fun _ => ?_ | refine H.lw ?_ | refine H.ll ?_)); (conv => whnf))
    exact ⟨V, ⟨none, 0, 0⟩, Sub.refl V, H.sx, rfl, SlF.nil _ _⟩
  · ((repeat ((conv => whnf); first | refine an ?_ | refine H.ce ?_ | refine H.db ?_ | refine ea ?_ | (refine H.st ?_; (conv => whnf); clear H; intro w H) | refine condT fun _ => ?_ | refine condF fun _ => ?_ | refine condNT fun _ => ?_ | refine condNF fun _ => ?_ | refine H.lw ?_ | refine H.ll ?_)); (conv => whnf))
    ((first | refine Rel.nwD H ?_ | refine Rel.nw H ?_); clear H; intro w b5 H)
    ((repeat ((conv => whnf); first | refine an ?_ | ((first | refine H.nwD ?_ | refine H.nw ?_); clear H; intro w _ H) | refine H.ce ?_ | refine H.db ?_ | refine ea ?_ | (refine H.st ?_; (conv => whnf); clear H; intro w H) | refine condT fun _ => ?_ | refine condF fun _ => ?_ | refine condNT fun _ => ?_ | refine condNF fun _ => ?_ | refine H.lw ?_ | refine H.ll ?_)); (conv => whnf))
    replace H := H.toRow (n := 0) (e := 53) (sz := 2) rfl (by simp [maxLen])
    refine Rel.app_0 (s := ⟨some ⟨b5, 0, none⟩, 0, 0⟩) (x := ⟨some p, n, c⟩) tabOk rfl rfl rfl rfl rfl (by decide) H (hs.up H.data).cells (flat_len (n := 2) (fun _ => rfl) l |>.trans (by rw [← hlen])) (flat_one (fun _ => rfl)) (by simp; dsimp only at hlen; omega) (by simp; dsimp only at hlen; omega) ?_
    clear H
    intro rn w H hrn
    ((repeat ((conv => whnf); first | refine an ?_ | ((first | refine H.nwD ?_ | refine H.nw ?_); clear H; intro w _ H) | refine H.ce ?_ | refine H.db ?_ | refine ea ?_ | (refine H.st ?_; (conv => whnf); clear H; intro w H) | refine condT fun _ => ?_ | refine condF fun _ => ?_ | refine condNT fun _ => ?_ | refine condNF fun _ => ?_ | refine H.lw ?_ | refine H.ll ?_)); (conv => whnf))
    obtain ⟨V2, hV2, H, hr⟩ := Rel.freezeF H (fun _ => rfl) (by decide)
    exact ⟨V2, rn, hV2, H.sx, rfl, hr⟩
theorem clone_strs (hV : Sub V W) {s : Sl} {l : List (List UInt8)} (hs : SlF strC V s l) (hl : l.length ≤ 1099511627776) : Ret Try.prog 81 [s.v].toArray W fun v w' => ∃ (V' : World) (t : Sl), Sub V V' ∧ Rel W V [] V' w' ∧ v = t.v ∧ SlF strC V' t l := by
  have H := Rel.start hV
  have hlen := hs.len
  refine cal_of_vc tabOk Try.func81 rfl (by kernel_rfl) 8 rfl (by simp) [0, 2, 4] ?_
  rcases s with ⟨_ | p, n, c⟩
  · have hl0 : l = [] := by
      rcases l with _ | ⟨b, l⟩
      · rfl
      · have := hs.cells.1 (by simp [strC])
        simp [Plain] at this
    subst hl0
    ((repeat ((conv => whnf); first | refine an ?_ | ((first | refine H.nwD ?_ | refine H.nw ?_); clear H; intro w _ H) | refine H.ce ?_ | refine H.db ?_ | refine ea ?_ | (refine H.st ?_; (conv => whnf); clear H; intro w H) | refine condT fun _ => ?_ | refine condF fun _ => ?_ | refine condNT fun _ => ?_ | refine condNF fun _ => ?_ | refine H.lw ?_ | refine H.ll ?_)); (conv => whnf))
    exact ⟨V, ⟨none, 0, 0⟩, Sub.refl V, H.sx, rfl, SlF.nil _ _⟩
  · ((repeat ((conv => whnf); first | refine an ?_ | refine H.ce ?_ | refine H.db ?_ | refine ea ?_ | (refine H.st ?_; (conv => whnf); clear H; intro w H) | refine condT fun _ => ?_ | refine condF fun _ => ?_ | refine condNT fun _ => ?_ | refine condNF fun _ => ?_ | refine H.lw ?_ | refine H.ll ?_)); (conv => whnf))
    ((first | refine Rel.nwD H ?_ | refine Rel.nw H ?_); clear H; intro w b5 H)
    ((repeat ((conv => whnf); first | refine an ?_ | ((first | refine H.nwD ?_ | refine H.nw ?_); clear H; intro w _ H) | refine H.ce ?_ | refine H.db ?_ | refine ea ?_ | (refine H.st ?_; (conv => whnf); clear H; intro w H) | refine condT fun _ => ?_ | refine condF fun _ => ?_ | refine condNT fun _ => ?_ | refine condNF fun _ => ?_ | refine H.lw ?_ | refine H.ll ?_)); (conv => whnf))
    replace H := H.toRow (n := 0) (e := 9) (sz := 1) rfl (by simp [maxLen])
    refine Rel.app_0 (s := ⟨some ⟨b5, 0, none⟩, 0, 0⟩) (x := ⟨some p, n, c⟩) tabOk rfl rfl rfl rfl rfl (by decide) H (hs.up H.data).cells (flat_len (n := 1) (fun _ => rfl) l |>.trans (by rw [← hlen])) (flat_one (fun _ => rfl)) (by simp; dsimp only at hlen; omega) (by simp; dsimp only at hlen; omega) ?_
    clear H
    intro rn w H hrn
    ((repeat ((conv => whnf); first | refine an ?_ | ((first | refine H.nwD ?_ | refine H.nw ?_); clear H; intro w _ H) | refine H.ce ?_ | refine H.db ?_ | refine ea ?_ | (refine H.st ?_; (conv => whnf); clear H; intro w H) | refine condT fun _ => ?_ | refine condF fun _ => ?_ | refine condNT fun _ => ?_ | refine condNF fun _ => ?_ | refine H.lw ?_ | refine H.ll ?_)); (conv => whnf))
    obtain ⟨V2, hV2, H, hr⟩ := Rel.freezeF H (fun _ => rfl) (by decide)
    exact ⟨V2, rn, hV2, H.sx, rfl, hr⟩
theorem clone_digs (hV : Sub V W) {s : Sl} {l : List Dig} (hs : SlF digC V s l) (hl : l.length ≤ 1099511627776) : Ret Try.prog 82 [s.v].toArray W fun v w' => ∃ (V' : World) (t : Sl), Sub V V' ∧ Rel W V [] V' w' ∧ v = t.v ∧ SlF digC V' t l := by
  have H := Rel.start hV
  have hlen := hs.len
  refine cal_of_vc tabOk Try.func82 rfl (by kernel_rfl) 8 rfl (by simp) [0, 2, 4] ?_
  rcases s with ⟨_ | p, n, c⟩
  · have hl0 : l = [] := by
      rcases l with _ | ⟨b, l⟩
      · rfl
      · have := hs.cells.1 (by simp [digC])
        simp [Plain] at this
    subst hl0
    ((repeat ((conv => whnf); first | refine an ?_ | ((first | refine H.nwD ?_ | refine H.nw ?_); clear H; intro w _ H) | refine H.ce ?_ | refine H.db ?_ | refine ea ?_ | (refine H.st ?_; (conv => whnf); clear H; intro w H) | refine condT fun _ => ?_ | refine condF fun _ => ?_ | refine condNT fun _ => ?_ | refine condNF fun _ => ?_ | refine H.lw ?_ | refine H.ll ?_)); (conv => whnf))
    exact ⟨V, ⟨none, 0, 0⟩, Sub.refl V, H.sx, rfl, SlF.nil _ _⟩
  · ((repeat ((conv => whnf); first | refine an ?_ | refine H.ce ?_ | refine H.db ?_ | refine ea ?_ | (refine H.st ?_; (conv => whnf); clear H; intro w H) | refine condT fun _ => ?_ | refine condF fun _ => ?_ | refine condNT fun _ => ?_ | refine condNF fun _ => ?_ | refine H.lw ?_ | refine H.ll ?_)); (conv => whnf))
    ((first | refine Rel.nwD H ?_ | refine Rel.nw H ?_); clear H; intro w b5 H)
    ((repeat ((conv => whnf); first | refine an ?_ | ((first | refine H.nwD ?_ | refine H.nw ?_); clear H; intro w _ H) | refine H.ce ?_ | refine H.db ?_ | refine ea ?_ | (refine H.st ?_; (conv => whnf); clear H; intro w H) | refine condT fun _ => ?_ | refine condF fun _ => ?_ | refine condNT fun _ => ?_ | refine condNF fun _ => ?_ | refine H.lw ?_ | refine H.ll ?_)); (conv => whnf))
    replace H := H.toRow (n := 0) (e := 37) (sz := 32) rfl (by simp [maxLen])
    refine Rel.app_0 (s := ⟨some ⟨b5, 0, none⟩, 0, 0⟩) (x := ⟨some p, n, c⟩) tabOk rfl rfl rfl rfl rfl (by decide) H (hs.up H.data).cells (flat_len (n := 32) (fun _ => rfl) l |>.trans (by rw [← hlen])) (flat_one (fun _ => rfl)) (by simp; dsimp only at hlen; omega) (by simp; dsimp only at hlen; omega) ?_
    clear H
    intro rn w H hrn
    ((repeat ((conv => whnf); first | refine an ?_ | ((first | refine H.nwD ?_ | refine H.nw ?_); clear H; intro w _ H) | refine H.ce ?_ | refine H.db ?_ | refine ea ?_ | (refine H.st ?_; (conv => whnf); clear H; intro w H) | refine condT fun _ => ?_ | refine condF fun _ => ?_ | refine condNT fun _ => ?_ | refine condNF fun _ => ?_ | refine H.lw ?_ | refine H.ll ?_)); (conv => whnf))
    obtain ⟨V2, hV2, H, hr⟩ := Rel.freezeF H (fun _ => rfl) (by decide)
    exact ⟨V2, rn, hV2, H.sx, rfl, hr⟩
/-! ### an entry -/
theorem clone_spec (hV : Sub V W) {e : Ent} {h : EntH} (hok : EntOk V e h) (hl : e.sources.length ≤ 1099511627776 ∧ e.groups.length ≤ 1099511627776 ∧ e.pieces.length ≤ 1099511627776) : Ret Try.prog 55 [.agg (entC e h).toArray].toArray W fun v w' => ∃ (V' : World) (h' : EntH), Sub V V' ∧ Rel W V [] V' w' ∧ v = .agg (entC e h').toArray ∧ EntOk V' e h' := by
  have H := Rel.start hV
  refine cal_of_vc tabOk Try.func55 rfl (by kernel_rfl) 18 rfl (by simp) [0, 1, 2] ?_
  ((repeat ((conv => whnf); first | refine an ?_ | refine H.ce ?_ | refine H.db ?_ | refine ea ?_ | (refine H.st ?_; (conv => whnf); clear H; intro w H) | refine condT fun _ => ?_ | refine condF fun _ => ?_ | refine condNT fun _ => ?_ | refine condNF fun _ => ?_ | refine H.lw ?_ | refine H.ll ?_)); (conv => whnf))
  ((first | refine Rel.nwD H ?_ | refine Rel.nw H ?_); clear H; intro w b1 H)
  ((repeat ((conv => whnf); first | refine an ?_ | refine H.ce ?_ | refine H.db ?_ | refine ea ?_ | (refine H.st ?_; (conv => whnf); clear H; intro w H) | refine condT fun _ => ?_ | refine condF fun _ => ?_ | refine condNT fun _ => ?_ | refine condNF fun _ => ?_ | refine H.lw ?_ | refine H.ll ?_)); (conv => whnf))
  ((first | refine Rel.nwD H ?_ | refine Rel.nw H ?_); clear H; intro w b2 H)
  ((repeat ((conv => whnf); first | refine an ?_ | ((first | refine H.nwD ?_ | refine H.nw ?_); clear H; intro w _ H) | refine H.ce ?_ | refine H.db ?_ | refine ea ?_ | (refine H.st ?_; (conv => whnf); clear H; intro w H) | refine condT fun _ => ?_ | refine condF fun _ => ?_ | refine condNT fun _ => ?_ | refine condNF fun _ => ?_ | refine H.lw ?_ | refine H.ll ?_)); (conv => whnf))
  ((first | refine draw_vc (id := 1) tabOk mixed [2, 5] [0, 1, 3, 4, 6, 7, 8, 2, 10, 5, 9, 11, 12, 13, 14, 15, 16] (by kernel_rfl) ?_); intro w hdw; replace H := Rel.ext H hdw.ext)
  ((repeat ((conv => whnf); first | refine an ?_ | ((first | refine H.nwD ?_ | refine H.nw ?_); clear H; intro w _ H) | refine H.ce ?_ | refine H.db ?_ | refine ea ?_ | (refine H.st ?_; (conv => whnf); clear H; intro w H) | refine condT fun _ => ?_ | refine condF fun _ => ?_ | refine condNT fun _ => ?_ | refine condNF fun _ => ?_ | refine H.lw ?_ | refine H.ll ?_)); (conv => whnf))
  refine (clone_refs H.data hok.so hl.1).use ?_
  rintro v w ⟨V1, s1, hV1, K, rfl, h1⟩
  (have hKb := K.base; replace H := Rel.call H K)
  ((repeat ((conv => whnf); first | refine an ?_ | ((first | refine H.nwD ?_ | refine H.nw ?_); clear H; intro w _ H) | refine H.ce ?_ | refine H.db ?_ | refine ea ?_ | (refine H.st ?_; (conv => whnf); clear H; intro w H) | refine condT fun _ => ?_ | refine condF fun _ => ?_ | refine condNT fun _ => ?_ | refine condNF fun _ => ?_ | refine H.lw ?_ | refine H.ll ?_)); (conv => whnf))
  refine (clone_strs H.data (hok.gr.up hV1) hl.2.1).use ?_
  rintro v w ⟨V2, s2, hV2, K, rfl, h2⟩
  (have hKb := K.base; replace H := Rel.call H K)
  ((repeat ((conv => whnf); first | refine an ?_ | ((first | refine H.nwD ?_ | refine H.nw ?_); clear H; intro w _ H) | refine H.ce ?_ | refine H.db ?_ | refine ea ?_ | (refine H.st ?_; (conv => whnf); clear H; intro w H) | refine condT fun _ => ?_ | refine condF fun _ => ?_ | refine condNT fun _ => ?_ | refine condNF fun _ => ?_ | refine H.lw ?_ | refine H.ll ?_)); (conv => whnf))
  refine (clone_digs H.data ((hok.pi.up hV1).up hV2) hl.2.2).use ?_
  rintro v w ⟨V3, s3, hV3, K, rfl, h3⟩
  (have hKb := K.base; replace H := Rel.call H K)
  ((repeat ((conv => whnf); first | refine an ?_ | ((first | refine H.nwD ?_ | refine H.nw ?_); clear H; intro w _ H) | refine H.ce ?_ | refine H.db ?_ | refine ea ?_ | (refine H.st ?_; (conv => whnf); clear H; intro w H) | refine condT fun _ => ?_ | refine condF fun _ => ?_ | refine condNT fun _ => ?_ | refine condNF fun _ => ?_ | refine H.lw ?_ | refine H.ll ?_)); (conv => whnf))
  exact ⟨V3, ⟨s1, s2, s3⟩, (hV1.trans hV2).trans hV3, H.sx, rfl, ⟨h1.up (hV2.trans hV3), h2.up hV3, h3⟩⟩
end
end Go.Proofs.Ytlhgmigoncmcaaa
