/-
  CatalogueSourcesMatchSpec.
-/
import Derived.Test.YtlhgmigoncmcaaaCatO
import Derived.Test.YtlhgmigoncmcaaaVcO
namespace Go.Proofs.Ytlhgmigoncmcaaa
open Go Go.RowKit

theorem relCode_cases (l : List Ent) (i : Int) : ((catFault l).1 ≠ 0 → (relCode l i).1 = (catFault l).1 ∧ (relCode l i).2 = (catFault l).2) ∧ ((catFault l).1 = 0 → ¬ (0 ≤ i ∧ i ≤ (l.length : Int) - 1) → (relCode l i).1 = 4 ∧ (relCode l i).2 = -2) ∧ ((catFault l).1 = 0 → (0 ≤ i ∧ i ≤ (l.length : Int) - 1) → (relCode l i).1 = 0 ∧ (relCode l i).2 = 0) := by
  refine ⟨fun h => ?_, fun h h2 => ?_, fun h h2 => ?_⟩
  · simp [relCode, h]
  · unfold relCode
    rw [if_neg (by simp [h]), if_pos h2]
    exact ⟨rfl, rfl⟩
  · unfold relCode
    rw [if_neg (by simp [h]), if_neg (by simp [h2])]
    exact ⟨rfl, rfl⟩
theorem numsOr_row {W V : World} {c i : Int} {xs : List Int} {v : Value} {w' : World} (hz : c = 0 → i = 0) (h : NumsOr W V c i xs v w') : ∃ (V' : World) (t : Sl), Sub V V' ∧ Rel W V [] V' w' ∧ v = .tuple #[t.v, faultV c i] ∧ ((c ≠ 0 ∧ t = ⟨none, 0, 0⟩) ∨ (c = 0 ∧ Ints V' t xs)) := by
  obtain ⟨V', hV', K, ⟨hc, rfl⟩ | ⟨rfl, t, rfl, ht⟩⟩ := h
  · exact ⟨V', ⟨none, 0, 0⟩, hV', K, rfl, .inl ⟨hc, rfl⟩⟩
  · rw [hz rfl]
    exact ⟨V', t, hV', K, rfl, .inr ⟨rfl, ht⟩⟩
set_option maxRecDepth 100000 in
set_option maxHeartbeats 4000000 in
theorem law_sources {W : World} {s : Sl} {l : List Ent} (hs : Ents W s l) (_hn : ∀ e ∈ l, EntNum e) (hl : l.length ≤ 1099511627776) (at_ : Int) (h64 : I64 at_) :
    Ret Try.prog 9 [catV s, iv at_].toArray W fun v w' => v = .bool true ∧ Ext W w' := by
  have H := Rel.start (Sub.refl W)
  have hlen := hs.len
  obtain ⟨Fc, Fr, Fz⟩ := relCode_cases l at_
  have hcz := fun h => catFault_zero (l := l) h
  have hzz : (relCode l at_).1 = 0 → (relCode l at_).2 = 0 := by
    intro h
    by_cases h1 : (catFault l).1 = 0
    · by_cases h2 : 0 ≤ at_ ∧ at_ ≤ (l.length : Int) - 1
      · exact (Fz h1 h2).2
      · rw [(Fr h1 h2).1] at h; cases h
    · rw [(Fc h1).1] at h; exact absurd h h1
  refine cal_of_vc tabOk Try.func9 rfl (by kernel_rfl) 104 rfl (by simp) [0, 1, 2, 4, 5, 6, 7, 8, 9, 10, 11, 12, 14, 40, 44, 67, 73, 81] ?_
  ((repeat ((conv => whnf); first | refine an ?_ | refine H.ce ?_ | refine H.db ?_ | refine ea ?_ | ((first | refine H.store_0 ?_ | refine H.store_1 ?_ | refine H.store_2 ?_ | refine H.store_3 ?_ | refine H.store_4 ?_ | refine H.store_5 ?_ | refine H.store_6 ?_ | refine H.store_7 ?_ | refine H.store_8 ?_ | refine H.store_9 ?_); (conv => whnf); clear H; intro w H) | refine condT fun _ => ?_ | refine condF fun _ => ?_ | refine condNT fun _ => ?_ | refine condNF fun _ => ?_ | refine H.da (hc1 _ _ (by rfl)) ?_ | refine H.datw hc1 (by rfl) ?_ | refine H.datl hc1 (by rfl) ?_ | refine H.da (hc2 _ _ (by rfl)) ?_ | refine H.datw hc2 (by rfl) ?_ | refine H.datl hc2 (by rfl) ?_ | refine H.da (hc3 _ _ (by rfl)) ?_ | refine H.datw hc3 (by rfl) ?_ | refine H.datl hc3 (by rfl) ?_ | refine H.da (hc4 _ _ (by rfl)) ?_ | refine H.datw hc4 (by rfl) ?_ | refine H.datl hc4 (by rfl) ?_ | refine H.lw ?_ | refine H.ll ?_)); (conv => whnf))
  ((first | refine Rel.nw H ?_ | refine Rel.nwD H ?_); clear H; intro w b2 H)
  ((repeat ((conv => whnf); first | refine an ?_ | ((first | refine H.nw ?_ | refine H.nwD ?_); clear H; intro w _ H) | refine H.ce ?_ | refine H.db ?_ | refine ea ?_ | ((first | refine H.store_0 ?_ | refine H.store_1 ?_ | refine H.store_2 ?_ | refine H.store_3 ?_ | refine H.store_4 ?_ | refine H.store_5 ?_ | refine H.store_6 ?_ | refine H.store_7 ?_ | refine H.store_8 ?_ | refine H.store_9 ?_); (conv => whnf); clear H; intro w H) | refine condT fun _ => ?_ | refine condF fun _ => ?_ | refine condNT fun _ => ?_ | refine condNF fun _ => ?_ | refine H.da (hc1 _ _ (by rfl)) ?_ | refine H.datw hc1 (by rfl) ?_ | refine H.datl hc1 (by rfl) ?_ | refine H.da (hc2 _ _ (by rfl)) ?_ | refine H.datw hc2 (by rfl) ?_ | refine H.datl hc2 (by rfl) ?_ | refine H.da (hc3 _ _ (by rfl)) ?_ | refine H.datw hc3 (by rfl) ?_ | refine H.datl hc3 (by rfl) ?_ | refine H.da (hc4 _ _ (by rfl)) ?_ | refine H.datw hc4 (by rfl) ?_ | refine H.datl hc4 (by rfl) ?_ | refine H.lw ?_ | refine H.ll ?_)); (conv => whnf))
  refine (example_spec H.data).use ?_
  rintro v w ⟨rfl, V1, hV1, K⟩
  replace H := H.call K
  ((repeat ((conv => whnf); first | refine an ?_ | ((first | refine H.nw ?_ | refine H.nwD ?_); clear H; intro w _ H) | refine H.ce ?_ | refine H.db ?_ | refine ea ?_ | ((first | refine H.store_0 ?_ | refine H.store_1 ?_ | refine H.store_2 ?_ | refine H.store_3 ?_ | refine H.store_4 ?_ | refine H.store_5 ?_ | refine H.store_6 ?_ | refine H.store_7 ?_ | refine H.store_8 ?_ | refine H.store_9 ?_); (conv => whnf); clear H; intro w H) | refine condT fun _ => ?_ | refine condF fun _ => ?_ | refine condNT fun _ => ?_ | refine condNF fun _ => ?_ | refine H.da (hc1 _ _ (by rfl)) ?_ | refine H.datw hc1 (by rfl) ?_ | refine H.datl hc1 (by rfl) ?_ | refine H.da (hc2 _ _ (by rfl)) ?_ | refine H.datw hc2 (by rfl) ?_ | refine H.datl hc2 (by rfl) ?_ | refine H.da (hc3 _ _ (by rfl)) ?_ | refine H.datw hc3 (by rfl) ?_ | refine H.datl hc3 (by rfl) ?_ | refine H.da (hc4 _ _ (by rfl)) ?_ | refine H.datw hc4 (by rfl) ?_ | refine H.datl hc4 (by rfl) ?_ | refine H.lw ?_ | refine H.ll ?_)); (conv => whnf))
  refine (sources_spec H.data (hs.up hV1) hl at_ h64).use ?_
  intro v w hv
  obtain ⟨V2, t1, hV2, K, rfl, ht1⟩ := numsOr_row hzz hv
  clear hv
  replace H := H.call K
  have hV12 := hV1.trans hV2
  ((repeat ((conv => whnf); first | refine an ?_ | refine H.ce ?_ | refine H.db ?_ | refine ea ?_ | ((first | refine H.store_0 ?_ | refine H.store_1 ?_ | refine H.store_2 ?_ | refine H.store_3 ?_ | refine H.store_4 ?_ | refine H.store_5 ?_ | refine H.store_6 ?_ | refine H.store_7 ?_ | refine H.store_8 ?_ | refine H.store_9 ?_); (conv => whnf); clear H; intro w H) | refine condT fun _ => ?_ | refine condF fun _ => ?_ | refine condNT fun _ => ?_ | refine condNF fun _ => ?_ | refine H.da (hc1 _ _ (by rfl)) ?_ | refine H.datw hc1 (by rfl) ?_ | refine H.datl hc1 (by rfl) ?_ | refine H.da (hc2 _ _ (by rfl)) ?_ | refine H.datw hc2 (by rfl) ?_ | refine H.datl hc2 (by rfl) ?_ | refine H.da (hc3 _ _ (by rfl)) ?_ | refine H.datw hc3 (by rfl) ?_ | refine H.datl hc3 (by rfl) ?_ | refine H.da (hc4 _ _ (by rfl)) ?_ | refine H.datw hc4 (by rfl) ?_ | refine H.datl hc4 (by rfl) ?_ | refine H.lw ?_ | refine H.ll ?_)); (conv => whnf))
  ((first | refine Rel.nw H ?_ | refine Rel.nwD H ?_); clear H; intro w b6 H)
  ((repeat ((conv => whnf); first | refine an ?_ | ((first | refine H.nw ?_ | refine H.nwD ?_); clear H; intro w _ H) | refine H.ce ?_ | refine H.db ?_ | refine ea ?_ | ((first | refine H.store_0 ?_ | refine H.store_1 ?_ | refine H.store_2 ?_ | refine H.store_3 ?_ | refine H.store_4 ?_ | refine H.store_5 ?_ | refine H.store_6 ?_ | refine H.store_7 ?_ | refine H.store_8 ?_ | refine H.store_9 ?_); (conv => whnf); clear H; intro w H) | refine condT fun _ => ?_ | refine condF fun _ => ?_ | refine condNT fun _ => ?_ | refine condNF fun _ => ?_ | refine H.da (hc1 _ _ (by rfl)) ?_ | refine H.datw hc1 (by rfl) ?_ | refine H.datl hc1 (by rfl) ?_ | refine H.da (hc2 _ _ (by rfl)) ?_ | refine H.datw hc2 (by rfl) ?_ | refine H.datl hc2 (by rfl) ?_ | refine H.da (hc3 _ _ (by rfl)) ?_ | refine H.datw hc3 (by rfl) ?_ | refine H.datl hc3 (by rfl) ?_ | refine H.da (hc4 _ _ (by rfl)) ?_ | refine H.datw hc4 (by rfl) ?_ | refine H.datl hc4 (by rfl) ?_ | refine H.lw ?_ | refine H.ll ?_)); (conv => whnf))
  refine (uses_spec H.data (hs.up hV12) hl at_ h64).use ?_
  intro v w hv
  obtain ⟨V3, t2, hV3, K, rfl, ht2⟩ := numsOr_row hzz hv
  clear hv
  replace H := H.call K
  have hV13 := hV12.trans hV3
  clear hzz
  generalize relCode l at_ = rc at *
  obtain ⟨r1, r2⟩ := rc
  dsimp only at *
  ((repeat ((conv => whnf); first | refine an ?_ | refine H.ce ?_ | refine H.db ?_ | refine ea ?_ | ((first | refine H.store_0 ?_ | refine H.store_1 ?_ | refine H.store_2 ?_ | refine H.store_3 ?_ | refine H.store_4 ?_ | refine H.store_5 ?_ | refine H.store_6 ?_ | refine H.store_7 ?_ | refine H.store_8 ?_ | refine H.store_9 ?_); (conv => whnf); clear H; intro w H) | refine condT fun _ => ?_ | refine condF fun _ => ?_ | refine condNT fun _ => ?_ | refine condNF fun _ => ?_ | refine H.da (hc1 _ _ (by rfl)) ?_ | refine H.datw hc1 (by rfl) ?_ | refine H.datl hc1 (by rfl) ?_ | refine H.da (hc2 _ _ (by rfl)) ?_ | refine H.datw hc2 (by rfl) ?_ | refine H.datl hc2 (by rfl) ?_ | refine H.da (hc3 _ _ (by rfl)) ?_ | refine H.datw hc3 (by rfl) ?_ | refine H.datl hc3 (by rfl) ?_ | refine H.da (hc4 _ _ (by rfl)) ?_ | refine H.datw hc4 (by rfl) ?_ | refine H.datl hc4 (by rfl) ?_ | refine H.lw ?_ | refine H.ll ?_)); (conv => whnf))
  ((first | refine Rel.nw H ?_ | refine Rel.nwD H ?_); clear H; intro w b8 H)
  ((repeat ((conv => whnf); first | refine an ?_ | ((first | refine H.nw ?_ | refine H.nwD ?_); clear H; intro w _ H) | refine H.ce ?_ | refine H.db ?_ | refine ea ?_ | ((first | refine H.store_0 ?_ | refine H.store_1 ?_ | refine H.store_2 ?_ | refine H.store_3 ?_ | refine H.store_4 ?_ | refine H.store_5 ?_ | refine H.store_6 ?_ | refine H.store_7 ?_ | refine H.store_8 ?_ | refine H.store_9 ?_); (conv => whnf); clear H; intro w H) | refine condT fun _ => ?_ | refine condF fun _ => ?_ | refine condNT fun _ => ?_ | refine condNF fun _ => ?_ | refine H.da (hc1 _ _ (by rfl)) ?_ | refine H.datw hc1 (by rfl) ?_ | refine H.datl hc1 (by rfl) ?_ | refine H.da (hc2 _ _ (by rfl)) ?_ | refine H.datw hc2 (by rfl) ?_ | refine H.datl hc2 (by rfl) ?_ | refine H.da (hc3 _ _ (by rfl)) ?_ | refine H.datw hc3 (by rfl) ?_ | refine H.datl hc3 (by rfl) ?_ | refine H.da (hc4 _ _ (by rfl)) ?_ | refine H.datw hc4 (by rfl) ?_ | refine H.datl hc4 (by rfl) ?_ | refine H.lw ?_ | refine H.ll ?_)); (conv => whnf))
  refine (catalogueFault_ref H.data (hs.up hV13) hl).use ?_
  rintro v w ⟨rfl, K⟩
  replace H := H.call K
  have hcc : ∀ h : (catFault l).1 = 0, True := fun _ => trivial
  have hcf : (catFault l).1 = 0 → (catFault l).1 = 0 := id
  obtain ⟨c1, hc1⟩ : ∃ c1, (catFault l).1 = c1 := ⟨_, rfl⟩
  obtain ⟨c2, hc2⟩ : ∃ c2, (catFault l).2 = c2 := ⟨_, rfl⟩
  rw [hc1, hc2]
  rw [hc1] at Fc Fr Fz hcf
  rw [hc2] at Fc
  clear hcc
  ((repeat ((conv => whnf); first | refine an ?_ | refine H.ce ?_ | refine H.db ?_ | refine ea ?_ | ((first | refine H.store_0 ?_ | refine H.store_1 ?_ | refine H.store_2 ?_ | refine H.store_3 ?_ | refine H.store_4 ?_ | refine H.store_5 ?_ | refine H.store_6 ?_ | refine H.store_7 ?_ | refine H.store_8 ?_ | refine H.store_9 ?_); (conv => whnf); clear H; intro w H) | refine condT fun _ => ?_ | refine condF fun _ => ?_ | refine condNT fun _ => ?_ | refine condNF fun _ => ?_ | refine H.da (hc1 _ _ (by rfl)) ?_ | refine H.datw hc1 (by rfl) ?_ | refine H.datl hc1 (by rfl) ?_ | refine H.da (hc2 _ _ (by rfl)) ?_ | refine H.datw hc2 (by rfl) ?_ | refine H.datl hc2 (by rfl) ?_ | refine H.da (hc3 _ _ (by rfl)) ?_ | refine H.datw hc3 (by rfl) ?_ | refine H.datl hc3 (by rfl) ?_ | refine H.da (hc4 _ _ (by rfl)) ?_ | refine H.datw hc4 (by rfl) ?_ | refine H.datl hc4 (by rfl) ?_ | refine H.lw ?_ | refine H.ll ?_)); (conv => whnf))
  ((first | refine Rel.nw H ?_ | refine Rel.nwD H ?_); clear H; intro w b9 H)
  by_cases hc : c1 = 0
  rotate_left
  · obtain ⟨rfl, rfl⟩ := Fc hc
    rcases ht1 with ⟨_, rfl⟩ | ⟨h0, _⟩
    rotate_left
    · exact absurd h0 hc
    rcases ht2 with ⟨_, rfl⟩ | ⟨h0, _⟩
    rotate_left
    · exact absurd h0 hc
    ((repeat ((conv => whnf); first | refine an ?_ | ((first | refine H.nw ?_ | refine H.nwD ?_); clear H; intro w _ H) | refine H.ce ?_ | refine H.db ?_ | refine ea ?_ | ((first | refine H.store_0 ?_ | refine H.store_1 ?_ | refine H.store_2 ?_ | refine H.store_3 ?_ | refine H.store_4 ?_ | refine H.store_5 ?_ | refine H.store_6 ?_ | refine H.store_7 ?_ | refine H.store_8 ?_ | refine H.store_9 ?_); (conv => whnf); clear H; intro w H) | refine condT fun _ => ?_ | refine condF fun _ => ?_ | refine condNT fun _ => ?_ | refine condNF fun _ => ?_ | refine H.da (hc1 _ _ (by rfl)) ?_ | refine H.datw hc1 (by rfl) ?_ | refine H.datl hc1 (by rfl) ?_ | refine H.da (hc2 _ _ (by rfl)) ?_ | refine H.datw hc2 (by rfl) ?_ | refine H.datl hc2 (by rfl) ?_ | refine H.da (hc3 _ _ (by rfl)) ?_ | refine H.datw hc3 (by rfl) ?_ | refine H.datl hc3 (by rfl) ?_ | refine H.da (hc4 _ _ (by rfl)) ?_ | refine H.datw hc4 (by rfl) ?_ | refine H.datl hc4 (by rfl) ?_ | refine H.lw ?_ | refine H.ll ?_)); (conv => whnf))
    (first | exact H.base | exact ⟨by simp, H.base⟩ | exact ⟨rfl, H.base⟩)
  subst hc
  obtain ⟨hc0, h60, hent, hcyc⟩ := hcz hc1
  obtain rfl : c2 = 0 := by rw [← hc2, hc0]
  ((repeat ((conv => whnf); first | refine an ?_ | ((first | refine H.nw ?_ | refine H.nwD ?_); clear H; intro w _ H) | refine H.ce ?_ | refine H.db ?_ | refine ea ?_ | ((first | refine H.store_0 ?_ | refine H.store_1 ?_ | refine H.store_2 ?_ | refine H.store_3 ?_ | refine H.store_4 ?_ | refine H.store_5 ?_ | refine H.store_6 ?_ | refine H.store_7 ?_ | refine H.store_8 ?_ | refine H.store_9 ?_); (conv => whnf); clear H; intro w H) | refine condT fun _ => ?_ | refine condF fun _ => ?_ | refine condNT fun _ => ?_ | refine condNF fun _ => ?_ | refine H.da (hc1 _ _ (by rfl)) ?_ | refine H.datw hc1 (by rfl) ?_ | refine H.datl hc1 (by rfl) ?_ | refine H.da (hc2 _ _ (by rfl)) ?_ | refine H.datw hc2 (by rfl) ?_ | refine H.datl hc2 (by rfl) ?_ | refine H.da (hc3 _ _ (by rfl)) ?_ | refine H.datw hc3 (by rfl) ?_ | refine H.datl hc3 (by rfl) ?_ | refine H.da (hc4 _ _ (by rfl)) ?_ | refine H.datw hc4 (by rfl) ?_ | refine H.datl hc4 (by rfl) ?_ | refine H.lw ?_ | refine H.ll ?_)); (conv => whnf))
  refine (in_ref _ _ _ _).use ?_
  rintro v w ⟨rfl, rfl⟩
  by_cases hr : 0 ≤ at_ ∧ at_ ≤ (l.length : Int) - 1
  rotate_left
  · obtain ⟨rfl, rfl⟩ := Fr rfl hr
    rcases ht1 with ⟨_, rfl⟩ | ⟨h0, _⟩
    rotate_left
    · exact absurd h0 (by decide)
    rcases ht2 with ⟨_, rfl⟩ | ⟨h0, _⟩
    rotate_left
    · exact absurd h0 (by decide)
    ((repeat ((conv => whnf); first | refine an ?_ | ((first | refine H.nw ?_ | refine H.nwD ?_); clear H; intro w _ H) | refine H.ce ?_ | refine H.db ?_ | refine ea ?_ | ((first | refine H.store_0 ?_ | refine H.store_1 ?_ | refine H.store_2 ?_ | refine H.store_3 ?_ | refine H.store_4 ?_ | refine H.store_5 ?_ | refine H.store_6 ?_ | refine H.store_7 ?_ | refine H.store_8 ?_ | refine H.store_9 ?_); (conv => whnf); clear H; intro w H) | refine condT fun _ => ?_ | refine condF fun _ => ?_ | refine condNT fun _ => ?_ | refine condNF fun _ => ?_ | refine H.da (hc1 _ _ (by rfl)) ?_ | refine H.datw hc1 (by rfl) ?_ | refine H.datl hc1 (by rfl) ?_ | refine H.da (hc2 _ _ (by rfl)) ?_ | refine H.datw hc2 (by rfl) ?_ | refine H.datl hc2 (by rfl) ?_ | refine H.da (hc3 _ _ (by rfl)) ?_ | refine H.datw hc3 (by rfl) ?_ | refine H.datl hc3 (by rfl) ?_ | refine H.da (hc4 _ _ (by rfl)) ?_ | refine H.datw hc4 (by rfl) ?_ | refine H.datl hc4 (by rfl) ?_ | refine H.lw ?_ | refine H.ll ?_)); (conv => whnf))
    refine (at_ref H.data 4 (-2)).use ?_
    rintro v w ⟨rfl, K⟩
    replace H := H.call K
    ((repeat ((conv => whnf); first | refine an ?_ | ((first | refine H.nw ?_ | refine H.nwD ?_); clear H; intro w _ H) | refine H.ce ?_ | refine H.db ?_ | refine ea ?_ | ((first | refine H.store_0 ?_ | refine H.store_1 ?_ | refine H.store_2 ?_ | refine H.store_3 ?_ | refine H.store_4 ?_ | refine H.store_5 ?_ | refine H.store_6 ?_ | refine H.store_7 ?_ | refine H.store_8 ?_ | refine H.store_9 ?_); (conv => whnf); clear H; intro w H) | refine condT fun _ => ?_ | refine condF fun _ => ?_ | refine condNT fun _ => ?_ | refine condNF fun _ => ?_ | refine H.da (hc1 _ _ (by rfl)) ?_ | refine H.datw hc1 (by rfl) ?_ | refine H.datl hc1 (by rfl) ?_ | refine H.da (hc2 _ _ (by rfl)) ?_ | refine H.datw hc2 (by rfl) ?_ | refine H.datl hc2 (by rfl) ?_ | refine H.da (hc3 _ _ (by rfl)) ?_ | refine H.datw hc3 (by rfl) ?_ | refine H.datl hc3 (by rfl) ?_ | refine H.da (hc4 _ _ (by rfl)) ?_ | refine H.datw hc4 (by rfl) ?_ | refine H.datl hc4 (by rfl) ?_ | refine H.lw ?_ | refine H.ll ?_)); (conv => whnf))
    (first | exact H.base | exact ⟨by simp, H.base⟩ | exact ⟨rfl, H.base⟩)
  obtain ⟨rfl, rfl⟩ := Fz rfl hr
  rcases ht1 with ⟨h0, _⟩ | ⟨_, ht1⟩
  · exact absurd rfl h0
  rcases ht2 with ⟨h0, _⟩ | ⟨_, ht2⟩
  · exact absurd rfl h0
  obtain ⟨n, rfl⟩ : ∃ n : Nat, at_ = n := ⟨at_.toNat, by omega⟩
  simp only [Int.toNat_natCast] at ht1 ht2
  ((repeat ((conv => whnf); first | refine an ?_ | ((first | refine H.nw ?_ | refine H.nwD ?_); clear H; intro w _ H) | refine H.ce ?_ | refine H.db ?_ | refine ea ?_ | ((first | refine H.store_0 ?_ | refine H.store_1 ?_ | refine H.store_2 ?_ | refine H.store_3 ?_ | refine H.store_4 ?_ | refine H.store_5 ?_ | refine H.store_6 ?_ | refine H.store_7 ?_ | refine H.store_8 ?_ | refine H.store_9 ?_); (conv => whnf); clear H; intro w H) | refine condT fun _ => ?_ | refine condF fun _ => ?_ | refine condNT fun _ => ?_ | refine condNF fun _ => ?_ | refine H.da (hc1 _ _ (by rfl)) ?_ | refine H.datw hc1 (by rfl) ?_ | refine H.datl hc1 (by rfl) ?_ | refine H.da (hc2 _ _ (by rfl)) ?_ | refine H.datw hc2 (by rfl) ?_ | refine H.datl hc2 (by rfl) ?_ | refine H.da (hc3 _ _ (by rfl)) ?_ | refine H.datw hc3 (by rfl) ?_ | refine H.datl hc3 (by rfl) ?_ | refine H.da (hc4 _ _ (by rfl)) ?_ | refine H.datw hc4 (by rfl) ?_ | refine H.datl hc4 (by rfl) ?_ | refine H.lw ?_ | refine H.ll ?_)); (conv => whnf))
  replace H := (H.rowNil 3 1).rowNil 3 1
  refine loop_inv (S := Nat × Sl × Sl) tabOk [0, 1, 2, 4, 5, 6, 7, 8, 9, 14, 40, 44] (fun k => [(10, k.2.1.v), (11, k.2.2.v), (12, iv k.1)]) (fun k w' => k.1 ≤ l.length ∧ Rel W W (.row k.2.1 3 1 ((picks (comes l n) k.1).flatMap intC) :: .row k.2.2 3 1 ((picks (fun i => comes l i n) k.1).flatMap intC) :: .blk b9 [iv 0, iv 0] 27 :: .blk b8 [iv 0, iv 0] 27 :: .blk b6 [iv 0, iv 0] 27 :: .blk b2 [s.v] 24 :: []) V3 w') (fun k _ => l.length - k.1) (0, ⟨none, 0, 0⟩, ⟨none, 0, 0⟩) ?_
  (conv => whnf)
  refine ⟨(by repeat (first | exact trivial | refine ⟨rfl, ?_⟩)), ⟨by omega, H.sx⟩, ?_⟩
  clear H
  rintro ⟨k, ra, rb⟩ w ⟨hk, H⟩
  dsimp only at hk H
  have hpl := picks_len (comes l n) k
  have hpl2 := picks_len (fun i => comes l i n) k
  by_cases hlt : k < l.length
  rotate_left
  · obtain rfl : k = l.length := by omega
    ((repeat ((conv => whnf); first | refine an ?_ | ((first | refine H.nw ?_ | refine H.nwD ?_); clear H; intro w _ H) | refine H.ce ?_ | refine H.db ?_ | refine ea ?_ | ((first | refine H.store_0 ?_ | refine H.store_1 ?_ | refine H.store_2 ?_ | refine H.store_3 ?_ | refine H.store_4 ?_ | refine H.store_5 ?_ | refine H.store_6 ?_ | refine H.store_7 ?_ | refine H.store_8 ?_ | refine H.store_9 ?_); (conv => whnf); clear H; intro w H) | refine condT fun _ => ?_ | refine condF fun _ => ?_ | refine condNT fun _ => ?_ | refine condNF fun _ => ?_ | refine H.da (hc1 _ _ (by rfl)) ?_ | refine H.datw hc1 (by rfl) ?_ | refine H.datl hc1 (by rfl) ?_ | refine H.da (hc2 _ _ (by rfl)) ?_ | refine H.datw hc2 (by rfl) ?_ | refine H.datl hc2 (by rfl) ?_ | refine H.da (hc3 _ _ (by rfl)) ?_ | refine H.datw hc3 (by rfl) ?_ | refine H.datl hc3 (by rfl) ?_ | refine H.da (hc4 _ _ (by rfl)) ?_ | refine H.datw hc4 (by rfl) ?_ | refine H.datl hc4 (by rfl) ?_ | refine H.lw ?_ | refine H.ll ?_)); (conv => whnf))
    obtain ⟨V4, hV4, H, hra⟩ := Rel.freezeF H (fun _ => rfl) (by decide)
    obtain ⟨V5, hV5, H, hrb⟩ := Rel.freezeF H (fun _ => rfl) (by decide)
    refine (ints_ref H.data (ht1.up ((hV3.trans hV4).trans hV5)) (hra.up hV5) (by omega)).use ?_
    rintro v w ⟨hv, K⟩
    rw [decide_eq_true rfl] at hv
    subst hv
    replace H := H.call K
    ((repeat ((conv => whnf); first | refine an ?_ | ((first | refine H.nw ?_ | refine H.nwD ?_); clear H; intro w _ H) | refine H.ce ?_ | refine H.db ?_ | refine ea ?_ | ((first | refine H.store_0 ?_ | refine H.store_1 ?_ | refine H.store_2 ?_ | refine H.store_3 ?_ | refine H.store_4 ?_ | refine H.store_5 ?_ | refine H.store_6 ?_ | refine H.store_7 ?_ | refine H.store_8 ?_ | refine H.store_9 ?_); (conv => whnf); clear H; intro w H) | refine condT fun _ => ?_ | refine condF fun _ => ?_ | refine condNT fun _ => ?_ | refine condNF fun _ => ?_ | refine H.da (hc1 _ _ (by rfl)) ?_ | refine H.datw hc1 (by rfl) ?_ | refine H.datl hc1 (by rfl) ?_ | refine H.da (hc2 _ _ (by rfl)) ?_ | refine H.datw hc2 (by rfl) ?_ | refine H.datl hc2 (by rfl) ?_ | refine H.da (hc3 _ _ (by rfl)) ?_ | refine H.datw hc3 (by rfl) ?_ | refine H.datl hc3 (by rfl) ?_ | refine H.da (hc4 _ _ (by rfl)) ?_ | refine H.datw hc4 (by rfl) ?_ | refine H.datl hc4 (by rfl) ?_ | refine H.lw ?_ | refine H.ll ?_)); (conv => whnf))
    refine (ints_ref H.data (ht2.up (hV4.trans hV5)) hrb (by omega)).use ?_
    rintro v w ⟨hv, K⟩
    rw [decide_eq_true rfl] at hv
    subst hv
    replace H := H.call K
    ((repeat ((conv => whnf); first | refine an ?_ | ((first | refine H.nw ?_ | refine H.nwD ?_); clear H; intro w _ H) | refine H.ce ?_ | refine H.db ?_ | refine ea ?_ | ((first | refine H.store_0 ?_ | refine H.store_1 ?_ | refine H.store_2 ?_ | refine H.store_3 ?_ | refine H.store_4 ?_ | refine H.store_5 ?_ | refine H.store_6 ?_ | refine H.store_7 ?_ | refine H.store_8 ?_ | refine H.store_9 ?_); (conv => whnf); clear H; intro w H) | refine condT fun _ => ?_ | refine condF fun _ => ?_ | refine condNT fun _ => ?_ | refine condNF fun _ => ?_ | refine H.da (hc1 _ _ (by rfl)) ?_ | refine H.datw hc1 (by rfl) ?_ | refine H.datl hc1 (by rfl) ?_ | refine H.da (hc2 _ _ (by rfl)) ?_ | refine H.datw hc2 (by rfl) ?_ | refine H.datl hc2 (by rfl) ?_ | refine H.da (hc3 _ _ (by rfl)) ?_ | refine H.datw hc3 (by rfl) ?_ | refine H.datl hc3 (by rfl) ?_ | refine H.da (hc4 _ _ (by rfl)) ?_ | refine H.datw hc4 (by rfl) ?_ | refine H.datl hc4 (by rfl) ?_ | refine H.lw ?_ | refine H.ll ?_)); (conv => whnf))
    (first | exact H.base | exact ⟨by simp, H.base⟩ | exact ⟨rfl, H.base⟩)
  ((repeat ((conv => whnf); first | refine an ?_ | ((first | refine H.nw ?_ | refine H.nwD ?_); clear H; intro w _ H) | refine H.ce ?_ | refine H.db ?_ | refine ea ?_ | ((first | refine H.store_0 ?_ | refine H.store_1 ?_ | refine H.store_2 ?_ | refine H.store_3 ?_ | refine H.store_4 ?_ | refine H.store_5 ?_ | refine H.store_6 ?_ | refine H.store_7 ?_ | refine H.store_8 ?_ | refine H.store_9 ?_); (conv => whnf); clear H; intro w H) | refine condT fun _ => ?_ | refine condF fun _ => ?_ | refine condNT fun _ => ?_ | refine condNF fun _ => ?_ | refine H.da (hc1 _ _ (by rfl)) ?_ | refine H.datw hc1 (by rfl) ?_ | refine H.datl hc1 (by rfl) ?_ | refine H.da (hc2 _ _ (by rfl)) ?_ | refine H.datw hc2 (by rfl) ?_ | refine H.datl hc2 (by rfl) ?_ | refine H.da (hc3 _ _ (by rfl)) ?_ | refine H.datw hc3 (by rfl) ?_ | refine H.datl hc3 (by rfl) ?_ | refine H.da (hc4 _ _ (by rfl)) ?_ | refine H.datw hc4 (by rfl) ?_ | refine H.datl hc4 (by rfl) ?_ | refine H.lw ?_ | refine H.ll ?_)); (conv => whnf))
  refine (comesFrom_ref H.data (hs.up hV13) hc1 (show n < l.length by omega) hlt).use ?_
  rintro v w ⟨rfl, K⟩
  replace H := H.call K
  simp only [List.nil_append] at H
  ((repeat ((conv => whnf); first | refine an ?_ | ((first | refine H.nw ?_ | refine H.nwD ?_); clear H; intro w _ H) | refine H.ce ?_ | refine H.db ?_ | refine ea ?_ | ((first | refine H.store_0 ?_ | refine H.store_1 ?_ | refine H.store_2 ?_ | refine H.store_3 ?_ | refine H.store_4 ?_ | refine H.store_5 ?_ | refine H.store_6 ?_ | refine H.store_7 ?_ | refine H.store_8 ?_ | refine H.store_9 ?_); (conv => whnf); clear H; intro w H) | refine condT fun _ => ?_ | refine condF fun _ => ?_ | refine condNT fun _ => ?_ | refine condNF fun _ => ?_ | refine H.da (hc1 _ _ (by rfl)) ?_ | refine H.datw hc1 (by rfl) ?_ | refine H.datl hc1 (by rfl) ?_ | refine H.da (hc2 _ _ (by rfl)) ?_ | refine H.datw hc2 (by rfl) ?_ | refine H.datl hc2 (by rfl) ?_ | refine H.da (hc3 _ _ (by rfl)) ?_ | refine H.datw hc3 (by rfl) ?_ | refine H.datl hc3 (by rfl) ?_ | refine H.da (hc4 _ _ (by rfl)) ?_ | refine H.datw hc4 (by rfl) ?_ | refine H.datl hc4 (by rfl) ?_ | refine H.lw ?_ | refine H.ll ?_)); (conv => whnf))
  refine condG_split (fun h1 => ?_) (fun h1 => ?_)
  · ((repeat ((conv => whnf); first | refine an ?_ | ((first | refine H.nw ?_ | refine H.nwD ?_); clear H; intro w _ H) | refine H.ce ?_ | refine H.db ?_ | refine ea ?_ | ((first | refine H.store_0 ?_ | refine H.store_1 ?_ | refine H.store_2 ?_ | refine H.store_3 ?_ | refine H.store_4 ?_ | refine H.store_5 ?_ | refine H.store_6 ?_ | refine H.store_7 ?_ | refine H.store_8 ?_ | refine H.store_9 ?_); (conv => whnf); clear H; intro w H) | refine condT fun _ => ?_ | refine condF fun _ => ?_ | refine condNT fun _ => ?_ | refine condNF fun _ => ?_ | refine H.da (hc1 _ _ (by rfl)) ?_ | refine H.datw hc1 (by rfl) ?_ | refine H.datl hc1 (by rfl) ?_ | refine H.da (hc2 _ _ (by rfl)) ?_ | refine H.datw hc2 (by rfl) ?_ | refine H.datl hc2 (by rfl) ?_ | refine H.da (hc3 _ _ (by rfl)) ?_ | refine H.datw hc3 (by rfl) ?_ | refine H.datl hc3 (by rfl) ?_ | refine H.da (hc4 _ _ (by rfl)) ?_ | refine H.datw hc4 (by rfl) ?_ | refine H.datl hc4 (by rfl) ?_ | refine H.lw ?_ | refine H.ll ?_)); (conv => whnf))
    (refine Rel.app1_0 (f := intC) tabOk rfl rfl rfl rfl rfl (by decide) (fun _ => rfl) (by simp [Value.oneCell']) H (by simp; omega) (by omega) ?_; clear H; intro rn w H)
    ((repeat ((conv => whnf); first | refine an ?_ | ((first | refine H.nw ?_ | refine H.nwD ?_); clear H; intro w _ H) | refine H.ce ?_ | refine H.db ?_ | refine ea ?_ | ((first | refine H.store_0 ?_ | refine H.store_1 ?_ | refine H.store_2 ?_ | refine H.store_3 ?_ | refine H.store_4 ?_ | refine H.store_5 ?_ | refine H.store_6 ?_ | refine H.store_7 ?_ | refine H.store_8 ?_ | refine H.store_9 ?_); (conv => whnf); clear H; intro w H) | refine condT fun _ => ?_ | refine condF fun _ => ?_ | refine condNT fun _ => ?_ | refine condNF fun _ => ?_ | refine H.da (hc1 _ _ (by rfl)) ?_ | refine H.datw hc1 (by rfl) ?_ | refine H.datl hc1 (by rfl) ?_ | refine H.da (hc2 _ _ (by rfl)) ?_ | refine H.datw hc2 (by rfl) ?_ | refine H.datl hc2 (by rfl) ?_ | refine H.da (hc3 _ _ (by rfl)) ?_ | refine H.datw hc3 (by rfl) ?_ | refine H.datl hc3 (by rfl) ?_ | refine H.da (hc4 _ _ (by rfl)) ?_ | refine H.datw hc4 (by rfl) ?_ | refine H.datl hc4 (by rfl) ?_ | refine H.lw ?_ | refine H.ll ?_)); (conv => whnf))
    refine (comesFrom_ref H.data (hs.up hV13) hc1 hlt (show n < l.length by omega)).use ?_
    rintro v w ⟨rfl, K⟩
    replace H := H.call K
    simp only [List.nil_append] at H
    ((repeat ((conv => whnf); first | refine an ?_ | ((first | refine H.nw ?_ | refine H.nwD ?_); clear H; intro w _ H) | refine H.ce ?_ | refine H.db ?_ | refine ea ?_ | ((first | refine H.store_0 ?_ | refine H.store_1 ?_ | refine H.store_2 ?_ | refine H.store_3 ?_ | refine H.store_4 ?_ | refine H.store_5 ?_ | refine H.store_6 ?_ | refine H.store_7 ?_ | refine H.store_8 ?_ | refine H.store_9 ?_); (conv => whnf); clear H; intro w H) | refine condT fun _ => ?_ | refine condF fun _ => ?_ | refine condNT fun _ => ?_ | refine condNF fun _ => ?_ | refine H.da (hc1 _ _ (by rfl)) ?_ | refine H.datw hc1 (by rfl) ?_ | refine H.datl hc1 (by rfl) ?_ | refine H.da (hc2 _ _ (by rfl)) ?_ | refine H.datw hc2 (by rfl) ?_ | refine H.datl hc2 (by rfl) ?_ | refine H.da (hc3 _ _ (by rfl)) ?_ | refine H.datw hc3 (by rfl) ?_ | refine H.datl hc3 (by rfl) ?_ | refine H.da (hc4 _ _ (by rfl)) ?_ | refine H.datw hc4 (by rfl) ?_ | refine H.datl hc4 (by rfl) ?_ | refine H.lw ?_ | refine H.ll ?_)); (conv => whnf))
    refine condG_split (fun h2 => ?_) (fun h2 => ?_)
    · ((repeat ((conv => whnf); first | refine an ?_ | ((first | refine H.nw ?_ | refine H.nwD ?_); clear H; intro w _ H) | refine H.ce ?_ | refine H.db ?_ | refine ea ?_ | ((first | refine H.store_0 ?_ | refine H.store_1 ?_ | refine H.store_2 ?_ | refine H.store_3 ?_ | refine H.store_4 ?_ | refine H.store_5 ?_ | refine H.store_6 ?_ | refine H.store_7 ?_ | refine H.store_8 ?_ | refine H.store_9 ?_); (conv => whnf); clear H; intro w H) | refine condT fun _ => ?_ | refine condF fun _ => ?_ | refine condNT fun _ => ?_ | refine condNF fun _ => ?_ | refine H.da (hc1 _ _ (by rfl)) ?_ | refine H.datw hc1 (by rfl) ?_ | refine H.datl hc1 (by rfl) ?_ | refine H.da (hc2 _ _ (by rfl)) ?_ | refine H.datw hc2 (by rfl) ?_ | refine H.datl hc2 (by rfl) ?_ | refine H.da (hc3 _ _ (by rfl)) ?_ | refine H.datw hc3 (by rfl) ?_ | refine H.datl hc3 (by rfl) ?_ | refine H.da (hc4 _ _ (by rfl)) ?_ | refine H.datw hc4 (by rfl) ?_ | refine H.datl hc4 (by rfl) ?_ | refine H.lw ?_ | refine H.ll ?_)); (conv => whnf))
      (refine Rel.app1_1 (f := intC) tabOk rfl rfl rfl rfl rfl (by decide) (fun _ => rfl) (by simp [Value.oneCell']) H (by simp; omega) (by omega) ?_; clear H; intro rm w H)
      ((repeat ((conv => whnf); first | refine an ?_ | ((first | refine H.nw ?_ | refine H.nwD ?_); clear H; intro w _ H) | refine H.ce ?_ | refine H.db ?_ | refine ea ?_ | ((first | refine H.store_0 ?_ | refine H.store_1 ?_ | refine H.store_2 ?_ | refine H.store_3 ?_ | refine H.store_4 ?_ | refine H.store_5 ?_ | refine H.store_6 ?_ | refine H.store_7 ?_ | refine H.store_8 ?_ | refine H.store_9 ?_); (conv => whnf); clear H; intro w H) | refine condT fun _ => ?_ | refine condF fun _ => ?_ | refine condNT fun _ => ?_ | refine condNF fun _ => ?_ | refine H.da (hc1 _ _ (by rfl)) ?_ | refine H.datw hc1 (by rfl) ?_ | refine H.datl hc1 (by rfl) ?_ | refine H.da (hc2 _ _ (by rfl)) ?_ | refine H.datw hc2 (by rfl) ?_ | refine H.datl hc2 (by rfl) ?_ | refine H.da (hc3 _ _ (by rfl)) ?_ | refine H.datw hc3 (by rfl) ?_ | refine H.datl hc3 (by rfl) ?_ | refine H.da (hc4 _ _ (by rfl)) ?_ | refine H.datw hc4 (by rfl) ?_ | refine H.datl hc4 (by rfl) ?_ | refine H.lw ?_ | refine H.ll ?_)); (conv => whnf))
      refine ⟨(by repeat (first | exact trivial | refine ⟨rfl, ?_⟩)), (k + 1, rn, rm), (by repeat (first | exact trivial | refine ⟨rfl, ?_⟩)), ⟨by omega, ?_⟩, by omega⟩
      simp only [picks, h1, h2, if_true]
      exact H.sx
    · ((repeat ((conv => whnf); first | refine an ?_ | ((first | refine H.nw ?_ | refine H.nwD ?_); clear H; intro w _ H) | refine H.ce ?_ | refine H.db ?_ | refine ea ?_ | ((first | refine H.store_0 ?_ | refine H.store_1 ?_ | refine H.store_2 ?_ | refine H.store_3 ?_ | refine H.store_4 ?_ | refine H.store_5 ?_ | refine H.store_6 ?_ | refine H.store_7 ?_ | refine H.store_8 ?_ | refine H.store_9 ?_); (conv => whnf); clear H; intro w H) | refine condT fun _ => ?_ | refine condF fun _ => ?_ | refine condNT fun _ => ?_ | refine condNF fun _ => ?_ | refine H.da (hc1 _ _ (by rfl)) ?_ | refine H.datw hc1 (by rfl) ?_ | refine H.datl hc1 (by rfl) ?_ | refine H.da (hc2 _ _ (by rfl)) ?_ | refine H.datw hc2 (by rfl) ?_ | refine H.datl hc2 (by rfl) ?_ | refine H.da (hc3 _ _ (by rfl)) ?_ | refine H.datw hc3 (by rfl) ?_ | refine H.datl hc3 (by rfl) ?_ | refine H.da (hc4 _ _ (by rfl)) ?_ | refine H.datw hc4 (by rfl) ?_ | refine H.datl hc4 (by rfl) ?_ | refine H.lw ?_ | refine H.ll ?_)); (conv => whnf))
      refine ⟨(by repeat (first | exact trivial | refine ⟨rfl, ?_⟩)), (k + 1, rn, rb), (by repeat (first | exact trivial | refine ⟨rfl, ?_⟩)), ⟨by omega, ?_⟩, by omega⟩
      simp only [picks, h1, h2, if_true]
      exact H.sx
  · ((repeat ((conv => whnf); first | refine an ?_ | ((first | refine H.nw ?_ | refine H.nwD ?_); clear H; intro w _ H) | refine H.ce ?_ | refine H.db ?_ | refine ea ?_ | ((first | refine H.store_0 ?_ | refine H.store_1 ?_ | refine H.store_2 ?_ | refine H.store_3 ?_ | refine H.store_4 ?_ | refine H.store_5 ?_ | refine H.store_6 ?_ | refine H.store_7 ?_ | refine H.store_8 ?_ | refine H.store_9 ?_); (conv => whnf); clear H; intro w H) | refine condT fun _ => ?_ | refine condF fun _ => ?_ | refine condNT fun _ => ?_ | refine condNF fun _ => ?_ | refine H.da (hc1 _ _ (by rfl)) ?_ | refine H.datw hc1 (by rfl) ?_ | refine H.datl hc1 (by rfl) ?_ | refine H.da (hc2 _ _ (by rfl)) ?_ | refine H.datw hc2 (by rfl) ?_ | refine H.datl hc2 (by rfl) ?_ | refine H.da (hc3 _ _ (by rfl)) ?_ | refine H.datw hc3 (by rfl) ?_ | refine H.datl hc3 (by rfl) ?_ | refine H.da (hc4 _ _ (by rfl)) ?_ | refine H.datw hc4 (by rfl) ?_ | refine H.datl hc4 (by rfl) ?_ | refine H.lw ?_ | refine H.ll ?_)); (conv => whnf))
    refine (comesFrom_ref H.data (hs.up hV13) hc1 hlt (show n < l.length by omega)).use ?_
    rintro v w ⟨rfl, K⟩
    replace H := H.call K
    simp only [List.nil_append] at H
    ((repeat ((conv => whnf); first | refine an ?_ | ((first | refine H.nw ?_ | refine H.nwD ?_); clear H; intro w _ H) | refine H.ce ?_ | refine H.db ?_ | refine ea ?_ | ((first | refine H.store_0 ?_ | refine H.store_1 ?_ | refine H.store_2 ?_ | refine H.store_3 ?_ | refine H.store_4 ?_ | refine H.store_5 ?_ | refine H.store_6 ?_ | refine H.store_7 ?_ | refine H.store_8 ?_ | refine H.store_9 ?_); (conv => whnf); clear H; intro w H) | refine condT fun _ => ?_ | refine condF fun _ => ?_ | refine condNT fun _ => ?_ | refine condNF fun _ => ?_ | refine H.da (hc1 _ _ (by rfl)) ?_ | refine H.datw hc1 (by rfl) ?_ | refine H.datl hc1 (by rfl) ?_ | refine H.da (hc2 _ _ (by rfl)) ?_ | refine H.datw hc2 (by rfl) ?_ | refine H.datl hc2 (by rfl) ?_ | refine H.da (hc3 _ _ (by rfl)) ?_ | refine H.datw hc3 (by rfl) ?_ | refine H.datl hc3 (by rfl) ?_ | refine H.da (hc4 _ _ (by rfl)) ?_ | refine H.datw hc4 (by rfl) ?_ | refine H.datl hc4 (by rfl) ?_ | refine H.lw ?_ | refine H.ll ?_)); (conv => whnf))
    refine condG_split (fun h2 => ?_) (fun h2 => ?_)
    · ((repeat ((conv => whnf); first | refine an ?_ | ((first | refine H.nw ?_ | refine H.nwD ?_); clear H; intro w _ H) | refine H.ce ?_ | refine H.db ?_ | refine ea ?_ | ((first | refine H.store_0 ?_ | refine H.store_1 ?_ | refine H.store_2 ?_ | refine H.store_3 ?_ | refine H.store_4 ?_ | refine H.store_5 ?_ | refine H.store_6 ?_ | refine H.store_7 ?_ | refine H.store_8 ?_ | refine H.store_9 ?_); (conv => whnf); clear H; intro w H) | refine condT fun _ => ?_ | refine condF fun _ => ?_ | refine condNT fun _ => ?_ | refine condNF fun _ => ?_ | refine H.da (hc1 _ _ (by rfl)) ?_ | refine H.datw hc1 (by rfl) ?_ | refine H.datl hc1 (by rfl) ?_ | refine H.da (hc2 _ _ (by rfl)) ?_ | refine H.datw hc2 (by rfl) ?_ | refine H.datl hc2 (by rfl) ?_ | refine H.da (hc3 _ _ (by rfl)) ?_ | refine H.datw hc3 (by rfl) ?_ | refine H.datl hc3 (by rfl) ?_ | refine H.da (hc4 _ _ (by rfl)) ?_ | refine H.datw hc4 (by rfl) ?_ | refine H.datl hc4 (by rfl) ?_ | refine H.lw ?_ | refine H.ll ?_)); (conv => whnf))
      (refine Rel.app1_1 (f := intC) tabOk rfl rfl rfl rfl rfl (by decide) (fun _ => rfl) (by simp [Value.oneCell']) H (by simp; omega) (by omega) ?_; clear H; intro rm w H)
      ((repeat ((conv => whnf); first | refine an ?_ | ((first | refine H.nw ?_ | refine H.nwD ?_); clear H; intro w _ H) | refine H.ce ?_ | refine H.db ?_ | refine ea ?_ | ((first | refine H.store_0 ?_ | refine H.store_1 ?_ | refine H.store_2 ?_ | refine H.store_3 ?_ | refine H.store_4 ?_ | refine H.store_5 ?_ | refine H.store_6 ?_ | refine H.store_7 ?_ | refine H.store_8 ?_ | refine H.store_9 ?_); (conv => whnf); clear H; intro w H) | refine condT fun _ => ?_ | refine condF fun _ => ?_ | refine condNT fun _ => ?_ | refine condNF fun _ => ?_ | refine H.da (hc1 _ _ (by rfl)) ?_ | refine H.datw hc1 (by rfl) ?_ | refine H.datl hc1 (by rfl) ?_ | refine H.da (hc2 _ _ (by rfl)) ?_ | refine H.datw hc2 (by rfl) ?_ | refine H.datl hc2 (by rfl) ?_ | refine H.da (hc3 _ _ (by rfl)) ?_ | refine H.datw hc3 (by rfl) ?_ | refine H.datl hc3 (by rfl) ?_ | refine H.da (hc4 _ _ (by rfl)) ?_ | refine H.datw hc4 (by rfl) ?_ | refine H.datl hc4 (by rfl) ?_ | refine H.lw ?_ | refine H.ll ?_)); (conv => whnf))
      refine ⟨(by repeat (first | exact trivial | refine ⟨rfl, ?_⟩)), (k + 1, ra, rm), (by repeat (first | exact trivial | refine ⟨rfl, ?_⟩)), ⟨by omega, ?_⟩, by omega⟩
      simp only [picks, h1, h2, if_true]
      exact H.sx
    · ((repeat ((conv => whnf); first | refine an ?_ | ((first | refine H.nw ?_ | refine H.nwD ?_); clear H; intro w _ H) | refine H.ce ?_ | refine H.db ?_ | refine ea ?_ | ((first | refine H.store_0 ?_ | refine H.store_1 ?_ | refine H.store_2 ?_ | refine H.store_3 ?_ | refine H.store_4 ?_ | refine H.store_5 ?_ | refine H.store_6 ?_ | refine H.store_7 ?_ | refine H.store_8 ?_ | refine H.store_9 ?_); (conv => whnf); clear H; intro w H) | refine condT fun _ => ?_ | refine condF fun _ => ?_ | refine condNT fun _ => ?_ | refine condNF fun _ => ?_ | refine H.da (hc1 _ _ (by rfl)) ?_ | refine H.datw hc1 (by rfl) ?_ | refine H.datl hc1 (by rfl) ?_ | refine H.da (hc2 _ _ (by rfl)) ?_ | refine H.datw hc2 (by rfl) ?_ | refine H.datl hc2 (by rfl) ?_ | refine H.da (hc3 _ _ (by rfl)) ?_ | refine H.datw hc3 (by rfl) ?_ | refine H.datl hc3 (by rfl) ?_ | refine H.da (hc4 _ _ (by rfl)) ?_ | refine H.datw hc4 (by rfl) ?_ | refine H.datl hc4 (by rfl) ?_ | refine H.lw ?_ | refine H.ll ?_)); (conv => whnf))
      refine ⟨(by repeat (first | exact trivial | refine ⟨rfl, ?_⟩)), (k + 1, ra, rb), (by repeat (first | exact trivial | refine ⟨rfl, ?_⟩)), ⟨by omega, ?_⟩, by omega⟩
      simp only [picks, h1, h2, if_true]
      exact H.sx
end Go.Proofs.Ytlhgmigoncmcaaa
