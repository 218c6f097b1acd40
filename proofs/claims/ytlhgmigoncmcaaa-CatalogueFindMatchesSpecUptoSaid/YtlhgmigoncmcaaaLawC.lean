/-
  CatalogueFindMatchesSpec.
-/
import Derived.Test.YtlhgmigoncmcaaaCatM
import Derived.Test.YtlhgmigoncmcaaaVcO
namespace Go.Proofs.Ytlhgmigoncmcaaa
open Go Go.RowKit

def lastI (p : Nat → Bool) (n : Nat) : Int := match lastAt p n with | some i => (i : Int) | none => -1
theorem lastI_succ (p : Nat → Bool) (n : Nat) : lastI p (n + 1) = if p n then (n : Int) else lastI p n := by
  unfold lastI
  simp only [lastAt]
  by_cases h : p n = true <;> simp [h]
theorem lastI_lt (p : Nat → Bool) (n : Nat) : -1 ≤ lastI p n ∧ lastI p n < n := by
  induction n with
  | zero => simp [lastI, lastAt]
  | succ n ih => rw [lastI_succ]; split <;> omega
theorem histCode_zero {l : List Ent} {name : List UInt8} (h : (histCode l name).1 = 0) : histCode l name = (0, 0) ∧ catFault l = (0, 0) ∧ nameOk name = true := by
  unfold histCode at h ⊢
  split at h
  · contradiction
  · rename_i h1
    have h1 : (catFault l).1 = 0 := Decidable.not_not.1 h1
    rw [if_neg (by simp [h1])]
    split at h
    · cases h
    · rename_i h2
      rw [if_neg h2]
      exact ⟨rfl, (catFault_zero h1).1, by simpa using h2⟩
theorem findRes_eq {l : List Ent} {name : List UInt8} {ver : Int} (h : (histCode l name).1 = 0) (hv : 0 ≤ ver ∧ ver ≤ 9999) : findRes l name ver = if lastI (fits l name ver) l.length < 0 then (0, 12, -2) else (lastI (fits l name ver) l.length, 0, 0) := by
  unfold findRes lastI
  rw [if_neg (by simp [h]), if_neg (by simp [hv])]
  cases lastAt (fits l name ver) l.length with
  | none => simp
  | some i => simp
theorem histCode_fault (l : List Ent) (name : List UInt8) : ((catFault l).1 ≠ 0 → (histCode l name).1 = (catFault l).1 ∧ (histCode l name).2 = (catFault l).2) ∧ ((catFault l).1 = 0 → nameOk name = false → (histCode l name).1 = 7 ∧ (histCode l name).2 = -2) ∧ ((catFault l).1 = 0 → nameOk name = true → (histCode l name).1 = 0 ∧ (histCode l name).2 = 0) := by
  refine ⟨fun h => ?_, fun h h2 => ?_, fun h h2 => ?_⟩
  · simp [histCode, h]
  · simp [histCode, h, h2]
  · simp [histCode, h, h2]
theorem findRes_fault (l : List Ent) (name : List UInt8) (ver : Int) (h : (histCode l name).1 ≠ 0) : (findRes l name ver).1 = 0 ∧ (findRes l name ver).2.1 = (histCode l name).1 ∧ (findRes l name ver).2.2 = (histCode l name).2 := by
  simp [findRes, h]
theorem findRes_rng {l : List Ent} {name : List UInt8} {ver : Int} (h : (histCode l name).1 = 0) (hv : ¬ (0 ≤ ver ∧ ver ≤ 9999)) : (findRes l name ver).1 = 0 ∧ (findRes l name ver).2.1 = 4 ∧ (findRes l name ver).2.2 = -3 := by
  unfold findRes
  rw [if_neg (by simp [h]), if_pos hv]
  exact ⟨rfl, rfl, rfl⟩
set_option maxRecDepth 100000 in
set_option maxHeartbeats 4000000 in
theorem law_find {W : World} {s : Sl} {l : List Ent} (hs : Ents W s l) (_hn : ∀ e ∈ l, EntNum e) (hl : l.length ≤ 1099511627776) (name : List UInt8) (_hnl : name.length ≤ 1099511627776) (ver : Int) (_h64 : I64 ver) :
    Ret Try.prog 4 [catV s, str name, iv ver].toArray W fun v w' => v = .bool true ∧ Ext W w' := by
  have H := Rel.start (Sub.refl W)
  have hlen := hs.len
  refine cal_of_vc tabOk Try.func4 rfl (by kernel_rfl) 129 rfl (by simp) [0, 1, 2, 3, 6, 7, 8, 9, 10, 11, 12, 13, 14, 16, 39, 43, 65, 75, 91, 101, 104, 113] ?_
  ((repeat ((conv => whnf); first | refine an ?_ | refine H.ce ?_ | refine H.db ?_ | refine ea ?_ | ((first | refine H.store_0 ?_ | refine H.store_1 ?_ | refine H.store_2 ?_ | refine H.store_3 ?_ | refine H.store_4 ?_ | refine H.store_5 ?_ | refine H.store_6 ?_ | refine H.store_7 ?_ | refine H.store_8 ?_ | refine H.store_9 ?_); (conv => whnf); clear H; intro w H) | refine condT fun _ => ?_ | refine condF fun _ => ?_ | refine condNT fun _ => ?_ | refine condNF fun _ => ?_ | refine H.da (hc1 _ _ (by rfl)) ?_ | refine H.datw hc1 (by rfl) ?_ | refine H.datl hc1 (by rfl) ?_ | refine H.da (hc2 _ _ (by rfl)) ?_ | refine H.datw hc2 (by rfl) ?_ | refine H.datl hc2 (by rfl) ?_ | refine H.da (hc3 _ _ (by rfl)) ?_ | refine H.datw hc3 (by rfl) ?_ | refine H.datl hc3 (by rfl) ?_ | refine H.da (hc4 _ _ (by rfl)) ?_ | refine H.datw hc4 (by rfl) ?_ | refine H.datl hc4 (by rfl) ?_ | refine H.lw ?_ | refine H.ll ?_)); (conv => whnf))
  ((first | refine Rel.nw H ?_ | refine Rel.nwD H ?_); clear H; intro w b3 H)
  ((repeat ((conv => whnf); first | refine an ?_ | ((first | refine H.nw ?_ | refine H.nwD ?_); clear H; intro w _ H) | refine H.ce ?_ | refine H.db ?_ | refine ea ?_ | ((first | refine H.store_0 ?_ | refine H.store_1 ?_ | refine H.store_2 ?_ | refine H.store_3 ?_ | refine H.store_4 ?_ | refine H.store_5 ?_ | refine H.store_6 ?_ | refine H.store_7 ?_ | refine H.store_8 ?_ | refine H.store_9 ?_); (conv => whnf); clear H; intro w H) | refine condT fun _ => ?_ | refine condF fun _ => ?_ | refine condNT fun _ => ?_ | refine condNF fun _ => ?_ | refine H.da (hc1 _ _ (by rfl)) ?_ | refine H.datw hc1 (by rfl) ?_ | refine H.datl hc1 (by rfl) ?_ | refine H.da (hc2 _ _ (by rfl)) ?_ | refine H.datw hc2 (by rfl) ?_ | refine H.datl hc2 (by rfl) ?_ | refine H.da (hc3 _ _ (by rfl)) ?_ | refine H.datw hc3 (by rfl) ?_ | refine H.datl hc3 (by rfl) ?_ | refine H.da (hc4 _ _ (by rfl)) ?_ | refine H.datw hc4 (by rfl) ?_ | refine H.datl hc4 (by rfl) ?_ | refine H.lw ?_ | refine H.ll ?_)); (conv => whnf))
  refine (example_spec H.data).use ?_
  rintro v w ⟨rfl, V1, hV1, K⟩
  replace H := H.call K
  ((repeat ((conv => whnf); first | refine an ?_ | ((first | refine H.nw ?_ | refine H.nwD ?_); clear H; intro w _ H) | refine H.ce ?_ | refine H.db ?_ | refine ea ?_ | ((first | refine H.store_0 ?_ | refine H.store_1 ?_ | refine H.store_2 ?_ | refine H.store_3 ?_ | refine H.store_4 ?_ | refine H.store_5 ?_ | refine H.store_6 ?_ | refine H.store_7 ?_ | refine H.store_8 ?_ | refine H.store_9 ?_); (conv => whnf); clear H; intro w H) | refine condT fun _ => ?_ | refine condF fun _ => ?_ | refine condNT fun _ => ?_ | refine condNF fun _ => ?_ | refine H.da (hc1 _ _ (by rfl)) ?_ | refine H.datw hc1 (by rfl) ?_ | refine H.datl hc1 (by rfl) ?_ | refine H.da (hc2 _ _ (by rfl)) ?_ | refine H.datw hc2 (by rfl) ?_ | refine H.datl hc2 (by rfl) ?_ | refine H.da (hc3 _ _ (by rfl)) ?_ | refine H.datw hc3 (by rfl) ?_ | refine H.datl hc3 (by rfl) ?_ | refine H.da (hc4 _ _ (by rfl)) ?_ | refine H.datw hc4 (by rfl) ?_ | refine H.datl hc4 (by rfl) ?_ | refine H.lw ?_ | refine H.ll ?_)); (conv => whnf))
  refine (history_spec H.data (hs.up hV1) hl name).use ?_
  rintro v w ⟨V2, hV2, K, hv⟩
  replace H := H.call K
  have hV12 := hV1.trans hV2
  obtain ⟨t1, hv1, ht1⟩ : ∃ t1 : Sl, v = .tuple #[t1.v, faultV (histCode l name).1 (histCode l name).2] ∧ (((histCode l name).1 ≠ 0 ∧ t1 = ⟨none, 0, 0⟩) ∨ ((histCode l name).1 = 0 ∧ Ints V2 t1 (picks (named l name) l.length))) := by
    rcases hv with ⟨hc, rfl⟩ | ⟨hc, t1, rfl, ht1⟩
    · exact ⟨⟨none, 0, 0⟩, rfl, .inl ⟨hc, rfl⟩⟩
    · rw [(histCode_zero hc).1]
      exact ⟨t1, rfl, .inr ⟨rfl, ht1⟩⟩
  clear hv
  subst hv1
  have Fh := histCode_fault l name
  have Ff := findRes_fault l name ver
  have Fz := fun h h' => findRes_eq (l := l) (name := name) (ver := ver) h h'
  have Fr := fun h h' => findRes_rng (l := l) (name := name) (ver := ver) h h'
  generalize histCode l name = hh at *
  obtain ⟨hh1, hh2⟩ := hh
  dsimp only at *
  ((repeat ((conv => whnf); first | refine an ?_ | refine H.ce ?_ | refine H.db ?_ | refine ea ?_ | ((first | refine H.store_0 ?_ | refine H.store_1 ?_ | refine H.store_2 ?_ | refine H.store_3 ?_ | refine H.store_4 ?_ | refine H.store_5 ?_ | refine H.store_6 ?_ | refine H.store_7 ?_ | refine H.store_8 ?_ | refine H.store_9 ?_); (conv => whnf); clear H; intro w H) | refine condT fun _ => ?_ | refine condF fun _ => ?_ | refine condNT fun _ => ?_ | refine condNF fun _ => ?_ | refine H.da (hc1 _ _ (by rfl)) ?_ | refine H.datw hc1 (by rfl) ?_ | refine H.datl hc1 (by rfl) ?_ | refine H.da (hc2 _ _ (by rfl)) ?_ | refine H.datw hc2 (by rfl) ?_ | refine H.datl hc2 (by rfl) ?_ | refine H.da (hc3 _ _ (by rfl)) ?_ | refine H.datw hc3 (by rfl) ?_ | refine H.datl hc3 (by rfl) ?_ | refine H.da (hc4 _ _ (by rfl)) ?_ | refine H.datw hc4 (by rfl) ?_ | refine H.datl hc4 (by rfl) ?_ | refine H.lw ?_ | refine H.ll ?_)); (conv => whnf))
  ((first | refine Rel.nw H ?_ | refine Rel.nwD H ?_); clear H; intro w b8 H)
  ((repeat ((conv => whnf); first | refine an ?_ | ((first | refine H.nw ?_ | refine H.nwD ?_); clear H; intro w _ H) | refine H.ce ?_ | refine H.db ?_ | refine ea ?_ | ((first | refine H.store_0 ?_ | refine H.store_1 ?_ | refine H.store_2 ?_ | refine H.store_3 ?_ | refine H.store_4 ?_ | refine H.store_5 ?_ | refine H.store_6 ?_ | refine H.store_7 ?_ | refine H.store_8 ?_ | refine H.store_9 ?_); (conv => whnf); clear H; intro w H) | refine condT fun _ => ?_ | refine condF fun _ => ?_ | refine condNT fun _ => ?_ | refine condNF fun _ => ?_ | refine H.da (hc1 _ _ (by rfl)) ?_ | refine H.datw hc1 (by rfl) ?_ | refine H.datl hc1 (by rfl) ?_ | refine H.da (hc2 _ _ (by rfl)) ?_ | refine H.datw hc2 (by rfl) ?_ | refine H.datl hc2 (by rfl) ?_ | refine H.da (hc3 _ _ (by rfl)) ?_ | refine H.datw hc3 (by rfl) ?_ | refine H.datl hc3 (by rfl) ?_ | refine H.da (hc4 _ _ (by rfl)) ?_ | refine H.datw hc4 (by rfl) ?_ | refine H.datl hc4 (by rfl) ?_ | refine H.lw ?_ | refine H.ll ?_)); (conv => whnf))
  refine (find_spec H.data (hs.up hV12) hl name ver).use ?_
  rintro v w ⟨rfl, V3, hV3, K⟩
  replace H := H.call K
  have hV13 := hV12.trans hV3
  generalize findRes l name ver = ff at *
  obtain ⟨fn, fc, fi⟩ := ff
  dsimp only at *
  ((repeat ((conv => whnf); first | refine an ?_ | refine H.ce ?_ | refine H.db ?_ | refine ea ?_ | ((first | refine H.store_0 ?_ | refine H.store_1 ?_ | refine H.store_2 ?_ | refine H.store_3 ?_ | refine H.store_4 ?_ | refine H.store_5 ?_ | refine H.store_6 ?_ | refine H.store_7 ?_ | refine H.store_8 ?_ | refine H.store_9 ?_); (conv => whnf); clear H; intro w H) | refine condT fun _ => ?_ | refine condF fun _ => ?_ | refine condNT fun _ => ?_ | refine condNF fun _ => ?_ | refine H.da (hc1 _ _ (by rfl)) ?_ | refine H.datw hc1 (by rfl) ?_ | refine H.datl hc1 (by rfl) ?_ | refine H.da (hc2 _ _ (by rfl)) ?_ | refine H.datw hc2 (by rfl) ?_ | refine H.datl hc2 (by rfl) ?_ | refine H.da (hc3 _ _ (by rfl)) ?_ | refine H.datw hc3 (by rfl) ?_ | refine H.datl hc3 (by rfl) ?_ | refine H.da (hc4 _ _ (by rfl)) ?_ | refine H.datw hc4 (by rfl) ?_ | refine H.datl hc4 (by rfl) ?_ | refine H.lw ?_ | refine H.ll ?_)); (conv => whnf))
  ((first | refine Rel.nw H ?_ | refine Rel.nwD H ?_); clear H; intro w b10 H)
  ((repeat ((conv => whnf); first | refine an ?_ | ((first | refine H.nw ?_ | refine H.nwD ?_); clear H; intro w _ H) | refine H.ce ?_ | refine H.db ?_ | refine ea ?_ | ((first | refine H.store_0 ?_ | refine H.store_1 ?_ | refine H.store_2 ?_ | refine H.store_3 ?_ | refine H.store_4 ?_ | refine H.store_5 ?_ | refine H.store_6 ?_ | refine H.store_7 ?_ | refine H.store_8 ?_ | refine H.store_9 ?_); (conv => whnf); clear H; intro w H) | refine condT fun _ => ?_ | refine condF fun _ => ?_ | refine condNT fun _ => ?_ | refine condNF fun _ => ?_ | refine H.da (hc1 _ _ (by rfl)) ?_ | refine H.datw hc1 (by rfl) ?_ | refine H.datl hc1 (by rfl) ?_ | refine H.da (hc2 _ _ (by rfl)) ?_ | refine H.datw hc2 (by rfl) ?_ | refine H.datl hc2 (by rfl) ?_ | refine H.da (hc3 _ _ (by rfl)) ?_ | refine H.datw hc3 (by rfl) ?_ | refine H.datl hc3 (by rfl) ?_ | refine H.da (hc4 _ _ (by rfl)) ?_ | refine H.datw hc4 (by rfl) ?_ | refine H.datl hc4 (by rfl) ?_ | refine H.lw ?_ | refine H.ll ?_)); (conv => whnf))
  refine (catalogueFault_ref H.data (hs.up hV13) hl).use ?_
  rintro v w ⟨rfl, K⟩
  replace H := H.call K
  have hcz := fun h => catFault_zero (l := l) h
  generalize catFault l = cf at *
  obtain ⟨c1, c2⟩ := cf
  dsimp only at *
  ((repeat ((conv => whnf); first | refine an ?_ | refine H.ce ?_ | refine H.db ?_ | refine ea ?_ | ((first | refine H.store_0 ?_ | refine H.store_1 ?_ | refine H.store_2 ?_ | refine H.store_3 ?_ | refine H.store_4 ?_ | refine H.store_5 ?_ | refine H.store_6 ?_ | refine H.store_7 ?_ | refine H.store_8 ?_ | refine H.store_9 ?_); (conv => whnf); clear H; intro w H) | refine condT fun _ => ?_ | refine condF fun _ => ?_ | refine condNT fun _ => ?_ | refine condNF fun _ => ?_ | refine H.da (hc1 _ _ (by rfl)) ?_ | refine H.datw hc1 (by rfl) ?_ | refine H.datl hc1 (by rfl) ?_ | refine H.da (hc2 _ _ (by rfl)) ?_ | refine H.datw hc2 (by rfl) ?_ | refine H.datl hc2 (by rfl) ?_ | refine H.da (hc3 _ _ (by rfl)) ?_ | refine H.datw hc3 (by rfl) ?_ | refine H.datl hc3 (by rfl) ?_ | refine H.da (hc4 _ _ (by rfl)) ?_ | refine H.datw hc4 (by rfl) ?_ | refine H.datl hc4 (by rfl) ?_ | refine H.lw ?_ | refine H.ll ?_)); (conv => whnf))
  ((first | refine Rel.nw H ?_ | refine Rel.nwD H ?_); clear H; intro w b11 H)
  by_cases hc : c1 = 0
  rotate_left
  · obtain ⟨rfl, rfl⟩ := Fh.1 hc
    obtain ⟨rfl, rfl, rfl⟩ := Ff hc
    rcases ht1 with ⟨_, rfl⟩ | ⟨h0, _⟩
    rotate_left
    · exact absurd h0 hc
    ((repeat ((conv => whnf); first | refine an ?_ | ((first | refine H.nw ?_ | refine H.nwD ?_); clear H; intro w _ H) | refine H.ce ?_ | refine H.db ?_ | refine ea ?_ | ((first | refine H.store_0 ?_ | refine H.store_1 ?_ | refine H.store_2 ?_ | refine H.store_3 ?_ | refine H.store_4 ?_ | refine H.store_5 ?_ | refine H.store_6 ?_ | refine H.store_7 ?_ | refine H.store_8 ?_ | refine H.store_9 ?_); (conv => whnf); clear H; intro w H) | refine condT fun _ => ?_ | refine condF fun _ => ?_ | refine condNT fun _ => ?_ | refine condNF fun _ => ?_ | refine H.da (hc1 _ _ (by rfl)) ?_ | refine H.datw hc1 (by rfl) ?_ | refine H.datl hc1 (by rfl) ?_ | refine H.da (hc2 _ _ (by rfl)) ?_ | refine H.datw hc2 (by rfl) ?_ | refine H.datl hc2 (by rfl) ?_ | refine H.da (hc3 _ _ (by rfl)) ?_ | refine H.datw hc3 (by rfl) ?_ | refine H.datl hc3 (by rfl) ?_ | refine H.da (hc4 _ _ (by rfl)) ?_ | refine H.datw hc4 (by rfl) ?_ | refine H.datl hc4 (by rfl) ?_ | refine H.lw ?_ | refine H.ll ?_)); (conv => whnf))
    (first | exact H.base | exact ⟨by simp, H.base⟩ | exact ⟨rfl, H.base⟩)
  obtain ⟨hc0, h60, hent, hcyc⟩ := hcz hc
  cases hc0
  ((repeat ((conv => whnf); first | refine an ?_ | ((first | refine H.nw ?_ | refine H.nwD ?_); clear H; intro w _ H) | refine H.ce ?_ | refine H.db ?_ | refine ea ?_ | ((first | refine H.store_0 ?_ | refine H.store_1 ?_ | refine H.store_2 ?_ | refine H.store_3 ?_ | refine H.store_4 ?_ | refine H.store_5 ?_ | refine H.store_6 ?_ | refine H.store_7 ?_ | refine H.store_8 ?_ | refine H.store_9 ?_); (conv => whnf); clear H; intro w H) | refine condT fun _ => ?_ | refine condF fun _ => ?_ | refine condNT fun _ => ?_ | refine condNF fun _ => ?_ | refine H.da (hc1 _ _ (by rfl)) ?_ | refine H.datw hc1 (by rfl) ?_ | refine H.datl hc1 (by rfl) ?_ | refine H.da (hc2 _ _ (by rfl)) ?_ | refine H.datw hc2 (by rfl) ?_ | refine H.datl hc2 (by rfl) ?_ | refine H.da (hc3 _ _ (by rfl)) ?_ | refine H.datw hc3 (by rfl) ?_ | refine H.datl hc3 (by rfl) ?_ | refine H.da (hc4 _ _ (by rfl)) ?_ | refine H.datw hc4 (by rfl) ?_ | refine H.datl hc4 (by rfl) ?_ | refine H.lw ?_ | refine H.ll ?_)); (conv => whnf))
  refine (name_ref _ name).use ?_
  rintro v w ⟨rfl, rfl⟩
  cases hnm : nameOk name with
  | false =>
    obtain ⟨rfl, rfl⟩ := Fh.2.1 rfl hnm
    obtain ⟨rfl, rfl, rfl⟩ := Ff (by decide)
    rcases ht1 with ⟨_, rfl⟩ | ⟨h0, _⟩
    rotate_left
    · exact absurd h0 (by decide)
    ((repeat ((conv => whnf); first | refine an ?_ | ((first | refine H.nw ?_ | refine H.nwD ?_); clear H; intro w _ H) | refine H.ce ?_ | refine H.db ?_ | refine ea ?_ | ((first | refine H.store_0 ?_ | refine H.store_1 ?_ | refine H.store_2 ?_ | refine H.store_3 ?_ | refine H.store_4 ?_ | refine H.store_5 ?_ | refine H.store_6 ?_ | refine H.store_7 ?_ | refine H.store_8 ?_ | refine H.store_9 ?_); (conv => whnf); clear H; intro w H) | refine condT fun _ => ?_ | refine condF fun _ => ?_ | refine condNT fun _ => ?_ | refine condNF fun _ => ?_ | refine H.da (hc1 _ _ (by rfl)) ?_ | refine H.datw hc1 (by rfl) ?_ | refine H.datl hc1 (by rfl) ?_ | refine H.da (hc2 _ _ (by rfl)) ?_ | refine H.datw hc2 (by rfl) ?_ | refine H.datl hc2 (by rfl) ?_ | refine H.da (hc3 _ _ (by rfl)) ?_ | refine H.datw hc3 (by rfl) ?_ | refine H.datl hc3 (by rfl) ?_ | refine H.da (hc4 _ _ (by rfl)) ?_ | refine H.datw hc4 (by rfl) ?_ | refine H.datl hc4 (by rfl) ?_ | refine H.lw ?_ | refine H.ll ?_)); (conv => whnf))
    refine (at_ref H.data 7 (-2)).use ?_
    rintro v w ⟨rfl, K⟩
    replace H := H.call K
    ((repeat ((conv => whnf); first | refine an ?_ | ((first | refine H.nw ?_ | refine H.nwD ?_); clear H; intro w _ H) | refine H.ce ?_ | refine H.db ?_ | refine ea ?_ | ((first | refine H.store_0 ?_ | refine H.store_1 ?_ | refine H.store_2 ?_ | refine H.store_3 ?_ | refine H.store_4 ?_ | refine H.store_5 ?_ | refine H.store_6 ?_ | refine H.store_7 ?_ | refine H.store_8 ?_ | refine H.store_9 ?_); (conv => whnf); clear H; intro w H) | refine condT fun _ => ?_ | refine condF fun _ => ?_ | refine condNT fun _ => ?_ | refine condNF fun _ => ?_ | refine H.da (hc1 _ _ (by rfl)) ?_ | refine H.datw hc1 (by rfl) ?_ | refine H.datl hc1 (by rfl) ?_ | refine H.da (hc2 _ _ (by rfl)) ?_ | refine H.datw hc2 (by rfl) ?_ | refine H.datl hc2 (by rfl) ?_ | refine H.da (hc3 _ _ (by rfl)) ?_ | refine H.datw hc3 (by rfl) ?_ | refine H.datl hc3 (by rfl) ?_ | refine H.da (hc4 _ _ (by rfl)) ?_ | refine H.datw hc4 (by rfl) ?_ | refine H.datl hc4 (by rfl) ?_ | refine H.lw ?_ | refine H.ll ?_)); (conv => whnf))
    (first | exact H.base | exact ⟨by simp, H.base⟩ | exact ⟨rfl, H.base⟩)
  | true =>
    obtain ⟨rfl, rfl⟩ := Fh.2.2 rfl hnm
    rcases ht1 with ⟨h0, rfl⟩ | ⟨_, ht1⟩
    · exact absurd rfl h0
    replace Fz := Fz rfl
    replace Fr := Fr rfl
    ((repeat ((conv => whnf); first | refine an ?_ | ((first | refine H.nw ?_ | refine H.nwD ?_); clear H; intro w _ H) | refine H.ce ?_ | refine H.db ?_ | refine ea ?_ | ((first | refine H.store_0 ?_ | refine H.store_1 ?_ | refine H.store_2 ?_ | refine H.store_3 ?_ | refine H.store_4 ?_ | refine H.store_5 ?_ | refine H.store_6 ?_ | refine H.store_7 ?_ | refine H.store_8 ?_ | refine H.store_9 ?_); (conv => whnf); clear H; intro w H) | refine condT fun _ => ?_ | refine condF fun _ => ?_ | refine condNT fun _ => ?_ | refine condNF fun _ => ?_ | refine H.da (hc1 _ _ (by rfl)) ?_ | refine H.datw hc1 (by rfl) ?_ | refine H.datl hc1 (by rfl) ?_ | refine H.da (hc2 _ _ (by rfl)) ?_ | refine H.datw hc2 (by rfl) ?_ | refine H.datl hc2 (by rfl) ?_ | refine H.da (hc3 _ _ (by rfl)) ?_ | refine H.datw hc3 (by rfl) ?_ | refine H.datl hc3 (by rfl) ?_ | refine H.da (hc4 _ _ (by rfl)) ?_ | refine H.datw hc4 (by rfl) ?_ | refine H.datl hc4 (by rfl) ?_ | refine H.lw ?_ | refine H.ll ?_)); (conv => whnf))
    replace H := H.rowNil 3 1
    refine loop_inv (S := Nat × Sl) tabOk [0, 1, 2, 3, 6, 7, 8, 9, 10, 11, 16, 39, 43, 101, 104, 113] (fun k => [(12, k.2.v), (13, iv (lastI (fits l name ver) k.1)), (14, iv k.1)]) (fun k w' => k.1 ≤ l.length ∧ Rel W W (.row k.2 3 1 ((picks (named l name) k.1).flatMap intC) :: .blk b11 [iv 0, iv 0] 27 :: .blk b10 [iv fc, iv fi] 27 :: .blk b8 [iv 0, iv 0] 27 :: .blk b3 [s.v] 24 :: []) V3 w') (fun k _ => l.length - k.1) (0, ⟨none, 0, 0⟩) ?_
    (conv => whnf)
    refine ⟨(by repeat (first | exact trivial | refine ⟨rfl, ?_⟩)), ⟨by omega, H.sx⟩, ?_⟩
    clear H
    rintro ⟨k, r⟩ w ⟨hk, H⟩
    dsimp only at hk H
    have hpl := picks_len (named l name) k
    have hla := lastI_lt (fits l name ver) k
    by_cases hlt : k < l.length
    rotate_left
    · obtain rfl : k = l.length := by omega
      ((repeat ((conv => whnf); first | refine an ?_ | ((first | refine H.nw ?_ | refine H.nwD ?_); clear H; intro w _ H) | refine H.ce ?_ | refine H.db ?_ | refine ea ?_ | ((first | refine H.store_0 ?_ | refine H.store_1 ?_ | refine H.store_2 ?_ | refine H.store_3 ?_ | refine H.store_4 ?_ | refine H.store_5 ?_ | refine H.store_6 ?_ | refine H.store_7 ?_ | refine H.store_8 ?_ | refine H.store_9 ?_); (conv => whnf); clear H; intro w H) | refine condT fun _ => ?_ | refine condF fun _ => ?_ | refine condNT fun _ => ?_ | refine condNF fun _ => ?_ | refine H.da (hc1 _ _ (by rfl)) ?_ | refine H.datw hc1 (by rfl) ?_ | refine H.datl hc1 (by rfl) ?_ | refine H.da (hc2 _ _ (by rfl)) ?_ | refine H.datw hc2 (by rfl) ?_ | refine H.datl hc2 (by rfl) ?_ | refine H.da (hc3 _ _ (by rfl)) ?_ | refine H.datw hc3 (by rfl) ?_ | refine H.datl hc3 (by rfl) ?_ | refine H.da (hc4 _ _ (by rfl)) ?_ | refine H.datw hc4 (by rfl) ?_ | refine H.datl hc4 (by rfl) ?_ | refine H.lw ?_ | refine H.ll ?_)); (conv => whnf))
      obtain ⟨V4, hV4, H, hr⟩ := Rel.freezeF H (fun _ => rfl) (by decide)
      refine (ints_ref H.data (ht1.up (hV3.trans hV4)) hr (by omega)).use ?_
      rintro v w ⟨hv, K⟩
      rw [decide_eq_true rfl] at hv
      subst hv
      replace H := H.call K
      ((repeat ((conv => whnf); first | refine an ?_ | ((first | refine H.nw ?_ | refine H.nwD ?_); clear H; intro w _ H) | refine H.ce ?_ | refine H.db ?_ | refine ea ?_ | ((first | refine H.store_0 ?_ | refine H.store_1 ?_ | refine H.store_2 ?_ | refine H.store_3 ?_ | refine H.store_4 ?_ | refine H.store_5 ?_ | refine H.store_6 ?_ | refine H.store_7 ?_ | refine H.store_8 ?_ | refine H.store_9 ?_); (conv => whnf); clear H; intro w H) | refine condT fun _ => ?_ | refine condF fun _ => ?_ | refine condNT fun _ => ?_ | refine condNF fun _ => ?_ | refine H.da (hc1 _ _ (by rfl)) ?_ | refine H.datw hc1 (by rfl) ?_ | refine H.datl hc1 (by rfl) ?_ | refine H.da (hc2 _ _ (by rfl)) ?_ | refine H.datw hc2 (by rfl) ?_ | refine H.datl hc2 (by rfl) ?_ | refine H.da (hc3 _ _ (by rfl)) ?_ | refine H.datw hc3 (by rfl) ?_ | refine H.datl hc3 (by rfl) ?_ | refine H.da (hc4 _ _ (by rfl)) ?_ | refine H.datw hc4 (by rfl) ?_ | refine H.datl hc4 (by rfl) ?_ | refine H.lw ?_ | refine H.ll ?_)); (conv => whnf))
      refine (in_ref _ _ _ _).use ?_
      rintro v w ⟨rfl, rfl⟩
      by_cases hv : 0 ≤ ver ∧ ver ≤ 9999
      rotate_left
      · obtain ⟨rfl, rfl, rfl⟩ := Fr hv
        ((repeat ((conv => whnf); first | refine an ?_ | ((first | refine H.nw ?_ | refine H.nwD ?_); clear H; intro w _ H) | refine H.ce ?_ | refine H.db ?_ | refine ea ?_ | ((first | refine H.store_0 ?_ | refine H.store_1 ?_ | refine H.store_2 ?_ | refine H.store_3 ?_ | refine H.store_4 ?_ | refine H.store_5 ?_ | refine H.store_6 ?_ | refine H.store_7 ?_ | refine H.store_8 ?_ | refine H.store_9 ?_); (conv => whnf); clear H; intro w H) | refine condT fun _ => ?_ | refine condF fun _ => ?_ | refine condNT fun _ => ?_ | refine condNF fun _ => ?_ | refine H.da (hc1 _ _ (by rfl)) ?_ | refine H.datw hc1 (by rfl) ?_ | refine H.datl hc1 (by rfl) ?_ | refine H.da (hc2 _ _ (by rfl)) ?_ | refine H.datw hc2 (by rfl) ?_ | refine H.datl hc2 (by rfl) ?_ | refine H.da (hc3 _ _ (by rfl)) ?_ | refine H.datw hc3 (by rfl) ?_ | refine H.datl hc3 (by rfl) ?_ | refine H.da (hc4 _ _ (by rfl)) ?_ | refine H.datw hc4 (by rfl) ?_ | refine H.datl hc4 (by rfl) ?_ | refine H.lw ?_ | refine H.ll ?_)); (conv => whnf))
        ((first | refine draw_vc (id := 22) tabOk mixed [1] [0, 1, 2, 3, 4, 5, 6, 7] (by kernel_rfl) ?_ | refine draw_vc (id := 24) tabOk mixed [1] [0, 1, 2, 3, 4, 5, 6, 7] (by kernel_rfl) ?_); intro w hdw; replace H := Rel.ext H hdw.ext)
        ((repeat ((conv => whnf); first | refine an ?_ | ((first | refine H.nw ?_ | refine H.nwD ?_); clear H; intro w _ H) | refine H.ce ?_ | refine H.db ?_ | refine ea ?_ | ((first | refine H.store_0 ?_ | refine H.store_1 ?_ | refine H.store_2 ?_ | refine H.store_3 ?_ | refine H.store_4 ?_ | refine H.store_5 ?_ | refine H.store_6 ?_ | refine H.store_7 ?_ | refine H.store_8 ?_ | refine H.store_9 ?_); (conv => whnf); clear H; intro w H) | refine condT fun _ => ?_ | refine condF fun _ => ?_ | refine condNT fun _ => ?_ | refine condNF fun _ => ?_ | refine H.da (hc1 _ _ (by rfl)) ?_ | refine H.datw hc1 (by rfl) ?_ | refine H.datl hc1 (by rfl) ?_ | refine H.da (hc2 _ _ (by rfl)) ?_ | refine H.datw hc2 (by rfl) ?_ | refine H.datl hc2 (by rfl) ?_ | refine H.da (hc3 _ _ (by rfl)) ?_ | refine H.datw hc3 (by rfl) ?_ | refine H.datl hc3 (by rfl) ?_ | refine H.da (hc4 _ _ (by rfl)) ?_ | refine H.datw hc4 (by rfl) ?_ | refine H.datl hc4 (by rfl) ?_ | refine H.lw ?_ | refine H.ll ?_)); (conv => whnf))
        refine (at_ref H.data 4 (-3)).use ?_
        rintro v w ⟨rfl, K⟩
        have hKb := K.base
        replace H := H.call K
        ((repeat ((conv => whnf); first | refine an ?_ | ((first | refine H.nw ?_ | refine H.nwD ?_); clear H; intro w _ H) | refine H.ce ?_ | refine H.db ?_ | refine ea ?_ | ((first | refine H.store_0 ?_ | refine H.store_1 ?_ | refine H.store_2 ?_ | refine H.store_3 ?_ | refine H.store_4 ?_ | refine H.store_5 ?_ | refine H.store_6 ?_ | refine H.store_7 ?_ | refine H.store_8 ?_ | refine H.store_9 ?_); (conv => whnf); clear H; intro w H) | refine condT fun _ => ?_ | refine condF fun _ => ?_ | refine condNT fun _ => ?_ | refine condNF fun _ => ?_ | refine H.da (hc1 _ _ (by rfl)) ?_ | refine H.datw hc1 (by rfl) ?_ | refine H.datl hc1 (by rfl) ?_ | refine H.da (hc2 _ _ (by rfl)) ?_ | refine H.datw hc2 (by rfl) ?_ | refine H.datl hc2 (by rfl) ?_ | refine H.da (hc3 _ _ (by rfl)) ?_ | refine H.datw hc3 (by rfl) ?_ | refine H.datl hc3 (by rfl) ?_ | refine H.da (hc4 _ _ (by rfl)) ?_ | refine H.datw hc4 (by rfl) ?_ | refine H.datl hc4 (by rfl) ?_ | refine H.lw ?_ | refine H.ll ?_)); (conv => whnf))
        (first | exact H.base | exact ⟨by simp, H.base⟩ | exact ⟨rfl, H.base⟩)
      replace Fz := Fz hv
      by_cases h0 : lastI (fits l name ver) l.length < 0
      · have h0' : lastI (fits l name ver) (l.length, r).fst < 0 := h0
        rw [if_pos h0] at Fz
        cases Fz
        ((repeat ((conv => whnf); first | refine an ?_ | ((first | refine H.nw ?_ | refine H.nwD ?_); clear H; intro w _ H) | refine H.ce ?_ | refine H.db ?_ | refine ea ?_ | ((first | refine H.store_0 ?_ | refine H.store_1 ?_ | refine H.store_2 ?_ | refine H.store_3 ?_ | refine H.store_4 ?_ | refine H.store_5 ?_ | refine H.store_6 ?_ | refine H.store_7 ?_ | refine H.store_8 ?_ | refine H.store_9 ?_); (conv => whnf); clear H; intro w H) | refine condT fun _ => ?_ | refine condF fun _ => ?_ | refine condNT fun _ => ?_ | refine condNF fun _ => ?_ | refine H.da (hc1 _ _ (by rfl)) ?_ | refine H.datw hc1 (by rfl) ?_ | refine H.datl hc1 (by rfl) ?_ | refine H.da (hc2 _ _ (by rfl)) ?_ | refine H.datw hc2 (by rfl) ?_ | refine H.datl hc2 (by rfl) ?_ | refine H.da (hc3 _ _ (by rfl)) ?_ | refine H.datw hc3 (by rfl) ?_ | refine H.datl hc3 (by rfl) ?_ | refine H.da (hc4 _ _ (by rfl)) ?_ | refine H.datw hc4 (by rfl) ?_ | refine H.datl hc4 (by rfl) ?_ | refine H.lw ?_ | refine H.ll ?_)); (conv => whnf))
        ((first | refine draw_vc (id := 22) tabOk mixed [1] [0, 1, 2, 3, 4, 5, 6, 7] (by kernel_rfl) ?_ | refine draw_vc (id := 24) tabOk mixed [1] [0, 1, 2, 3, 4, 5, 6, 7] (by kernel_rfl) ?_); intro w hdw; replace H := Rel.ext H hdw.ext)
        ((repeat ((conv => whnf); first | refine an ?_ | ((first | refine H.nw ?_ | refine H.nwD ?_); clear H; intro w _ H) | refine H.ce ?_ | refine H.db ?_ | refine ea ?_ | ((first | refine H.store_0 ?_ | refine H.store_1 ?_ | refine H.store_2 ?_ | refine H.store_3 ?_ | refine H.store_4 ?_ | refine H.store_5 ?_ | refine H.store_6 ?_ | refine H.store_7 ?_ | refine H.store_8 ?_ | refine H.store_9 ?_); (conv => whnf); clear H; intro w H) | refine condT fun _ => ?_ | refine condF fun _ => ?_ | refine condNT fun _ => ?_ | refine condNF fun _ => ?_ | refine H.da (hc1 _ _ (by rfl)) ?_ | refine H.datw hc1 (by rfl) ?_ | refine H.datl hc1 (by rfl) ?_ | refine H.da (hc2 _ _ (by rfl)) ?_ | refine H.datw hc2 (by rfl) ?_ | refine H.datl hc2 (by rfl) ?_ | refine H.da (hc3 _ _ (by rfl)) ?_ | refine H.datw hc3 (by rfl) ?_ | refine H.datl hc3 (by rfl) ?_ | refine H.da (hc4 _ _ (by rfl)) ?_ | refine H.datw hc4 (by rfl) ?_ | refine H.datl hc4 (by rfl) ?_ | refine H.lw ?_ | refine H.ll ?_)); (conv => whnf))
        refine (at_ref H.data 12 (-2)).use ?_
        rintro v w ⟨rfl, K⟩
        have hKb := K.base
        replace H := H.call K
        ((repeat ((conv => whnf); first | refine an ?_ | ((first | refine H.nw ?_ | refine H.nwD ?_); clear H; intro w _ H) | refine H.ce ?_ | refine H.db ?_ | refine ea ?_ | ((first | refine H.store_0 ?_ | refine H.store_1 ?_ | refine H.store_2 ?_ | refine H.store_3 ?_ | refine H.store_4 ?_ | refine H.store_5 ?_ | refine H.store_6 ?_ | refine H.store_7 ?_ | refine H.store_8 ?_ | refine H.store_9 ?_); (conv => whnf); clear H; intro w H) | refine condT fun _ => ?_ | refine condF fun _ => ?_ | refine condNT fun _ => ?_ | refine condNF fun _ => ?_ | refine H.da (hc1 _ _ (by rfl)) ?_ | refine H.datw hc1 (by rfl) ?_ | refine H.datl hc1 (by rfl) ?_ | refine H.da (hc2 _ _ (by rfl)) ?_ | refine H.datw hc2 (by rfl) ?_ | refine H.datl hc2 (by rfl) ?_ | refine H.da (hc3 _ _ (by rfl)) ?_ | refine H.datw hc3 (by rfl) ?_ | refine H.datl hc3 (by rfl) ?_ | refine H.da (hc4 _ _ (by rfl)) ?_ | refine H.datw hc4 (by rfl) ?_ | refine H.datl hc4 (by rfl) ?_ | refine H.lw ?_ | refine H.ll ?_)); (conv => whnf))
        (first | exact H.base | exact ⟨by simp, H.base⟩ | exact ⟨rfl, H.base⟩)
      · have h0' : ¬ lastI (fits l name ver) (l.length, r).fst < 0 := h0
        rw [if_neg h0] at Fz
        cases Fz
        ((repeat ((conv => whnf); first | refine an ?_ | ((first | refine H.nw ?_ | refine H.nwD ?_); clear H; intro w _ H) | refine H.ce ?_ | refine H.db ?_ | refine ea ?_ | ((first | refine H.store_0 ?_ | refine H.store_1 ?_ | refine H.store_2 ?_ | refine H.store_3 ?_ | refine H.store_4 ?_ | refine H.store_5 ?_ | refine H.store_6 ?_ | refine H.store_7 ?_ | refine H.store_8 ?_ | refine H.store_9 ?_); (conv => whnf); clear H; intro w H) | refine condT fun _ => ?_ | refine condF fun _ => ?_ | refine condNT fun _ => ?_ | refine condNF fun _ => ?_ | refine H.da (hc1 _ _ (by rfl)) ?_ | refine H.datw hc1 (by rfl) ?_ | refine H.datl hc1 (by rfl) ?_ | refine H.da (hc2 _ _ (by rfl)) ?_ | refine H.datw hc2 (by rfl) ?_ | refine H.datl hc2 (by rfl) ?_ | refine H.da (hc3 _ _ (by rfl)) ?_ | refine H.datw hc3 (by rfl) ?_ | refine H.datl hc3 (by rfl) ?_ | refine H.da (hc4 _ _ (by rfl)) ?_ | refine H.datw hc4 (by rfl) ?_ | refine H.datl hc4 (by rfl) ?_ | refine H.lw ?_ | refine H.ll ?_)); (conv => whnf))
        (first | exact H.base | exact ⟨by simp, H.base⟩ | exact ⟨rfl, H.base⟩)
    obtain ⟨hp, eh, hok, hc1⟩ := (hs.up hV13).get hlt
    have e0 : named l name k = decide (l[k].name = name) := by simp [named, hlt]
    have e1 : fits l name ver k = (decide (l[k].name = name) && decide (ver = 0 ∨ l[k].ver = ver)) := by simp [fits, named, hlt]
    have e2 := lastI_succ (fits l name ver) k
    ((repeat ((conv => whnf); first | refine an ?_ | ((first | refine H.nw ?_ | refine H.nwD ?_); clear H; intro w _ H) | refine H.ce ?_ | refine H.db ?_ | refine ea ?_ | ((first | refine H.store_0 ?_ | refine H.store_1 ?_ | refine H.store_2 ?_ | refine H.store_3 ?_ | refine H.store_4 ?_ | refine H.store_5 ?_ | refine H.store_6 ?_ | refine H.store_7 ?_ | refine H.store_8 ?_ | refine H.store_9 ?_); (conv => whnf); clear H; intro w H) | refine condT fun _ => ?_ | refine condF fun _ => ?_ | refine condNT fun _ => ?_ | refine condNF fun _ => ?_ | refine H.da (hc1 _ _ (by rfl)) ?_ | refine H.datw hc1 (by rfl) ?_ | refine H.datl hc1 (by rfl) ?_ | refine H.da (hc2 _ _ (by rfl)) ?_ | refine H.datw hc2 (by rfl) ?_ | refine H.datl hc2 (by rfl) ?_ | refine H.da (hc3 _ _ (by rfl)) ?_ | refine H.datw hc3 (by rfl) ?_ | refine H.datl hc3 (by rfl) ?_ | refine H.da (hc4 _ _ (by rfl)) ?_ | refine H.datw hc4 (by rfl) ?_ | refine H.datl hc4 (by rfl) ?_ | refine H.lw ?_ | refine H.ll ?_)); (conv => whnf))
    refine condG_dec (fun h2 => ?_) (fun h2 => ?_)
    · have e3 : picks (named l name) (k + 1) = picks (named l name) k ++ [(k : Int)] := by simp [picks, e0, h2]
      ((repeat ((conv => whnf); first | refine an ?_ | ((first | refine H.nw ?_ | refine H.nwD ?_); clear H; intro w _ H) | refine H.ce ?_ | refine H.db ?_ | refine ea ?_ | ((first | refine H.store_0 ?_ | refine H.store_1 ?_ | refine H.store_2 ?_ | refine H.store_3 ?_ | refine H.store_4 ?_ | refine H.store_5 ?_ | refine H.store_6 ?_ | refine H.store_7 ?_ | refine H.store_8 ?_ | refine H.store_9 ?_); (conv => whnf); clear H; intro w H) | refine condT fun _ => ?_ | refine condF fun _ => ?_ | refine condNT fun _ => ?_ | refine condNF fun _ => ?_ | refine H.da (hc1 _ _ (by rfl)) ?_ | refine H.datw hc1 (by rfl) ?_ | refine H.datl hc1 (by rfl) ?_ | refine H.da (hc2 _ _ (by rfl)) ?_ | refine H.datw hc2 (by rfl) ?_ | refine H.datl hc2 (by rfl) ?_ | refine H.da (hc3 _ _ (by rfl)) ?_ | refine H.datw hc3 (by rfl) ?_ | refine H.datl hc3 (by rfl) ?_ | refine H.da (hc4 _ _ (by rfl)) ?_ | refine H.datw hc4 (by rfl) ?_ | refine H.datl hc4 (by rfl) ?_ | refine H.lw ?_ | refine H.ll ?_)); (conv => whnf))
      (refine Rel.app1_0 (f := intC) tabOk rfl rfl rfl rfl rfl (by decide) (fun _ => rfl) (by simp [Value.oneCell']) H (by simp; omega) (by omega) ?_; clear H; intro rn w H)
      by_cases h3 : ver = 0 ∨ l[k].ver = ver
      · have e4 : lastI (fits l name ver) (k + 1) = k := by rw [e2, e1]; simp [h2, h3]
        by_cases h4 : ver = 0
        · ((repeat ((conv => whnf); first | refine an ?_ | ((first | refine H.nw ?_ | refine H.nwD ?_); clear H; intro w _ H) | refine H.ce ?_ | refine H.db ?_ | refine ea ?_ | ((first | refine H.store_0 ?_ | refine H.store_1 ?_ | refine H.store_2 ?_ | refine H.store_3 ?_ | refine H.store_4 ?_ | refine H.store_5 ?_ | refine H.store_6 ?_ | refine H.store_7 ?_ | refine H.store_8 ?_ | refine H.store_9 ?_); (conv => whnf); clear H; intro w H) | refine condT fun _ => ?_ | refine condF fun _ => ?_ | refine condNT fun _ => ?_ | refine condNF fun _ => ?_ | refine H.da (hc1 _ _ (by rfl)) ?_ | refine H.datw hc1 (by rfl) ?_ | refine H.datl hc1 (by rfl) ?_ | refine H.da (hc2 _ _ (by rfl)) ?_ | refine H.datw hc2 (by rfl) ?_ | refine H.datl hc2 (by rfl) ?_ | refine H.da (hc3 _ _ (by rfl)) ?_ | refine H.datw hc3 (by rfl) ?_ | refine H.datl hc3 (by rfl) ?_ | refine H.da (hc4 _ _ (by rfl)) ?_ | refine H.datw hc4 (by rfl) ?_ | refine H.datl hc4 (by rfl) ?_ | refine H.lw ?_ | refine H.ll ?_)); (conv => whnf))
          refine ⟨(by repeat (first | exact trivial | refine ⟨rfl, ?_⟩)), (k + 1, rn), ⟨rfl, congrArg (fun z => some (iv z)) e4.symm, rfl, trivial⟩, ⟨by omega, ?_⟩, by omega⟩
          dsimp only
          rw [e3]
          exact H.sx
        · ((repeat ((conv => whnf); first | refine an ?_ | ((first | refine H.nw ?_ | refine H.nwD ?_); clear H; intro w _ H) | refine H.ce ?_ | refine H.db ?_ | refine ea ?_ | ((first | refine H.store_0 ?_ | refine H.store_1 ?_ | refine H.store_2 ?_ | refine H.store_3 ?_ | refine H.store_4 ?_ | refine H.store_5 ?_ | refine H.store_6 ?_ | refine H.store_7 ?_ | refine H.store_8 ?_ | refine H.store_9 ?_); (conv => whnf); clear H; intro w H) | refine condT fun _ => ?_ | refine condF fun _ => ?_ | refine condNT fun _ => ?_ | refine condNF fun _ => ?_ | refine H.da (hc1 _ _ (by rfl)) ?_ | refine H.datw hc1 (by rfl) ?_ | refine H.datl hc1 (by rfl) ?_ | refine H.da (hc2 _ _ (by rfl)) ?_ | refine H.datw hc2 (by rfl) ?_ | refine H.datl hc2 (by rfl) ?_ | refine H.da (hc3 _ _ (by rfl)) ?_ | refine H.datw hc3 (by rfl) ?_ | refine H.datl hc3 (by rfl) ?_ | refine H.da (hc4 _ _ (by rfl)) ?_ | refine H.datw hc4 (by rfl) ?_ | refine H.datl hc4 (by rfl) ?_ | refine H.lw ?_ | refine H.ll ?_)); (conv => whnf))
          refine ⟨(by repeat (first | exact trivial | refine ⟨rfl, ?_⟩)), (k + 1, rn), ⟨rfl, congrArg (fun z => some (iv z)) e4.symm, rfl, trivial⟩, ⟨by omega, ?_⟩, by omega⟩
          dsimp only
          rw [e3]
          exact H.sx
      · have e4 : lastI (fits l name ver) (k + 1) = lastI (fits l name ver) k := by rw [e2, e1]; simp [h2, h3]
        ((repeat ((conv => whnf); first | refine an ?_ | ((first | refine H.nw ?_ | refine H.nwD ?_); clear H; intro w _ H) | refine H.ce ?_ | refine H.db ?_ | refine ea ?_ | ((first | refine H.store_0 ?_ | refine H.store_1 ?_ | refine H.store_2 ?_ | refine H.store_3 ?_ | refine H.store_4 ?_ | refine H.store_5 ?_ | refine H.store_6 ?_ | refine H.store_7 ?_ | refine H.store_8 ?_ | refine H.store_9 ?_); (conv => whnf); clear H; intro w H) | refine condT fun _ => ?_ | refine condF fun _ => ?_ | refine condNT fun _ => ?_ | refine condNF fun _ => ?_ | refine H.da (hc1 _ _ (by rfl)) ?_ | refine H.datw hc1 (by rfl) ?_ | refine H.datl hc1 (by rfl) ?_ | refine H.da (hc2 _ _ (by rfl)) ?_ | refine H.datw hc2 (by rfl) ?_ | refine H.datl hc2 (by rfl) ?_ | refine H.da (hc3 _ _ (by rfl)) ?_ | refine H.datw hc3 (by rfl) ?_ | refine H.datl hc3 (by rfl) ?_ | refine H.da (hc4 _ _ (by rfl)) ?_ | refine H.datw hc4 (by rfl) ?_ | refine H.datl hc4 (by rfl) ?_ | refine H.lw ?_ | refine H.ll ?_)); (conv => whnf))
        refine ⟨(by repeat (first | exact trivial | refine ⟨rfl, ?_⟩)), (k + 1, rn), ⟨rfl, congrArg (fun z => some (iv z)) e4.symm, rfl, trivial⟩, ⟨by omega, ?_⟩, by omega⟩
        dsimp only
        rw [e3]
        exact H.sx
    · have e3 : picks (named l name) (k + 1) = picks (named l name) k := by simp [picks, e0, h2]
      have e4 : lastI (fits l name ver) (k + 1) = lastI (fits l name ver) k := by rw [e2, e1]; simp [h2]
      ((repeat ((conv => whnf); first | refine an ?_ | ((first | refine H.nw ?_ | refine H.nwD ?_); clear H; intro w _ H) | refine H.ce ?_ | refine H.db ?_ | refine ea ?_ | ((first | refine H.store_0 ?_ | refine H.store_1 ?_ | refine H.store_2 ?_ | refine H.store_3 ?_ | refine H.store_4 ?_ | refine H.store_5 ?_ | refine H.store_6 ?_ | refine H.store_7 ?_ | refine H.store_8 ?_ | refine H.store_9 ?_); (conv => whnf); clear H; intro w H) | refine condT fun _ => ?_ | refine condF fun _ => ?_ | refine condNT fun _ => ?_ | refine condNF fun _ => ?_ | refine H.da (hc1 _ _ (by rfl)) ?_ | refine H.datw hc1 (by rfl) ?_ | refine H.datl hc1 (by rfl) ?_ | refine H.da (hc2 _ _ (by rfl)) ?_ | refine H.datw hc2 (by rfl) ?_ | refine H.datl hc2 (by rfl) ?_ | refine H.da (hc3 _ _ (by rfl)) ?_ | refine H.datw hc3 (by rfl) ?_ | refine H.datl hc3 (by rfl) ?_ | refine H.da (hc4 _ _ (by rfl)) ?_ | refine H.datw hc4 (by rfl) ?_ | refine H.datl hc4 (by rfl) ?_ | refine H.lw ?_ | refine H.ll ?_)); (conv => whnf))
      refine ⟨(by repeat (first | exact trivial | refine ⟨rfl, ?_⟩)), (k + 1, r), ⟨rfl, congrArg (fun z => some (iv z)) e4.symm, rfl, trivial⟩, ⟨by omega, ?_⟩, by omega⟩
      dsimp only
      rw [e3]
      exact H.sx
end Go.Proofs.Ytlhgmigoncmcaaa
