/-
  CatalogueOutsideMatchesSpec.
-/
import Derived.Test.YtlhgmigoncmcaaaCatM
import Derived.Test.YtlhgmigoncmcaaaVcO
namespace Go.Proofs.Ytlhgmigoncmcaaa
open Go Go.RowKit

theorem outAcc_pre (l : List Ent) (rs acc : List RefD) : ∃ x, outAcc l acc rs = acc ++ x := by
  induction rs generalizing acc with
  | nil => exact ⟨[], by simp [outAcc]⟩
  | cons r rs ih =>
    obtain ⟨x, hx⟩ := ih (outAdd l acc r)
    have e : outAcc l acc (r :: rs) = outAcc l (outAdd l acc r) rs := rfl
    rw [e, hx]
    unfold outAdd
    split
    · exact ⟨[r] ++ x, by simp⟩
    · exact ⟨x, rfl⟩
theorem outL_pre (l : List Ent) {k n : Nat} (hk : k ≤ n) (hn : n ≤ l.length) : ∃ x, outL l n = outL l k ++ x := by
  induction n with
  | zero => exact ⟨[], by rw [show k = 0 by omega]; simp⟩
  | succ n ih =>
    by_cases e : k = n + 1
    · exact ⟨[], by rw [e]; simp⟩
    · obtain ⟨x, hx⟩ := ih (by omega) (by omega)
      obtain ⟨y, hy⟩ := outAcc_pre l l[n].sources (outL l n)
      exact ⟨x ++ y, by rw [outL_succ (by omega), hy, hx]; simp⟩
/-- what is listed behind m sources of entry k is the front of what is listed in the end -/
theorem out_pre {l : List Ent} {k : Nat} (hk : k < l.length) (m : Nat) : ∃ x, outL l l.length = outAcc l (outL l k) (l[k].sources.take m) ++ x := by
  obtain ⟨x, hx⟩ := outL_pre l (show k + 1 ≤ l.length by omega) (Nat.le_refl _)
  rw [outL_succ hk] at hx
  have e : outAcc l (outL l k) l[k].sources = outAcc l (outAcc l (outL l k) (l[k].sources.take m)) (l[k].sources.drop m) := by
    unfold outAcc
    rw [← List.foldl_append, List.take_append_drop]
  obtain ⟨y, hy⟩ := outAcc_pre l (l[k].sources.drop m) (outAcc l (outL l k) (l[k].sources.take m))
  exact ⟨y ++ x, by rw [hx, e, hy]; simp⟩
theorem ref_eta (r q : RefD) : (r.name = q.name ∧ r.ver = q.ver) ↔ r = q := by
  cases r; cases q; simp
set_option maxRecDepth 100000 in
set_option maxHeartbeats 4000000 in
theorem law_outside {W : World} {s : Sl} {l : List Ent} (hs : Ents W s l) (_hn : ∀ e ∈ l, EntNum e) (hl : l.length ≤ 1099511627776) :
    Ret Try.prog 6 [catV s].toArray W fun v w' => v = .bool true ∧ Ext W w' := by
  have H := Rel.start (Sub.refl W)
  have hlen := hs.len
  refine cal_of_vc tabOk Try.func6 rfl (by kernel_rfl) 107 rfl (by simp) [0, 1, 2, 3, 4, 5, 6, 7, 8, 9, 10, 11, 13, 23, 36, 47, 71, 83, 95] ?_
  ((repeat ((conv => whnf); first | refine an ?_ | refine H.ce ?_ | refine H.db ?_ | refine ea ?_ | ((first | refine H.store_0 ?_ | refine H.store_1 ?_ | refine H.store_2 ?_ | refine H.store_3 ?_ | refine H.store_4 ?_ | refine H.store_5 ?_ | refine H.store_6 ?_ | refine H.store_7 ?_ | refine H.store_8 ?_ | refine H.store_9 ?_); (conv => whnf); clear H; intro w H) | refine condT fun _ => ?_ | refine condF fun _ => ?_ | refine condNT fun _ => ?_ | refine condNF fun _ => ?_ | refine H.da (hc1 _ _ (by rfl)) ?_ | refine H.datw hc1 (by rfl) ?_ | refine H.datl hc1 (by rfl) ?_ | refine H.da (hc2 _ _ (by rfl)) ?_ | refine H.datw hc2 (by rfl) ?_ | refine H.datl hc2 (by rfl) ?_ | refine H.da (hc3 _ _ (by rfl)) ?_ | refine H.datw hc3 (by rfl) ?_ | refine H.datl hc3 (by rfl) ?_ | refine H.da (hc4 _ _ (by rfl)) ?_ | refine H.datw hc4 (by rfl) ?_ | refine H.datl hc4 (by rfl) ?_ | refine H.lw ?_ | refine H.ll ?_)); (conv => whnf))
  ((first | refine Rel.nwD H ?_ | refine Rel.nw H ?_); clear H; intro w b1 H)
  ((repeat ((conv => whnf); first | refine an ?_ | ((first | refine H.nw ?_ | refine H.nwD ?_); clear H; intro w _ H) | refine H.ce ?_ | refine H.db ?_ | refine ea ?_ | ((first | refine H.store_0 ?_ | refine H.store_1 ?_ | refine H.store_2 ?_ | refine H.store_3 ?_ | refine H.store_4 ?_ | refine H.store_5 ?_ | refine H.store_6 ?_ | refine H.store_7 ?_ | refine H.store_8 ?_ | refine H.store_9 ?_); (conv => whnf); clear H; intro w H) | refine condT fun _ => ?_ | refine condF fun _ => ?_ | refine condNT fun _ => ?_ | refine condNF fun _ => ?_ | refine H.da (hc1 _ _ (by rfl)) ?_ | refine H.datw hc1 (by rfl) ?_ | refine H.datl hc1 (by rfl) ?_ | refine H.da (hc2 _ _ (by rfl)) ?_ | refine H.datw hc2 (by rfl) ?_ | refine H.datl hc2 (by rfl) ?_ | refine H.da (hc3 _ _ (by rfl)) ?_ | refine H.datw hc3 (by rfl) ?_ | refine H.datl hc3 (by rfl) ?_ | refine H.da (hc4 _ _ (by rfl)) ?_ | refine H.datw hc4 (by rfl) ?_ | refine H.datl hc4 (by rfl) ?_ | refine H.lw ?_ | refine H.ll ?_)); (conv => whnf))
  refine (example_spec H.data).use ?_
  rintro v w ⟨rfl, V1, hV1, K⟩
  replace H := H.call K
  ((repeat ((conv => whnf); first | refine an ?_ | ((first | refine H.nw ?_ | refine H.nwD ?_); clear H; intro w _ H) | refine H.ce ?_ | refine H.db ?_ | refine ea ?_ | ((first | refine H.store_0 ?_ | refine H.store_1 ?_ | refine H.store_2 ?_ | refine H.store_3 ?_ | refine H.store_4 ?_ | refine H.store_5 ?_ | refine H.store_6 ?_ | refine H.store_7 ?_ | refine H.store_8 ?_ | refine H.store_9 ?_); (conv => whnf); clear H; intro w H) | refine condT fun _ => ?_ | refine condF fun _ => ?_ | refine condNT fun _ => ?_ | refine condNF fun _ => ?_ | refine H.da (hc1 _ _ (by rfl)) ?_ | refine H.datw hc1 (by rfl) ?_ | refine H.datl hc1 (by rfl) ?_ | refine H.da (hc2 _ _ (by rfl)) ?_ | refine H.datw hc2 (by rfl) ?_ | refine H.datl hc2 (by rfl) ?_ | refine H.da (hc3 _ _ (by rfl)) ?_ | refine H.datw hc3 (by rfl) ?_ | refine H.datl hc3 (by rfl) ?_ | refine H.da (hc4 _ _ (by rfl)) ?_ | refine H.datw hc4 (by rfl) ?_ | refine H.datl hc4 (by rfl) ?_ | refine H.lw ?_ | refine H.ll ?_)); (conv => whnf))
  refine (outside_spec H.data (hs.up hV1) hl).use ?_
  rintro v w ⟨V2, hV2, K, hv⟩
  replace H := H.call K
  have hV12 := hV1.trans hV2
  rcases hv with ⟨hc, rfl⟩ | ⟨hc, t, rfl, ht⟩
  · ((repeat ((conv => whnf); first | refine an ?_ | refine H.ce ?_ | refine H.db ?_ | refine ea ?_ | ((first | refine H.store_0 ?_ | refine H.store_1 ?_ | refine H.store_2 ?_ | refine H.store_3 ?_ | refine H.store_4 ?_ | refine H.store_5 ?_ | refine H.store_6 ?_ | refine H.store_7 ?_ | refine H.store_8 ?_ | refine H.store_9 ?_); (conv => whnf); clear H; intro w H) | refine condT fun _ => ?_ | refine condF fun _ => ?_ | refine condNT fun _ => ?_ | refine condNF fun _ => ?_ | refine H.da (hc1 _ _ (by rfl)) ?_ | refine H.datw hc1 (by rfl) ?_ | refine H.datl hc1 (by rfl) ?_ | refine H.da (hc2 _ _ (by rfl)) ?_ | refine H.datw hc2 (by rfl) ?_ | refine H.datl hc2 (by rfl) ?_ | refine H.da (hc3 _ _ (by rfl)) ?_ | refine H.datw hc3 (by rfl) ?_ | refine H.datl hc3 (by rfl) ?_ | refine H.da (hc4 _ _ (by rfl)) ?_ | refine H.datw hc4 (by rfl) ?_ | refine H.datl hc4 (by rfl) ?_ | refine H.lw ?_ | refine H.ll ?_)); (conv => whnf))
    ((first | refine Rel.nwD H ?_ | refine Rel.nw H ?_); clear H; intro w b4 H)
    ((repeat ((conv => whnf); first | refine an ?_ | ((first | refine H.nw ?_ | refine H.nwD ?_); clear H; intro w _ H) | refine H.ce ?_ | refine H.db ?_ | refine ea ?_ | ((first | refine H.store_0 ?_ | refine H.store_1 ?_ | refine H.store_2 ?_ | refine H.store_3 ?_ | refine H.store_4 ?_ | refine H.store_5 ?_ | refine H.store_6 ?_ | refine H.store_7 ?_ | refine H.store_8 ?_ | refine H.store_9 ?_); (conv => whnf); clear H; intro w H) | refine condT fun _ => ?_ | refine condF fun _ => ?_ | refine condNT fun _ => ?_ | refine condNF fun _ => ?_ | refine H.da (hc1 _ _ (by rfl)) ?_ | refine H.datw hc1 (by rfl) ?_ | refine H.datl hc1 (by rfl) ?_ | refine H.da (hc2 _ _ (by rfl)) ?_ | refine H.datw hc2 (by rfl) ?_ | refine H.datl hc2 (by rfl) ?_ | refine H.da (hc3 _ _ (by rfl)) ?_ | refine H.datw hc3 (by rfl) ?_ | refine H.datl hc3 (by rfl) ?_ | refine H.da (hc4 _ _ (by rfl)) ?_ | refine H.datw hc4 (by rfl) ?_ | refine H.datl hc4 (by rfl) ?_ | refine H.lw ?_ | refine H.ll ?_)); (conv => whnf))
    refine (catalogueFault_ref H.data (hs.up hV12) hl).use ?_
    rintro v w ⟨rfl, K⟩
    replace H := H.call K
    ((repeat ((conv => whnf); first | refine an ?_ | ((first | refine H.nw ?_ | refine H.nwD ?_); clear H; intro w _ H) | refine H.ce ?_ | refine H.db ?_ | refine ea ?_ | ((first | refine H.store_0 ?_ | refine H.store_1 ?_ | refine H.store_2 ?_ | refine H.store_3 ?_ | refine H.store_4 ?_ | refine H.store_5 ?_ | refine H.store_6 ?_ | refine H.store_7 ?_ | refine H.store_8 ?_ | refine H.store_9 ?_); (conv => whnf); clear H; intro w H) | refine condT fun _ => ?_ | refine condF fun _ => ?_ | refine condNT fun _ => ?_ | refine condNF fun _ => ?_ | refine H.da (hc1 _ _ (by rfl)) ?_ | refine H.datw hc1 (by rfl) ?_ | refine H.datl hc1 (by rfl) ?_ | refine H.da (hc2 _ _ (by rfl)) ?_ | refine H.datw hc2 (by rfl) ?_ | refine H.datl hc2 (by rfl) ?_ | refine H.da (hc3 _ _ (by rfl)) ?_ | refine H.datw hc3 (by rfl) ?_ | refine H.datl hc3 (by rfl) ?_ | refine H.da (hc4 _ _ (by rfl)) ?_ | refine H.datw hc4 (by rfl) ?_ | refine H.datl hc4 (by rfl) ?_ | refine H.lw ?_ | refine H.ll ?_)); (conv => whnf))
    (first | exact H.base | exact ⟨by simp, H.base⟩ | exact ⟨rfl, H.base⟩)
  obtain ⟨hc0, h60, hent, hcyc⟩ := catFault_zero hc
  have htl := ht.len
  have hol := outL_len hent (Nat.le_refl l.length)
  ((repeat ((conv => whnf); first | refine an ?_ | refine H.ce ?_ | refine H.db ?_ | refine ea ?_ | ((first | refine H.store_0 ?_ | refine H.store_1 ?_ | refine H.store_2 ?_ | refine H.store_3 ?_ | refine H.store_4 ?_ | refine H.store_5 ?_ | refine H.store_6 ?_ | refine H.store_7 ?_ | refine H.store_8 ?_ | refine H.store_9 ?_); (conv => whnf); clear H; intro w H) | refine condT fun _ => ?_ | refine condF fun _ => ?_ | refine condNT fun _ => ?_ | refine condNF fun _ => ?_ | refine H.da (hc1 _ _ (by rfl)) ?_ | refine H.datw hc1 (by rfl) ?_ | refine H.datl hc1 (by rfl) ?_ | refine H.da (hc2 _ _ (by rfl)) ?_ | refine H.datw hc2 (by rfl) ?_ | refine H.datl hc2 (by rfl) ?_ | refine H.da (hc3 _ _ (by rfl)) ?_ | refine H.datw hc3 (by rfl) ?_ | refine H.datl hc3 (by rfl) ?_ | refine H.da (hc4 _ _ (by rfl)) ?_ | refine H.datw hc4 (by rfl) ?_ | refine H.datl hc4 (by rfl) ?_ | refine H.lw ?_ | refine H.ll ?_)); (conv => whnf))
  ((first | refine Rel.nwD H ?_ | refine Rel.nw H ?_); clear H; intro w b4 H)
  ((repeat ((conv => whnf); first | refine an ?_ | ((first | refine H.nw ?_ | refine H.nwD ?_); clear H; intro w _ H) | refine H.ce ?_ | refine H.db ?_ | refine ea ?_ | ((first | refine H.store_0 ?_ | refine H.store_1 ?_ | refine H.store_2 ?_ | refine H.store_3 ?_ | refine H.store_4 ?_ | refine H.store_5 ?_ | refine H.store_6 ?_ | refine H.store_7 ?_ | refine H.store_8 ?_ | refine H.store_9 ?_); (conv => whnf); clear H; intro w H) | refine condT fun _ => ?_ | refine condF fun _ => ?_ | refine condNT fun _ => ?_ | refine condNF fun _ => ?_ | refine H.da (hc1 _ _ (by rfl)) ?_ | refine H.datw hc1 (by rfl) ?_ | refine H.datl hc1 (by rfl) ?_ | refine H.da (hc2 _ _ (by rfl)) ?_ | refine H.datw hc2 (by rfl) ?_ | refine H.datl hc2 (by rfl) ?_ | refine H.da (hc3 _ _ (by rfl)) ?_ | refine H.datw hc3 (by rfl) ?_ | refine H.datl hc3 (by rfl) ?_ | refine H.da (hc4 _ _ (by rfl)) ?_ | refine H.datw hc4 (by rfl) ?_ | refine H.datl hc4 (by rfl) ?_ | refine H.lw ?_ | refine H.ll ?_)); (conv => whnf))
  refine (catalogueFault_ref H.data (hs.up hV12) hl).use ?_
  rintro v w ⟨rfl, K⟩
  replace H := H.call K
  rw [hc0]
  ((repeat ((conv => whnf); first | refine an ?_ | refine H.ce ?_ | refine H.db ?_ | refine ea ?_ | ((first | refine H.store_0 ?_ | refine H.store_1 ?_ | refine H.store_2 ?_ | refine H.store_3 ?_ | refine H.store_4 ?_ | refine H.store_5 ?_ | refine H.store_6 ?_ | refine H.store_7 ?_ | refine H.store_8 ?_ | refine H.store_9 ?_); (conv => whnf); clear H; intro w H) | refine condT fun _ => ?_ | refine condF fun _ => ?_ | refine condNT fun _ => ?_ | refine condNF fun _ => ?_ | refine H.da (hc1 _ _ (by rfl)) ?_ | refine H.datw hc1 (by rfl) ?_ | refine H.datl hc1 (by rfl) ?_ | refine H.da (hc2 _ _ (by rfl)) ?_ | refine H.datw hc2 (by rfl) ?_ | refine H.datl hc2 (by rfl) ?_ | refine H.da (hc3 _ _ (by rfl)) ?_ | refine H.datw hc3 (by rfl) ?_ | refine H.datl hc3 (by rfl) ?_ | refine H.da (hc4 _ _ (by rfl)) ?_ | refine H.datw hc4 (by rfl) ?_ | refine H.datl hc4 (by rfl) ?_ | refine H.lw ?_ | refine H.ll ?_)); (conv => whnf))
  ((first | refine Rel.nwD H ?_ | refine Rel.nw H ?_); clear H; intro w b5 H)
  ((repeat ((conv => whnf); first | refine an ?_ | ((first | refine H.nw ?_ | refine H.nwD ?_); clear H; intro w _ H) | refine H.ce ?_ | refine H.db ?_ | refine ea ?_ | ((first | refine H.store_0 ?_ | refine H.store_1 ?_ | refine H.store_2 ?_ | refine H.store_3 ?_ | refine H.store_4 ?_ | refine H.store_5 ?_ | refine H.store_6 ?_ | refine H.store_7 ?_ | refine H.store_8 ?_ | refine H.store_9 ?_); (conv => whnf); clear H; intro w H) | refine condT fun _ => ?_ | refine condF fun _ => ?_ | refine condNT fun _ => ?_ | refine condNF fun _ => ?_ | refine H.da (hc1 _ _ (by rfl)) ?_ | refine H.datw hc1 (by rfl) ?_ | refine H.datl hc1 (by rfl) ?_ | refine H.da (hc2 _ _ (by rfl)) ?_ | refine H.datw hc2 (by rfl) ?_ | refine H.datl hc2 (by rfl) ?_ | refine H.da (hc3 _ _ (by rfl)) ?_ | refine H.datw hc3 (by rfl) ?_ | refine H.datl hc3 (by rfl) ?_ | refine H.da (hc4 _ _ (by rfl)) ?_ | refine H.datw hc4 (by rfl) ?_ | refine H.datl hc4 (by rfl) ?_ | refine H.lw ?_ | refine H.ll ?_)); (conv => whnf))
  refine loop_inv (S := Nat) tabOk [1, 3, 4] (fun k => [(6, iv ((outL l k).length : Nat)), (7, iv k)]) (fun k w' => k ≤ l.length ∧ Rel W W (.blk b5 [iv 0, iv 0] 27 :: .blk b4 [iv 0, iv 0] 27 :: .blk b1 [s.v] 24 :: []) V2 w') (fun k _ => l.length - k) 0 ?_
  (conv => whnf)
  refine ⟨(by repeat (first | exact trivial | refine ⟨rfl, ?_⟩)), ⟨by omega, H.sx⟩, ?_⟩
  clear H
  rintro k w ⟨hk, H⟩
  by_cases hlt : k < l.length
  rotate_left
  · obtain rfl : k = l.length := by omega
    ((repeat ((conv => whnf); first | refine an ?_ | ((first | refine H.nw ?_ | refine H.nwD ?_); clear H; intro w _ H) | refine H.ce ?_ | refine H.db ?_ | refine ea ?_ | ((first | refine H.store_0 ?_ | refine H.store_1 ?_ | refine H.store_2 ?_ | refine H.store_3 ?_ | refine H.store_4 ?_ | refine H.store_5 ?_ | refine H.store_6 ?_ | refine H.store_7 ?_ | refine H.store_8 ?_ | refine H.store_9 ?_); (conv => whnf); clear H; intro w H) | refine condT fun _ => ?_ | refine condF fun _ => ?_ | refine condNT fun _ => ?_ | refine condNF fun _ => ?_ | refine H.da (hc1 _ _ (by rfl)) ?_ | refine H.datw hc1 (by rfl) ?_ | refine H.datl hc1 (by rfl) ?_ | refine H.da (hc2 _ _ (by rfl)) ?_ | refine H.datw hc2 (by rfl) ?_ | refine H.datl hc2 (by rfl) ?_ | refine H.da (hc3 _ _ (by rfl)) ?_ | refine H.datw hc3 (by rfl) ?_ | refine H.datl hc3 (by rfl) ?_ | refine H.da (hc4 _ _ (by rfl)) ?_ | refine H.datw hc4 (by rfl) ?_ | refine H.datl hc4 (by rfl) ?_ | refine H.lw ?_ | refine H.ll ?_)); (conv => whnf))
    exact ⟨by simp [htl], H.base⟩
  obtain ⟨hp, eh, hok, hc1⟩ := (hs.up hV12).get hlt
  have hso := hok.so.len
  have hsl := (groups_le hent hlt).2
  ((repeat ((conv => whnf); first | refine an ?_ | ((first | refine H.nw ?_ | refine H.nwD ?_); clear H; intro w _ H) | refine H.ce ?_ | refine H.db ?_ | refine ea ?_ | ((first | refine H.store_0 ?_ | refine H.store_1 ?_ | refine H.store_2 ?_ | refine H.store_3 ?_ | refine H.store_4 ?_ | refine H.store_5 ?_ | refine H.store_6 ?_ | refine H.store_7 ?_ | refine H.store_8 ?_ | refine H.store_9 ?_); (conv => whnf); clear H; intro w H) | refine condT fun _ => ?_ | refine condF fun _ => ?_ | refine condNT fun _ => ?_ | refine condNF fun _ => ?_ | refine H.da (hc1 _ _ (by rfl)) ?_ | refine H.datw hc1 (by rfl) ?_ | refine H.datl hc1 (by rfl) ?_ | refine H.da (hc2 _ _ (by rfl)) ?_ | refine H.datw hc2 (by rfl) ?_ | refine H.datl hc2 (by rfl) ?_ | refine H.da (hc3 _ _ (by rfl)) ?_ | refine H.datw hc3 (by rfl) ?_ | refine H.datl hc3 (by rfl) ?_ | refine H.da (hc4 _ _ (by rfl)) ?_ | refine H.datw hc4 (by rfl) ?_ | refine H.datl hc4 (by rfl) ?_ | refine H.lw ?_ | refine H.ll ?_)); (conv => whnf))
  refine SemC.cut 2 (fun _ : Unit => [(1, .pointer (some ⟨b1, 0, none⟩)), (3, t.v), (4, .pointer (some ⟨b4, 0, none⟩)), (6, iv ((outL l (k + 1)).length : Nat)), (7, iv k)]) (fun _ w' => Rel W W (.blk b5 [iv 0, iv 0] 27 :: .blk b4 [iv 0, iv 0] 27 :: .blk b1 [s.v] 24 :: []) V2 w') ?_ ?_
  rotate_left
  · rintro _ w H
    ((repeat ((conv => whnf); first | refine an ?_ | ((first | refine H.nw ?_ | refine H.nwD ?_); clear H; intro w _ H) | refine H.ce ?_ | refine H.db ?_ | refine ea ?_ | ((first | refine H.store_0 ?_ | refine H.store_1 ?_ | refine H.store_2 ?_ | refine H.store_3 ?_ | refine H.store_4 ?_ | refine H.store_5 ?_ | refine H.store_6 ?_ | refine H.store_7 ?_ | refine H.store_8 ?_ | refine H.store_9 ?_); (conv => whnf); clear H; intro w H) | refine condT fun _ => ?_ | refine condF fun _ => ?_ | refine condNT fun _ => ?_ | refine condNF fun _ => ?_ | refine H.da (hc1 _ _ (by rfl)) ?_ | refine H.datw hc1 (by rfl) ?_ | refine H.datl hc1 (by rfl) ?_ | refine H.da (hc2 _ _ (by rfl)) ?_ | refine H.datw hc2 (by rfl) ?_ | refine H.datl hc2 (by rfl) ?_ | refine H.da (hc3 _ _ (by rfl)) ?_ | refine H.datw hc3 (by rfl) ?_ | refine H.datl hc3 (by rfl) ?_ | refine H.da (hc4 _ _ (by rfl)) ?_ | refine H.datw hc4 (by rfl) ?_ | refine H.datl hc4 (by rfl) ?_ | refine H.lw ?_ | refine H.ll ?_)); (conv => whnf))
    exact ⟨(by repeat (first | exact trivial | refine ⟨rfl, ?_⟩)), k + 1, (by repeat (first | exact trivial | refine ⟨rfl, ?_⟩)), ⟨by omega, H.sx⟩, by omega⟩
  refine loop_inv (S := Nat) tabOk [1, 3, 4, 7] (fun m => [(6, iv ((outAcc l (outL l k) (l[k].sources.take m)).length : Nat)), (8, iv m)]) (fun m w' => m ≤ l[k].sources.length ∧ Rel W W (.blk b5 [iv 0, iv 0] 27 :: .blk b4 [iv 0, iv 0] 27 :: .blk b1 [s.v] 24 :: []) V2 w') (fun m _ => l[k].sources.length - m) 0 ?_
  (conv => whnf)
  refine ⟨(by repeat (first | exact trivial | refine ⟨rfl, ?_⟩)), ⟨by omega, H.sx⟩, ?_⟩
  clear H
  rintro m w ⟨hm, H⟩
  by_cases hml : m < l[k].sources.length
  rotate_left
  · have e : outAcc l (outL l k) (l[k].sources.take m) = outL l (k + 1) := by rw [List.take_of_length_le (by omega), ← outL_succ hlt]
    rw [e]
    ((repeat ((conv => whnf); first | refine an ?_ | ((first | refine H.nw ?_ | refine H.nwD ?_); clear H; intro w _ H) | refine H.ce ?_ | refine H.db ?_ | refine ea ?_ | ((first | refine H.store_0 ?_ | refine H.store_1 ?_ | refine H.store_2 ?_ | refine H.store_3 ?_ | refine H.store_4 ?_ | refine H.store_5 ?_ | refine H.store_6 ?_ | refine H.store_7 ?_ | refine H.store_8 ?_ | refine H.store_9 ?_); (conv => whnf); clear H; intro w H) | refine condT fun _ => ?_ | refine condF fun _ => ?_ | refine condNT fun _ => ?_ | refine condNF fun _ => ?_ | refine H.da (hc1 _ _ (by rfl)) ?_ | refine H.datw hc1 (by rfl) ?_ | refine H.datl hc1 (by rfl) ?_ | refine H.da (hc2 _ _ (by rfl)) ?_ | refine H.datw hc2 (by rfl) ?_ | refine H.datl hc2 (by rfl) ?_ | refine H.da (hc3 _ _ (by rfl)) ?_ | refine H.datw hc3 (by rfl) ?_ | refine H.datl hc3 (by rfl) ?_ | refine H.da (hc4 _ _ (by rfl)) ?_ | refine H.datw hc4 (by rfl) ?_ | refine H.datl hc4 (by rfl) ?_ | refine H.lw ?_ | refine H.ll ?_)); (conv => whnf))
    exact ⟨(), (by repeat (first | exact trivial | refine ⟨rfl, ?_⟩)), H.sx⟩
  obtain ⟨hp2, hc2, hc2'⟩ := hok.so.get hml
  obtain ⟨y, hy⟩ := out_pre hlt (m + 1)
  obtain ⟨y0, hy0⟩ := out_pre hlt m
  have e0 := outAcc_take (l := l) (acc := outL l k) hml
  generalize hrr : l[k].sources[m] = r at *
  generalize outAcc l (outL l k) (l[k].sources.take m) = acc at *
  generalize hacc' : outAcc l (outL l k) (l[k].sources.take (m + 1)) = acc' at *
  generalize outL l l.length = fin at *
  have hacl : acc.length ≤ fin.length := by rw [hy0]; simp
  have hfa : ∀ q (hq : q < fin.length), q < acc.length → fin[q] ∈ acc := by
    intro q hq hqa
    subst hy0
    rw [List.getElem_append_left hqa]
    exact List.getElem_mem hqa
  have hft : fin.take acc.length = acc := by rw [hy0]; simp
  ((repeat ((conv => whnf); first | refine an ?_ | refine H.ce ?_ | refine H.db ?_ | refine ea ?_ | ((first | refine H.store_0 ?_ | refine H.store_1 ?_ | refine H.store_2 ?_ | refine H.store_3 ?_ | refine H.store_4 ?_ | refine H.store_5 ?_ | refine H.store_6 ?_ | refine H.store_7 ?_ | refine H.store_8 ?_ | refine H.store_9 ?_); (conv => whnf); clear H; intro w H) | refine condT fun _ => ?_ | refine condF fun _ => ?_ | refine condNT fun _ => ?_ | refine condNF fun _ => ?_ | refine H.da (hc1 _ _ (by rfl)) ?_ | refine H.datw hc1 (by rfl) ?_ | refine H.datl hc1 (by rfl) ?_ | refine H.da (hc2 _ _ (by rfl)) ?_ | refine H.datw hc2 (by rfl) ?_ | refine H.datl hc2 (by rfl) ?_ | refine H.da (hc3 _ _ (by rfl)) ?_ | refine H.datw hc3 (by rfl) ?_ | refine H.datl hc3 (by rfl) ?_ | refine H.da (hc4 _ _ (by rfl)) ?_ | refine H.datw hc4 (by rfl) ?_ | refine H.datl hc4 (by rfl) ?_ | refine H.lw ?_ | refine H.ll ?_)); (conv => whnf))
  ((first | refine Rel.nwD H ?_ | refine Rel.nw H ?_); clear H; intro w b9 H)
  ((repeat ((conv => whnf); first | refine an ?_ | ((first | refine H.nw ?_ | refine H.nwD ?_); clear H; intro w _ H) | refine H.ce ?_ | refine H.db ?_ | refine ea ?_ | ((first | refine H.store_0 ?_ | refine H.store_1 ?_ | refine H.store_2 ?_ | refine H.store_3 ?_ | refine H.store_4 ?_ | refine H.store_5 ?_ | refine H.store_6 ?_ | refine H.store_7 ?_ | refine H.store_8 ?_ | refine H.store_9 ?_); (conv => whnf); clear H; intro w H) | refine condT fun _ => ?_ | refine condF fun _ => ?_ | refine condNT fun _ => ?_ | refine condNF fun _ => ?_ | refine H.da (hc1 _ _ (by rfl)) ?_ | refine H.datw hc1 (by rfl) ?_ | refine H.datl hc1 (by rfl) ?_ | refine H.da (hc2 _ _ (by rfl)) ?_ | refine H.datw hc2 (by rfl) ?_ | refine H.datl hc2 (by rfl) ?_ | refine H.da (hc3 _ _ (by rfl)) ?_ | refine H.datw hc3 (by rfl) ?_ | refine H.datl hc3 (by rfl) ?_ | refine H.da (hc4 _ _ (by rfl)) ?_ | refine H.datw hc4 (by rfl) ?_ | refine H.datl hc4 (by rfl) ?_ | refine H.lw ?_ | refine H.ll ?_)); (conv => whnf))
  refine (place_ref H.data (hs.up hV12) (by omega) r).use ?_
  rintro v w ⟨rfl, K⟩
  replace H := H.call K
  simp only [List.nil_append] at H
  ((repeat ((conv => whnf); first | refine an ?_ | ((first | refine H.nw ?_ | refine H.nwD ?_); clear H; intro w _ H) | refine H.ce ?_ | refine H.db ?_ | refine ea ?_ | ((first | refine H.store_0 ?_ | refine H.store_1 ?_ | refine H.store_2 ?_ | refine H.store_3 ?_ | refine H.store_4 ?_ | refine H.store_5 ?_ | refine H.store_6 ?_ | refine H.store_7 ?_ | refine H.store_8 ?_ | refine H.store_9 ?_); (conv => whnf); clear H; intro w H) | refine condT fun _ => ?_ | refine condF fun _ => ?_ | refine condNT fun _ => ?_ | refine condNF fun _ => ?_ | refine H.da (hc1 _ _ (by rfl)) ?_ | refine H.datw hc1 (by rfl) ?_ | refine H.datl hc1 (by rfl) ?_ | refine H.da (hc2 _ _ (by rfl)) ?_ | refine H.datw hc2 (by rfl) ?_ | refine H.datl hc2 (by rfl) ?_ | refine H.da (hc3 _ _ (by rfl)) ?_ | refine H.datw hc3 (by rfl) ?_ | refine H.datl hc3 (by rfl) ?_ | refine H.da (hc4 _ _ (by rfl)) ?_ | refine H.datw hc4 (by rfl) ?_ | refine H.datl hc4 (by rfl) ?_ | refine H.lw ?_ | refine H.ll ?_)); (conv => whnf))
  refine SemC.cut 4 (fun _ : Unit => [(1, .pointer (some ⟨b1, 0, none⟩)), (3, t.v), (4, .pointer (some ⟨b4, 0, none⟩)), (6, iv (acc.length : Nat)), (7, iv k), (8, iv m), (9, .pointer (some ⟨b9, 0, none⟩)), (10, .bool ((acc.any fun z => decide (z = r)) || decide (0 ≤ placeI l r)))]) (fun _ w' => Rel W W (.blk b9 [str r.name, iv r.ver] 53 :: .blk b5 [iv 0, iv 0] 27 :: .blk b4 [iv 0, iv 0] 27 :: .blk b1 [s.v] 24 :: []) V2 w') ?_ ?_
  · refine loop_inv (S := Nat) tabOk [1, 3, 4, 6, 7, 8, 9] (fun q => [(10, .bool (((fin.take q).any fun z => decide (z = r)) || decide (0 ≤ placeI l r))), (11, iv q)]) (fun q w' => q ≤ acc.length ∧ Rel W W (.blk b9 [str r.name, iv r.ver] 53 :: .blk b5 [iv 0, iv 0] 27 :: .blk b4 [iv 0, iv 0] 27 :: .blk b1 [s.v] 24 :: []) V2 w') (fun q _ => acc.length - q) 0 ?_
    (conv => whnf)
    refine ⟨(by repeat (first | exact trivial | refine ⟨rfl, ?_⟩)), ⟨by omega, H.sx⟩, ?_⟩
    clear H
    rintro q w ⟨hq, H⟩
    by_cases hql : q < acc.length
    rotate_left
    · obtain rfl : q = acc.length := by omega
      rw [hft]
      ((repeat ((conv => whnf); first | refine an ?_ | ((first | refine H.nw ?_ | refine H.nwD ?_); clear H; intro w _ H) | refine H.ce ?_ | refine H.db ?_ | refine ea ?_ | ((first | refine H.store_0 ?_ | refine H.store_1 ?_ | refine H.store_2 ?_ | refine H.store_3 ?_ | refine H.store_4 ?_ | refine H.store_5 ?_ | refine H.store_6 ?_ | refine H.store_7 ?_ | refine H.store_8 ?_ | refine H.store_9 ?_); (conv => whnf); clear H; intro w H) | refine condT fun _ => ?_ | refine condF fun _ => ?_ | refine condNT fun _ => ?_ | refine condNF fun _ => ?_ | refine H.da (hc1 _ _ (by rfl)) ?_ | refine H.datw hc1 (by rfl) ?_ | refine H.datl hc1 (by rfl) ?_ | refine H.da (hc2 _ _ (by rfl)) ?_ | refine H.datw hc2 (by rfl) ?_ | refine H.datl hc2 (by rfl) ?_ | refine H.da (hc3 _ _ (by rfl)) ?_ | refine H.datw hc3 (by rfl) ?_ | refine H.datl hc3 (by rfl) ?_ | refine H.da (hc4 _ _ (by rfl)) ?_ | refine H.datw hc4 (by rfl) ?_ | refine H.datl hc4 (by rfl) ?_ | refine H.lw ?_ | refine H.ll ?_)); (conv => whnf))
      exact ⟨(), (by repeat (first | exact trivial | refine ⟨rfl, ?_⟩)), H.sx⟩
    have hqf : q < fin.length := by omega
    obtain ⟨hp4, hc4, hc4'⟩ := Refs.get ht hqf
    have e : ((fin.take (q + 1)).any fun z => decide (z = r)) = (((fin.take q).any fun z => decide (z = r)) || decide (fin[q] = r)) := by
      rw [List.take_succ_eq_append_getElem hqf, List.any_append]
      simp only [List.any_cons, List.any_nil, Bool.or_false]
    have e2 : decide (fin[q].name = r.name ∧ fin[q].ver = r.ver) = decide (fin[q] = r) := decide_eq_decide.2 (ref_eta _ _)
    cases hf : (((fin.take q).any fun z => decide (z = r)) || decide (0 ≤ placeI l r)) with
    | true =>
      have e3 : (((fin.take (q + 1)).any fun z => decide (z = r)) || decide (0 ≤ placeI l r)) = true := by
        rw [e, Bool.or_assoc, Bool.or_comm (decide (fin[q] = r)), ← Bool.or_assoc, hf, Bool.true_or]
      ((repeat ((conv => whnf); first | refine an ?_ | ((first | refine H.nw ?_ | refine H.nwD ?_); clear H; intro w _ H) | refine H.ce ?_ | refine H.db ?_ | refine ea ?_ | ((first | refine H.store_0 ?_ | refine H.store_1 ?_ | refine H.store_2 ?_ | refine H.store_3 ?_ | refine H.store_4 ?_ | refine H.store_5 ?_ | refine H.store_6 ?_ | refine H.store_7 ?_ | refine H.store_8 ?_ | refine H.store_9 ?_); (conv => whnf); clear H; intro w H) | refine condT fun _ => ?_ | refine condF fun _ => ?_ | refine condNT fun _ => ?_ | refine condNF fun _ => ?_ | refine H.da (hc1 _ _ (by rfl)) ?_ | refine H.datw hc1 (by rfl) ?_ | refine H.datl hc1 (by rfl) ?_ | refine H.da (hc2 _ _ (by rfl)) ?_ | refine H.datw hc2 (by rfl) ?_ | refine H.datl hc2 (by rfl) ?_ | refine H.da (hc3 _ _ (by rfl)) ?_ | refine H.datw hc3 (by rfl) ?_ | refine H.datl hc3 (by rfl) ?_ | refine H.da (hc4 _ _ (by rfl)) ?_ | refine H.datw hc4 (by rfl) ?_ | refine H.datl hc4 (by rfl) ?_ | refine H.lw ?_ | refine H.ll ?_)); (conv => whnf))
      ((first | refine draw_vc (id := 19) tabOk mixed [] [0, 1, 2, 3, 4, 5, 6, 7, 8, 9] (by kernel_rfl) ?_ | refine draw_vc (id := 21) tabOk mixed [] [0, 1, 2, 3, 4, 5, 6, 7, 8, 9, 10, 11] (by kernel_rfl) ?_); intro w hdw; replace H := Rel.ext H hdw.ext)
      ((repeat ((conv => whnf); first | refine an ?_ | ((first | refine H.nw ?_ | refine H.nwD ?_); clear H; intro w _ H) | refine H.ce ?_ | refine H.db ?_ | refine ea ?_ | ((first | refine H.store_0 ?_ | refine H.store_1 ?_ | refine H.store_2 ?_ | refine H.store_3 ?_ | refine H.store_4 ?_ | refine H.store_5 ?_ | refine H.store_6 ?_ | refine H.store_7 ?_ | refine H.store_8 ?_ | refine H.store_9 ?_); (conv => whnf); clear H; intro w H) | refine condT fun _ => ?_ | refine condF fun _ => ?_ | refine condNT fun _ => ?_ | refine condNF fun _ => ?_ | refine H.da (hc1 _ _ (by rfl)) ?_ | refine H.datw hc1 (by rfl) ?_ | refine H.datl hc1 (by rfl) ?_ | refine H.da (hc2 _ _ (by rfl)) ?_ | refine H.datw hc2 (by rfl) ?_ | refine H.datl hc2 (by rfl) ?_ | refine H.da (hc3 _ _ (by rfl)) ?_ | refine H.datw hc3 (by rfl) ?_ | refine H.datl hc3 (by rfl) ?_ | refine H.da (hc4 _ _ (by rfl)) ?_ | refine H.datw hc4 (by rfl) ?_ | refine H.datl hc4 (by rfl) ?_ | refine H.lw ?_ | refine H.ll ?_)); (conv => whnf))
      exact ⟨(by repeat (first | exact trivial | refine ⟨rfl, ?_⟩)), q + 1, ⟨congrArg (fun z => some (Value.bool z)) e3.symm, rfl, trivial⟩, ⟨by omega, H.sx⟩, by omega⟩
    | false =>
      have e3 : (((fin.take (q + 1)).any fun z => decide (z = r)) || decide (0 ≤ placeI l r)) = decide (fin[q].name = r.name ∧ fin[q].ver = r.ver) := by
        rw [e, Bool.or_assoc, Bool.or_comm (decide (fin[q] = r)), ← Bool.or_assoc, hf, Bool.false_or, e2]
      ((repeat ((conv => whnf); first | refine an ?_ | ((first | refine H.nw ?_ | refine H.nwD ?_); clear H; intro w _ H) | refine H.ce ?_ | refine H.db ?_ | refine ea ?_ | ((first | refine H.store_0 ?_ | refine H.store_1 ?_ | refine H.store_2 ?_ | refine H.store_3 ?_ | refine H.store_4 ?_ | refine H.store_5 ?_ | refine H.store_6 ?_ | refine H.store_7 ?_ | refine H.store_8 ?_ | refine H.store_9 ?_); (conv => whnf); clear H; intro w H) | refine condT fun _ => ?_ | refine condF fun _ => ?_ | refine condNT fun _ => ?_ | refine condNF fun _ => ?_ | refine H.da (hc1 _ _ (by rfl)) ?_ | refine H.datw hc1 (by rfl) ?_ | refine H.datl hc1 (by rfl) ?_ | refine H.da (hc2 _ _ (by rfl)) ?_ | refine H.datw hc2 (by rfl) ?_ | refine H.datl hc2 (by rfl) ?_ | refine H.da (hc3 _ _ (by rfl)) ?_ | refine H.datw hc3 (by rfl) ?_ | refine H.datl hc3 (by rfl) ?_ | refine H.da (hc4 _ _ (by rfl)) ?_ | refine H.datw hc4 (by rfl) ?_ | refine H.datl hc4 (by rfl) ?_ | refine H.lw ?_ | refine H.ll ?_)); (conv => whnf))
      ((first | refine draw_vc (id := 19) tabOk mixed [] [0, 1, 2, 3, 4, 5, 6, 7, 8, 9] (by kernel_rfl) ?_ | refine draw_vc (id := 21) tabOk mixed [] [0, 1, 2, 3, 4, 5, 6, 7, 8, 9, 10, 11] (by kernel_rfl) ?_); intro w hdw; replace H := Rel.ext H hdw.ext)
      ((repeat ((conv => whnf); first | refine an ?_ | ((first | refine H.nw ?_ | refine H.nwD ?_); clear H; intro w _ H) | refine H.ce ?_ | refine H.db ?_ | refine ea ?_ | ((first | refine H.store_0 ?_ | refine H.store_1 ?_ | refine H.store_2 ?_ | refine H.store_3 ?_ | refine H.store_4 ?_ | refine H.store_5 ?_ | refine H.store_6 ?_ | refine H.store_7 ?_ | refine H.store_8 ?_ | refine H.store_9 ?_); (conv => whnf); clear H; intro w H) | refine condT fun _ => ?_ | refine condF fun _ => ?_ | refine condNT fun _ => ?_ | refine condNF fun _ => ?_ | refine H.da (hc1 _ _ (by rfl)) ?_ | refine H.datw hc1 (by rfl) ?_ | refine H.datl hc1 (by rfl) ?_ | refine H.da (hc2 _ _ (by rfl)) ?_ | refine H.datw hc2 (by rfl) ?_ | refine H.datl hc2 (by rfl) ?_ | refine H.da (hc3 _ _ (by rfl)) ?_ | refine H.datw hc3 (by rfl) ?_ | refine H.datl hc3 (by rfl) ?_ | refine H.da (hc4 _ _ (by rfl)) ?_ | refine H.datw hc4 (by rfl) ?_ | refine H.datl hc4 (by rfl) ?_ | refine H.lw ?_ | refine H.ll ?_)); (conv => whnf))
      exact ⟨(by repeat (first | exact trivial | refine ⟨rfl, ?_⟩)), q + 1, ⟨congrArg (fun z => some (Value.bool z)) e3.symm, rfl, trivial⟩, ⟨by omega, H.sx⟩, by omega⟩
  clear H
  rintro _ w H
  (conv => whnf)
  refine condG_split (fun h1 => ?_) (fun h1 => ?_)
  · have e1 : acc' = acc := by
      rw [e0, outAdd, if_neg ?_]
      rintro ⟨g1, g2⟩
      rw [Bool.or_eq_true] at h1
      rcases h1 with h1 | h1
      · obtain ⟨z, hz, hz2⟩ := List.any_eq_true.1 h1
        rw [decide_eq_true_eq] at hz2
        exact g2 (hz2 ▸ hz)
      · simp [placeI, g1] at h1
    ((repeat ((conv => whnf); first | refine an ?_ | ((first | refine H.nw ?_ | refine H.nwD ?_); clear H; intro w _ H) | refine H.ce ?_ | refine H.db ?_ | refine ea ?_ | ((first | refine H.store_0 ?_ | refine H.store_1 ?_ | refine H.store_2 ?_ | refine H.store_3 ?_ | refine H.store_4 ?_ | refine H.store_5 ?_ | refine H.store_6 ?_ | refine H.store_7 ?_ | refine H.store_8 ?_ | refine H.store_9 ?_); (conv => whnf); clear H; intro w H) | refine condT fun _ => ?_ | refine condF fun _ => ?_ | refine condNT fun _ => ?_ | refine condNF fun _ => ?_ | refine H.da (hc1 _ _ (by rfl)) ?_ | refine H.datw hc1 (by rfl) ?_ | refine H.datl hc1 (by rfl) ?_ | refine H.da (hc2 _ _ (by rfl)) ?_ | refine H.datw hc2 (by rfl) ?_ | refine H.datl hc2 (by rfl) ?_ | refine H.da (hc3 _ _ (by rfl)) ?_ | refine H.datw hc3 (by rfl) ?_ | refine H.datl hc3 (by rfl) ?_ | refine H.da (hc4 _ _ (by rfl)) ?_ | refine H.datw hc4 (by rfl) ?_ | refine H.datl hc4 (by rfl) ?_ | refine H.lw ?_ | refine H.ll ?_)); (conv => whnf))
    refine ⟨(by repeat (first | exact trivial | refine ⟨rfl, ?_⟩)), m + 1, ⟨congrArg (fun z : List RefD => some (iv (z.length : Nat))) (e1.symm.trans hacc'.symm), rfl, trivial⟩, ⟨by omega, H.sx⟩, by omega⟩
  · rw [Bool.or_eq_false_iff] at h1
    have e1 : acc' = acc ++ [r] := by
      have g1 : place l r = none := by
        cases hpl : place l r with
        | none => rfl
        | some q =>
          have := h1.2
          simp [placeI, hpl] at this
      have g2 : r ∉ acc := by
        intro hr
        have := List.any_eq_false.1 h1.1 r hr
        simp at this
      rw [e0, outAdd, if_pos ⟨g1, g2⟩]
    have hlf : acc.length < fin.length := by rw [hy, e1]; simp
    have hfr : fin[acc.length] = r := by
      have : fin[acc.length]? = some r := by rw [hy, e1]; simp
      rw [List.getElem?_eq_getElem hlf] at this
      exact Option.some.inj this
    obtain ⟨hp4, hc4, hc4'⟩ := Refs.get ht hlf
    rw [hfr] at hc4 hc4'
    ((repeat ((conv => whnf); first | refine an ?_ | ((first | refine H.nw ?_ | refine H.nwD ?_); clear H; intro w _ H) | refine H.ce ?_ | refine H.db ?_ | refine ea ?_ | ((first | refine H.store_0 ?_ | refine H.store_1 ?_ | refine H.store_2 ?_ | refine H.store_3 ?_ | refine H.store_4 ?_ | refine H.store_5 ?_ | refine H.store_6 ?_ | refine H.store_7 ?_ | refine H.store_8 ?_ | refine H.store_9 ?_); (conv => whnf); clear H; intro w H) | refine condT fun _ => ?_ | refine condF fun _ => ?_ | refine condNT fun _ => ?_ | refine condNF fun _ => ?_ | refine H.da (hc1 _ _ (by rfl)) ?_ | refine H.datw hc1 (by rfl) ?_ | refine H.datl hc1 (by rfl) ?_ | refine H.da (hc2 _ _ (by rfl)) ?_ | refine H.datw hc2 (by rfl) ?_ | refine H.datl hc2 (by rfl) ?_ | refine H.da (hc3 _ _ (by rfl)) ?_ | refine H.datw hc3 (by rfl) ?_ | refine H.datl hc3 (by rfl) ?_ | refine H.da (hc4 _ _ (by rfl)) ?_ | refine H.datw hc4 (by rfl) ?_ | refine H.datl hc4 (by rfl) ?_ | refine H.lw ?_ | refine H.ll ?_)); (conv => whnf))
    ((first | refine draw_vc (id := 19) tabOk mixed [] [0, 1, 2, 3, 4, 5, 6, 7, 8, 9] (by kernel_rfl) ?_ | refine draw_vc (id := 21) tabOk mixed [] [0, 1, 2, 3, 4, 5, 6, 7, 8, 9, 10, 11] (by kernel_rfl) ?_); intro w hdw; replace H := Rel.ext H hdw.ext)
    ((repeat ((conv => whnf); first | refine an ?_ | ((first | refine H.nw ?_ | refine H.nwD ?_); clear H; intro w _ H) | refine H.ce ?_ | refine H.db ?_ | refine ea ?_ | ((first | refine H.store_0 ?_ | refine H.store_1 ?_ | refine H.store_2 ?_ | refine H.store_3 ?_ | refine H.store_4 ?_ | refine H.store_5 ?_ | refine H.store_6 ?_ | refine H.store_7 ?_ | refine H.store_8 ?_ | refine H.store_9 ?_); (conv => whnf); clear H; intro w H) | refine condT fun _ => ?_ | refine condF fun _ => ?_ | refine condNT fun _ => ?_ | refine condNF fun _ => ?_ | refine H.da (hc1 _ _ (by rfl)) ?_ | refine H.datw hc1 (by rfl) ?_ | refine H.datl hc1 (by rfl) ?_ | refine H.da (hc2 _ _ (by rfl)) ?_ | refine H.datw hc2 (by rfl) ?_ | refine H.datl hc2 (by rfl) ?_ | refine H.da (hc3 _ _ (by rfl)) ?_ | refine H.datw hc3 (by rfl) ?_ | refine H.datl hc3 (by rfl) ?_ | refine H.da (hc4 _ _ (by rfl)) ?_ | refine H.datw hc4 (by rfl) ?_ | refine H.datl hc4 (by rfl) ?_ | refine H.lw ?_ | refine H.ll ?_)); (conv => whnf))
    refine condG_dec (fun h => absurd (And.intro rfl rfl) h) (fun _ => ?_)
    ((repeat ((conv => whnf); first | refine an ?_ | ((first | refine H.nw ?_ | refine H.nwD ?_); clear H; intro w _ H) | refine H.ce ?_ | refine H.db ?_ | refine ea ?_ | ((first | refine H.store_0 ?_ | refine H.store_1 ?_ | refine H.store_2 ?_ | refine H.store_3 ?_ | refine H.store_4 ?_ | refine H.store_5 ?_ | refine H.store_6 ?_ | refine H.store_7 ?_ | refine H.store_8 ?_ | refine H.store_9 ?_); (conv => whnf); clear H; intro w H) | refine condT fun _ => ?_ | refine condF fun _ => ?_ | refine condNT fun _ => ?_ | refine condNF fun _ => ?_ | refine H.da (hc1 _ _ (by rfl)) ?_ | refine H.datw hc1 (by rfl) ?_ | refine H.datl hc1 (by rfl) ?_ | refine H.da (hc2 _ _ (by rfl)) ?_ | refine H.datw hc2 (by rfl) ?_ | refine H.datl hc2 (by rfl) ?_ | refine H.da (hc3 _ _ (by rfl)) ?_ | refine H.datw hc3 (by rfl) ?_ | refine H.datl hc3 (by rfl) ?_ | refine H.da (hc4 _ _ (by rfl)) ?_ | refine H.datw hc4 (by rfl) ?_ | refine H.datl hc4 (by rfl) ?_ | refine H.lw ?_ | refine H.ll ?_)); (conv => whnf))
    refine ⟨(by repeat (first | exact trivial | refine ⟨rfl, ?_⟩)), m + 1, ⟨congrArg (fun z : Nat => some (iv (z : Nat))) (show acc.length + 1 = _ by rw [hacc', e1]; simp), rfl, trivial⟩, ⟨by omega, H.sx⟩, by omega⟩
end Go.Proofs.Ytlhgmigoncmcaaa
