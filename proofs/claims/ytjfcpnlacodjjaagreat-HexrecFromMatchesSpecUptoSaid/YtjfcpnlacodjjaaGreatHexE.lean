/-
  Files of hexadecimal records: the sizes of the plain way.
-/
import Derived.Test.YtjfcpnlacodjjaaGreatHexD
import Derived.Test.YtjfcpnlacodjjaaGreatVcN
import Derived.Test.YtjfcpnlacodjjaaGreatLibC
namespace Go.Proofs.YtjfcpnlacodjjaaGreat
open Go Go.RowKit

theorem usualN_cnt (L : Nat) : ∀ i, i < (usualN L).length ↔ i * 16 < L := by
  induction L using Nat.strongRecOn with
  | ind L ih =>
    intro i
    by_cases h0 : L = 0
    · subst h0; rw [usualN_zero]; simp
    by_cases h16 : L ≤ 16
    · rw [usualN_small h0 h16]; simp only [List.length_singleton]; omega
    · rw [usualN_big (by omega), List.length_cons]
      cases i with
      | zero => simp; omega
      | succ i =>
        have := ih (L - 16) (by omega) i
        omega
theorem usualN_get {L : Nat} : ∀ {k : Nat}, k * 16 < L → (usualN L)[k]? = some (min 16 (L - k * 16)) := by
  induction L using Nat.strongRecOn with
  | ind L ih =>
    intro k hk
    by_cases h16 : L ≤ 16
    · obtain rfl : k = 0 := by omega
      rw [usualN_small (by omega) h16]
      simp only [List.getElem?_cons_zero]
      congr 1
      omega
    · rw [usualN_big (by omega)]
      cases k with
      | zero => simp only [List.getElem?_cons_zero]; congr 1; omega
      | succ k =>
        rw [List.getElem?_cons_succ, ih (L - 16) (by omega) (by omega)]
        congr 1
        omega
theorem usualN_le (L : Nat) : (usualN L).length ≤ L := by
  by_cases h0 : (usualN L).length = 0
  · omega
  · have := (usualN_cnt L ((usualN L).length - 1)).1 (by omega)
    omega
theorem usual_snoc {S : List Seg} {k : Nat} (h : k < S.length) : usual (S.take (k + 1)) = usual (S.take k) ++ usualN S[k].2.length := by
  unfold usual
  rw [List.take_succ_eq_append_getElem h, List.flatMap_append]
  simp
theorem usual_le : ∀ {S : List Seg}, (∀ x ∈ S, x.2.length ≤ 65536) → (usual S).length ≤ S.length * 65536
  | [], _ => by simp [usual]
  | x :: S, h => by
    have := usual_le (S := S) fun y hy => h y (by simp [hy])
    have h1 := h x (by simp)
    have h2 := usualN_le x.2.length
    have e : usual (x :: S) = usualN x.2.length ++ usual S := by simp [usual]
    rw [e, List.length_append, List.length_cons, Nat.succ_mul]
    omega
section
variable {V W : World}
set_option maxRecDepth 100000 in
set_option maxHeartbeats 1000000 in
theorem plainSizes_spec (hV : Sub V W) {s : Sl} {S : List Seg} (hs : SegsAt V s S) (hl : S.length ≤ 1000) (hd : ∀ x ∈ S, x.2.length ≤ 65536) : Ret Tryz.prog 45 [s.v].toArray W fun v w' => ∃ (V' : World) (r : Sl), Sub V V' ∧ Rel W V [] V' w' ∧ v = r.v ∧ SlF itC V' r (ints (usual S)) := by
  have H := Rel.start hV
  have hsl := hs.len
  obtain ⟨gs, hgs, hpw⟩ := hs
  have hgl := hpw.len
  refine cal_of_vc tabOk Tryz.func45 rfl (by kernel_rfl) 24 rfl (by simp) [0, 2, 3, 5, 6, 7, 8, 9, 10, 15, 16] ?_
  (first | (refine H.wh ?_; clear H; intros; rename_i w H; constructor) | refine wk ?_)
  ((first | refine Rel.nwD H ?_ | refine Rel.nw H ?_); clear H; intro w b3 H)
  (first | (refine H.wg ?_; clear H; intros; rename_i w H; constructor) | refine wk ?_)
  replace H := H.rowNil 3 1
  refine loop_invD (S := Nat × Sl × List Nat) tabOk [0, 2, 3, 7, 8, 16] (fun q => [(9, iv q.1)]) (fun q => q.2.2.map col) (fun q w' => q.1 ≤ S.length ∧ q.2.2.Pairwise (fun a b => b < a) ∧ ∃ V3, Sub V V3 ∧ Rel W V (.row q.2.1 3 1 ((ints (usual (S.take q.1))).flatMap itC) :: .blk b3 [q.2.1.v] 55 :: q.2.2.map dob) V3 w') (fun q _ => S.length - q.1) (0, ⟨none, 0, 0⟩, []) rfl ?_
  (conv => whnf)
  refine ⟨(by repeat (first | exact trivial | refine ⟨rfl, ?_⟩)), ⟨by omega, List.Pairwise.nil, V, Sub.refl _, H⟩, ?_⟩
  clear H
  rintro ⟨kk, r0, Ds⟩ w ⟨hkk, hDs, V3, hV3, H⟩
  dsimp only at hkk hDs H ⊢
  by_cases hlt : kk < S.length
  · obtain ⟨p0, c0, c1⟩ := (hgs.up hV3).at2 (g := fun h : Nat × Sl => iv (h.1 : Int)) (g' := fun h : Nat × Sl => h.2.v) (fun _ => rfl) (i := kk) (by omega)
    have hR := hpw.all kk _ _ (List.getElem?_eq_getElem (by omega)) (List.getElem?_eq_getElem hlt)
    obtain ⟨x, hx⟩ : ∃ x, x = gs[kk]'(by omega) := ⟨_, rfl⟩
    obtain ⟨y, hy⟩ : ∃ y, y = S[kk] := ⟨_, rfl⟩
    rw [← hx, ← hy] at hR
    rw [← hx] at c0 c1
    have hyl := hd y (by rw [hy]; exact List.getElem_mem hlt)
    have hus := usual_le (S := S.take kk) fun z hz => hd z (List.mem_of_mem_take hz)
    rw [List.length_take] at hus
    have hsn := usual_snoc hlt
    rw [← hy] at hsn
    obtain ⟨xa, xs⟩ := x
    obtain ⟨_, hby⟩ := hR
    dsimp only at hby c0 c1
    have hbl := hby.len
    (first | (refine H.wh ?_; clear H; intros; rename_i w H; constructor) | refine wk ?_)
    ((first | refine Rel.nwD H ?_ | refine Rel.nw H ?_); clear H; intro w b5 H)
    (first | (refine H.wg ?_; clear H; intros; rename_i w H; constructor) | refine wk ?_)
    refine (chunks_spec H.data xs (n := 16) (by decide)).use ?_
    rintro v w ⟨b, c, rfl, V4, hV4, K, hb, hc⟩
    (have hKb := K.base; replace H := H.call0 K)
    (first | (refine H.wg ?_; clear H; intros; rename_i w H; constructor) | refine wk ?_)
    have hDl : ∀ D ∈ Ds, D < w.heap.size := fun D hD => (Array.getElem?_eq_some_iff.1 (H.laid (dob D) (by simp [hD]))).1
    have hB0 := H.base.size
    have hcell : ∀ (b' : Nat) (l' : List Value) (t' : TypeId) (r' : Sl) (e' n' : Nat) (c' : List Value) (b2 : Nat) (l2 : List Value) (t2 : TypeId), (Res.blk b' l' t' :: Res.row r' e' n' c' :: Res.blk b2 l2 t2 :: Ds.map dob).all (Res.isB w.heap.size) = true := fun _ _ _ _ _ _ _ _ _ _ => by
      simp only [List.all_cons, dob_isB hDl]
      rfl
    have hV34 := hV3.trans hV4
    refine range_relB tabOk rfl (by (conv => whnf)) (chunk_iter (m := (usualN y.2.length).length) hb hc (hby.up hV34) (by omega) (by omega) (by omega) (usualN_cnt y.2.length)) ?_ rfl (σ := Sl)
      (fun k r => .blk b5 [iv (xa : Int), xs.v] 83 :: .row r 3 1 ((ints (usual (S.take kk) ++ (usualN y.2.length).take k)).flatMap itC) :: .blk b3 [r.v] 55 :: Ds.map dob) (fun _ _ => hcell _ _ _ _ _ _ _ _ _ _)
      (fun _ _ _ => True) r0 (Sub.refl _) (by rw [List.take_zero, List.append_nil]; exact H) trivial ?_ ?_
    · intro z hz
      obtain ⟨i, _, rfl⟩ := List.mem_map.1 hz
      rfl
    · clear H
      rintro L k z w r V5 hz hV5 _ H
      have hk : k < (usualN y.2.length).length := by
        have := (List.getElem?_eq_some_iff.1 hz).1
        rwa [chunks_len] at this
      rw [chunks_at hk] at hz
      cases hz
      have hk16 := (usualN_cnt y.2.length k).1 hk
      have hug := usualN_get hk16
      have hul := usualN_le y.2.length
      (conv => whnf)
      refine ⟨rfl, Keep.refl _ _, fun w' htw => ?_⟩
      obtain ⟨X, H, hX⟩ := (H.twB (hcell _ _ _ _ _ _ _ _ _ _) hB0 htw).marksB (hcell _ _ _ _ _ _ _ _ _ _) hB0
      simp only [List.cons_append] at H
      clear htw
      generalize w' = w at H hX ⊢
      (first | (refine H.wg ?_; clear H; intros; rename_i w H; constructor) | refine wk ?_)
      have hks : (usualN y.2.length).take (k + 1) = (usualN y.2.length).take k ++ [(chSl xs 16 k).len] := by
        rw [List.take_succ_eq_append_getElem hk]
        rw [List.getElem?_eq_getElem hk] at hug
        rw [Option.some.inj hug]
        show _ = _ ++ [min 16 (xs.len - k * 16)]
        rw [hbl]
      refine Rel.app1_1 (f := itC) (l := ints (usual (S.take kk) ++ (usualN y.2.length).take k)) (x := (((chSl xs 16 k).len : Nat) : Int)) tabOk rfl rfl rfl rfl rfl (by decide) (fun _ => rfl) (by simp [Value.oneCell']) H (by show ((ints (usual (S.take kk) ++ (usualN y.2.length).take k)).length + 1) * 8 ≤ _; simp only [List.length_map, List.length_append, List.length_take]; omega) (by simp only [List.length_map, List.length_append, List.length_take]; omega) ?_
      clear H
      intro r1 w H
      (first | (refine H.wg ?_; clear H; intros; rename_i w H; constructor) | refine wk ?_)
      refine ⟨hX _ (fun r hr => H.laid r (by simp [hr])), V5, r1, hV5, trivial, ?_⟩
      rw [hks, ← List.append_assoc, show ints (usual (S.take kk) ++ (usualN y.2.length).take k ++ [(chSl xs 16 k).len]) = ints (usual (S.take kk) ++ (usualN y.2.length).take k) ++ [(((chSl xs 16 k).len : Nat) : Int)] by simp]
      exact H.sl (.cons_cons _ (.cons_cons _ (.cons_cons _ (List.sublist_append_left _ _))))
    · clear H
      rintro D w r V5 hD hV5 _ H
      rw [chunks_len, List.take_length] at H
      rw [← hsn] at H
      (first | (refine H.wg ?_; clear H; intros; rename_i w H; constructor) | refine wk ?_)
      have H1 := (H.sl (List.Sublist.cons _ (List.Sublist.refl _))).perm (List.Perm.cons _ (List.Perm.cons _ (List.perm_append_singleton (dob D) (Ds.map dob))))
      exact ⟨(by repeat (first | exact trivial | refine ⟨rfl, ?_⟩)), (kk + 1, r, D :: Ds), rfl, (by repeat (first | exact trivial | refine ⟨rfl, ?_⟩)), ⟨by dsimp only; omega, List.pairwise_cons.2 ⟨fun D' hD' => by have := hDl D' hD'; omega, hDs⟩, V5, hV34.trans hV5, H1⟩, by dsimp only; omega⟩
  · obtain rfl : kk = S.length := by omega
    rw [List.take_length] at H
    obtain ⟨V4, hV4, H, hr⟩ := Rel.freezeF H (fun _ => rfl) (by decide)
    (first | (refine H.wg ?_; clear H; intros; rename_i w H; constructor) | refine wk ?_)
    refine Rel.marksEnd (own := [.blk b3 [r0.v] 55]) rfl hDs H fun w' H => ?_
    (first | (refine H.wg ?_; clear H; intros; rename_i w H; constructor) | refine wk ?_)
    exact ⟨V4, r0, hV3.trans hV4, H.sx, rfl, hr⟩
end
end Go.Proofs.YtjfcpnlacodjjaaGreat
