/-
  Pictures: runs, packing.
-/
import Derived.Test.YtgnaojphgdaalaaGreatPicP
import Derived.Test.YtgnaojphgdaalaaGreatVcQ
namespace Go.Proofs.YtgnaojphgdaalaaGreat
open Go Go.RowKit

theorem runOf_step {l : List UInt8} {k : Nat} (hk : k < l.length) (h9 : k < 129) (h : runOf l = k + runB (l.headD 0) (129 - k) (l.drop k)) : runOf l = if l[k].toNat = (l[0]'(by omega)).toNat then k + 1 + runB (l.headD 0) (129 - (k + 1)) (l.drop (k + 1)) else k := by
  obtain ⟨m, hm⟩ : ∃ m, 129 - k = m + 1 := ⟨128 - k, by omega⟩
  rw [hm, runB_step _ _ hk] at h
  rw [show 129 - (k + 1) = m by omega]
  have e : l.headD 0 = l[0]'(by omega) := by cases l with | nil => simp at hk | cons y l => rfl
  by_cases hx : l[k] = l.headD 0
  · rw [if_pos hx] at h
    rw [if_pos (by rw [hx, e])]
    omega
  · rw [if_neg hx] at h
    rw [if_neg (fun q => hx (by rw [e]; exact UInt8.toNat_inj.1 q))]
    omega
section
variable {V W : World}
set_option maxRecDepth 100000 in
theorem run_spec (hV : Sub V W) {s : Sl} {l : List UInt8} (hs : Byt V s l) (hl : l.length ≤ 1099511627776) : Ret Tryz.prog 71 [s.v].toArray W fun v w' => v = iv ((runOf l : Nat) : Int) ∧ Rel W V [] V w' := by
  have H := Rel.start hV
  have hlen := hs.len
  refine cal_of_vc tabOk Tryz.func71 rfl (by kernel_rfl) 25 rfl (by simp) [0, 2, 3, 21] ?_
  (first | (refine H.wg ?_; clear H; intros; rename_i w H; constructor) | refine wk ?_)
  refine loop_inv (S := Nat) tabOk [0, 2] (fun k => [(0, s.v), (3, iv k)]) (fun k w' => k ≤ l.length ∧ k ≤ 129 ∧ runOf l = k + runB (l.headD 0) (129 - k) (l.drop k) ∧ Rel W V [] V w') (fun k _ => l.length - k) 0 ?_
  (conv => whnf)
  refine ⟨(by repeat (first | exact trivial | refine ⟨rfl, ?_⟩)), ⟨by omega, by omega, by show runOf l = 0 + runB (l.headD 0) 129 (l.drop 0); rw [Nat.zero_add, List.drop_zero]; rfl, H⟩, ?_⟩
  clear H
  rintro k w ⟨hk, h9, hr, H⟩
  by_cases hlt : k < l.length
  rotate_left
  · rw [runB_end _ _ (by omega)] at hr
    (first | (refine H.wg ?_; clear H; intros; rename_i w H; constructor) | refine wk ?_)
    ((first | refine draw_vc (id := 2) tabOk mixed [] [0, 1, 2, 3, 4, 5, 6, 7, 8, 9, 10, 11, 12, 13, 14, 15, 16, 17] (by kernel_rfl) ?_); intro w hdw; replace H := Rel.ext H hdw.ext)
    (first | (refine H.wg ?_; clear H; intros; rename_i w H; constructor) | refine wk ?_)
    exact ⟨congrArg (fun n : Nat => iv n) (hr.trans (Nat.add_zero k)).symm, H.sx⟩
  by_cases h129 : k < 129
  rotate_left
  · rw [show 129 - k = 0 by omega] at hr
    simp only [runB] at hr
    (first | (refine H.wg ?_; clear H; intros; rename_i w H; constructor) | refine wk ?_)
    ((first | refine draw_vc (id := 2) tabOk mixed [] [0, 1, 2, 3, 4, 5, 6, 7, 8, 9, 10, 11, 12, 13, 14, 15, 16, 17] (by kernel_rfl) ?_); intro w hdw; replace H := Rel.ext H hdw.ext)
    (first | (refine H.wg ?_; clear H; intros; rename_i w H; constructor) | refine wk ?_)
    exact ⟨congrArg (fun n : Nat => iv n) (hr.trans (Nat.add_zero k)).symm, H.sx⟩
  have hr := runOf_step hlt h129 hr
  obtain ⟨p1, c1⟩ := hs.at1 (g := bv) (fun _ => rfl) hlt
  obtain ⟨p0, c0⟩ := hs.at1 (g := bv) (fun _ => rfl) (show 0 < l.length by omega)
  by_cases he : l[k].toNat = l[0].toNat
  · rw [if_pos he] at hr
    (first | (refine H.wg ?_; clear H; intros; rename_i w H; constructor) | refine wk ?_)
    ((first | refine draw_vc (id := 2) tabOk mixed [] [0, 1, 2, 3, 4, 5, 6, 7, 8, 9, 10, 11, 12, 13, 14, 15, 16, 17] (by kernel_rfl) ?_); intro w hdw; replace H := Rel.ext H hdw.ext)
    (first | (refine H.wg ?_; clear H; intros; rename_i w H; constructor) | refine wk ?_)
    exact ⟨(by repeat (first | exact trivial | refine ⟨rfl, ?_⟩)), k + 1, (by repeat (first | exact trivial | refine ⟨rfl, ?_⟩)), ⟨by omega, by omega, hr, H⟩, by omega⟩
  · rw [if_neg he] at hr
    (first | (refine H.wg ?_; clear H; intros; rename_i w H; constructor) | refine wk ?_)
    ((first | refine draw_vc (id := 2) tabOk mixed [] [0, 1, 2, 3, 4, 5, 6, 7, 8, 9, 10, 11, 12, 13, 14, 15, 16, 17] (by kernel_rfl) ?_); intro w hdw; replace H := Rel.ext H hdw.ext)
    (first | (refine H.wg ?_; clear H; intros; rename_i w H; constructor) | refine wk ?_)
    exact ⟨congrArg (fun n : Nat => iv n) hr.symm, H.sx⟩
theorem Byt.rest {q : Sl} {X : List UInt8} (h : Byt V q X) {k : Nat} (hk : k ≤ X.length) : Byt V ⟨subA q.a k q.cap 1, q.len - k, q.cap - k⟩ (X.drop k) := by
  have := SlF.sub h (n := 1) (fun _ => rfl) (a := k) (b := X.length) hk (Nat.le_refl _)
  rw [List.take_length] at this
  rw [h.len]
  exact this
theorem Byt.head {q : Sl} {X : List UInt8} (h : Byt V q X) {k : Nat} (hk : k ≤ X.length) : Byt V ⟨subA q.a 0 q.cap 1, k, q.cap⟩ (X.take k) := SlF.sub h (n := 1) (fun _ => rfl) (a := 0) (b := k) (Nat.zero_le _) hk
theorem pack_cells {X : List UInt8} {n : Nat} (hn : n ≤ 129) {y : UInt8} (hy : y = X.headD 0) : [Value.int .u8 (wr .u8 (126 + (n : Int))), bv y] = [UInt8.ofNat (126 + n), X.headD 0].flatMap byC := by
  have e1 : wr .u8 (126 + (n : Int)) = ((126 + n : Nat) : Int) := by show (126 + (n : Int)) % 256 = _; omega
  have e2 : (UInt8.ofNat (126 + n)).toNat = 126 + n := by rw [UInt8.toNat_ofNat']; omega
  simp only [List.flatMap_cons, List.flatMap_nil, byC, bv, List.cons_append, List.nil_append, e1, e2, hy]
theorem lit_cells {k : Nat} (h1 : 1 ≤ k) (h2 : k ≤ 128) : [Value.int .u8 (wr .u8 ((k : Int) - 1))] = [UInt8.ofNat (k - 1)].flatMap byC := by
  have e1 : wr .u8 ((k : Int) - 1) = ((k - 1 : Nat) : Int) := by show ((k : Int) - 1) % 256 = _; omega
  have e2 : (UInt8.ofNat (k - 1)).toNat = k - 1 := by rw [UInt8.toNat_ofNat']; omega
  simp only [List.flatMap_cons, List.flatMap_nil, byC, bv, List.append_nil, e1, e2]
set_option maxRecDepth 100000 in
theorem pack_spec (hV : Sub V W) {s : Sl} {l : List UInt8} (hs : Byt V s l) (hl : l.length ≤ 100000000) : Ret Tryz.prog 48 [s.v].toArray W fun v w' => ∃ r : Sl, v = r.v ∧ Rel W V [.row r 5 1 ((packB l).flatMap byC)] V w' := by
  have H := Rel.start hV
  have hlen := hs.len
  refine cal_of_vc tabOk Tryz.func48 rfl (by kernel_rfl) 56 rfl (by simp) [0, 2, 3, 4, 5, 8, 12, 39] ?_
  (first | (refine H.wg ?_; clear H; intros; rename_i w H; constructor) | refine wk ?_)
  replace H := H.rowNil 5 1
  refine loop_inv (S := Sl × List UInt8 × Sl × List UInt8) tabOk [2] (fun k => [(0, k.1.v), (3, k.2.2.1.v)]) (fun k w' => Byt V k.1 k.2.1 ∧ packB l = k.2.2.2 ++ packB k.2.1 ∧ k.2.1.length ≤ l.length ∧ k.2.2.2.length + 2 * k.2.1.length ≤ 2 * l.length ∧ Rel W V [.row k.2.2.1 5 1 (k.2.2.2.flatMap byC)] V w') (fun k _ => k.2.1.length) (s, l, ⟨none, 0, 0⟩, []) ?_
  (conv => whnf)
  refine ⟨(by repeat (first | exact trivial | refine ⟨rfl, ?_⟩)), ⟨hs, rfl, Nat.le_refl _, by simp, H⟩, ?_⟩
  clear H
  rintro ⟨q, X, r, O⟩ w ⟨hq, hp, hX, hO, H⟩
  dsimp only at hq hp hX hO H ⊢
  have hql := hq.len
  have hqc := hq.cap
  by_cases h0 : X.length = 0
  · rw [List.eq_nil_of_length_eq_zero h0, packB_nil, List.append_nil] at hp
    (first | (refine H.wg ?_; clear H; intros; rename_i w H; constructor) | refine wk ?_)
    exact ⟨r, rfl, by rw [hp]; exact H⟩
  have hne : X ≠ [] := fun h => h0 (by rw [h]; rfl)
  obtain ⟨p0, c0⟩ := hq.at1 (g := bv) (fun _ => rfl) (show 0 < X.length by omega)
  have c0h : X[0]'(by omega) = X.headD 0 := by cases X with | nil => exact absurd rfl hne | cons y l => rfl
  (first | (refine H.wg ?_; clear H; intros; rename_i w H; constructor) | refine wk ?_)
  refine (run_spec H.data hq (by omega)).use ?_
  rintro v w ⟨rfl, K⟩
  (have hKb := K.base; replace H := H.call0 K)
  have hr := runOf_le X
  have hrp := runOf_pos hne
  by_cases h3 : 3 ≤ runOf X
  · have hf := hq.rest hr.2
    (first | (refine H.wh ?_; clear H; intros; rename_i w H; constructor) | refine wk ?_)
    ((first | refine Rel.nwD H ?_ | refine Rel.nw H ?_); clear H; intro w _ H)
    (first | (refine H.wh ?_; clear H; intros; rename_i w H; constructor) | refine wk ?_)
    replace H := H.blkEq (pack_cells hr.1 c0h)
    replace H := H.toRow (n := 2) (e := 5) (sz := 1) rfl (by simp [maxLen])
    refine Rel.appB H (i := 0) rfl (by simp only [List.length_cons, List.length_nil]; omega) ?_
    clear H
    intro r1 w H
    simp only [List.set_cons_zero] at H
    (first | (refine H.wg ?_; clear H; intros; rename_i w H; constructor) | refine wk ?_)
    exact ⟨(by repeat (first | exact trivial | refine ⟨rfl, ?_⟩)), (_, X.drop (runOf X), r1, O ++ [UInt8.ofNat (126 + runOf X), X.headD 0]), (by repeat (first | exact trivial | refine ⟨rfl, ?_⟩)), ⟨hf, by rw [hp, packB_run h3]; simp, by rw [List.length_drop]; omega, by simp only [List.length_append, List.length_drop, List.length_cons, List.length_nil]; omega, H⟩, by rw [List.length_drop]; omega⟩
  have hlo := litOf_le hne
  (first | (refine H.wg ?_; clear H; intros; rename_i w H; constructor) | refine wk ?_)
  refine loop_inv (S := Nat) tabOk [0, 2, 3, 4, 8, 12] (fun k => [(0, q.v), (3, r.v), (5, iv k)]) (fun k w' => 1 ≤ k ∧ k ≤ X.length ∧ k ≤ 128 ∧ litOf X = k + litB (128 - k) (X.drop k) ∧ Rel W V [.row r 5 1 (O.flatMap byC)] V w') (fun k _ => X.length - k) 1 ?_
  (conv => whnf)
  refine ⟨(by repeat (first | exact trivial | refine ⟨rfl, ?_⟩)), ⟨by omega, by omega, by omega, rfl, H⟩, ?_⟩
  clear H
  rintro k w ⟨hk1, hkl, hk8, hlk, H⟩
  dsimp only at hk1 hkl hk8 hlk H ⊢
  by_cases hlt : k < X.length
  rotate_left
  · rw [litB_end _ (by omega)] at hlk
    (first | (refine H.wg ?_; clear H; intros; rename_i w H; constructor) | refine wk ?_)
    ((first | refine draw_vcTX (id := 10) tabOk mixed (Kv V) Kv.trans [] [] [0, 1, 2, 3, 6, 7, 8, 4, 5, 9, 10] [(4, []), (5, [4]), (9, [4, 5])] (by kernel_rfl) ?_); intro w hdw; replace H := Rel.ext H hdw.ext)
    repeat' ((first | (refine H.wh ?_; clear H; intros; rename_i w H; constructor) | refine wk ?_); (first | refine Kv.go H ?_ | refine Kv.go2 H (by assumption) ?_ | (refine And.intro (fun w1 hkp => ?_) ?_; focus ((first | have H := Kv.in H hkp | have H := Kv.in2 H (by assumption) hkp); ((repeat ((conv => whnf); first | refine an ?_ | refine H.ce ?_ | refine H.db ?_ | refine ea ?_ | refine ol ?_ | fail | refine cT ?_ | refine cF ?_ | refine cN ?_ | refine cM ?_ | refine H.lw ?_ | refine H.ll ?_)); (conv => whnf)); all_goals (first | exact ⟨rfl, rfl⟩ | exact rfl))) | refine And.intro ?_ ?_ | ((first | refine Rel.nwD H ?_ | refine Rel.nw H ?_); clear H; intro w _ H)))
    (first | (refine H.wh ?_; clear H; intros; rename_i w H; constructor) | refine wk ?_)
    replace H := H.blkEq (lit_cells hk1 hk8)
    replace H := H.toRow (n := 1) (e := 5) (sz := 1) rfl (by simp [maxLen])
    refine Rel.appB H (i := 0) rfl (by simp only [List.length_cons, List.length_nil]; omega) ?_
    clear H
    intro r1 w H
    simp only [List.set_cons_zero] at H
    repeat' ((first | (refine H.wh ?_; clear H; intros; rename_i w H; constructor) | refine wk ?_); (first | refine Kv.go H ?_ | refine Kv.go2 H (by assumption) ?_ | (refine And.intro (fun w1 hkp => ?_) ?_; focus ((first | have H := Kv.in H hkp | have H := Kv.in2 H (by assumption) hkp); ((repeat ((conv => whnf); first | refine an ?_ | refine H.ce ?_ | refine H.db ?_ | refine ea ?_ | refine ol ?_ | fail | refine cT ?_ | refine cF ?_ | refine cN ?_ | refine cM ?_ | refine H.lw ?_ | refine H.ll ?_)); (conv => whnf)); all_goals (first | exact ⟨rfl, rfl⟩ | exact rfl))) | refine And.intro ?_ ?_ | ((first | refine Rel.nwD H ?_ | refine Rel.nw H ?_); clear H; intro w _ H)))
    (first | (refine H.wh ?_; clear H; intros; rename_i w H; constructor) | refine wk ?_)
    refine Rel.appD H (i := 0) rfl (hq.head hkl) (by simp only [List.length_append, List.length_cons, List.length_nil, List.length_take]; omega) ?_
    clear H
    intro r2 w H
    simp only [List.set_cons_zero] at H
    repeat' ((first | (refine H.wh ?_; clear H; intros; rename_i w H; constructor) | refine wk ?_); (first | refine Kv.go H ?_ | refine Kv.go2 H (by assumption) ?_ | (refine And.intro (fun w1 hkp => ?_) ?_; focus ((first | have H := Kv.in H hkp | have H := Kv.in2 H (by assumption) hkp); ((repeat ((conv => whnf); first | refine an ?_ | refine H.ce ?_ | refine H.db ?_ | refine ea ?_ | refine ol ?_ | fail | refine cT ?_ | refine cF ?_ | refine cN ?_ | refine cM ?_ | refine H.lw ?_ | refine H.ll ?_)); (conv => whnf)); all_goals (first | exact ⟨rfl, rfl⟩ | exact rfl))) | refine And.intro ?_ ?_ | ((first | refine Rel.nwD H ?_ | refine Rel.nw H ?_); clear H; intro w _ H)))
    · trivial
    have hf := hq.rest hkl
    exact ⟨(_, X.drop k, r2, O ++ [UInt8.ofNat (k - 1)] ++ X.take k), (by repeat (first | exact trivial | refine ⟨rfl, ?_⟩)), ⟨hf, by rw [hp, packB_lit hne (by omega), hlk]; simp, by rw [List.length_drop]; omega, by simp only [List.length_append, List.length_drop, List.length_cons, List.length_nil, List.length_take]; omega, H⟩, by rw [List.length_drop]; omega⟩
  by_cases h128 : k < 128
  rotate_left
  · rw [show 128 - k = 0 by omega] at hlk
    simp only [litB] at hlk
    (first | (refine H.wg ?_; clear H; intros; rename_i w H; constructor) | refine wk ?_)
    ((first | refine draw_vcTX (id := 10) tabOk mixed (Kv V) Kv.trans [] [] [0, 1, 2, 3, 6, 7, 8, 4, 5, 9, 10] [(4, []), (5, [4]), (9, [4, 5])] (by kernel_rfl) ?_); intro w hdw; replace H := Rel.ext H hdw.ext)
    repeat' ((first | (refine H.wh ?_; clear H; intros; rename_i w H; constructor) | refine wk ?_); (first | refine Kv.go H ?_ | refine Kv.go2 H (by assumption) ?_ | (refine And.intro (fun w1 hkp => ?_) ?_; focus ((first | have H := Kv.in H hkp | have H := Kv.in2 H (by assumption) hkp); ((repeat ((conv => whnf); first | refine an ?_ | refine H.ce ?_ | refine H.db ?_ | refine ea ?_ | refine ol ?_ | fail | refine cT ?_ | refine cF ?_ | refine cN ?_ | refine cM ?_ | refine H.lw ?_ | refine H.ll ?_)); (conv => whnf)); all_goals (first | exact ⟨rfl, rfl⟩ | exact rfl))) | refine And.intro ?_ ?_ | ((first | refine Rel.nwD H ?_ | refine Rel.nw H ?_); clear H; intro w _ H)))
    (first | (refine H.wh ?_; clear H; intros; rename_i w H; constructor) | refine wk ?_)
    replace H := H.blkEq (lit_cells hk1 hk8)
    replace H := H.toRow (n := 1) (e := 5) (sz := 1) rfl (by simp [maxLen])
    refine Rel.appB H (i := 0) rfl (by simp only [List.length_cons, List.length_nil]; omega) ?_
    clear H
    intro r1 w H
    simp only [List.set_cons_zero] at H
    repeat' ((first | (refine H.wh ?_; clear H; intros; rename_i w H; constructor) | refine wk ?_); (first | refine Kv.go H ?_ | refine Kv.go2 H (by assumption) ?_ | (refine And.intro (fun w1 hkp => ?_) ?_; focus ((first | have H := Kv.in H hkp | have H := Kv.in2 H (by assumption) hkp); ((repeat ((conv => whnf); first | refine an ?_ | refine H.ce ?_ | refine H.db ?_ | refine ea ?_ | refine ol ?_ | fail | refine cT ?_ | refine cF ?_ | refine cN ?_ | refine cM ?_ | refine H.lw ?_ | refine H.ll ?_)); (conv => whnf)); all_goals (first | exact ⟨rfl, rfl⟩ | exact rfl))) | refine And.intro ?_ ?_ | ((first | refine Rel.nwD H ?_ | refine Rel.nw H ?_); clear H; intro w _ H)))
    (first | (refine H.wh ?_; clear H; intros; rename_i w H; constructor) | refine wk ?_)
    refine Rel.appD H (i := 0) rfl (hq.head hkl) (by simp only [List.length_append, List.length_cons, List.length_nil, List.length_take]; omega) ?_
    clear H
    intro r2 w H
    simp only [List.set_cons_zero] at H
    repeat' ((first | (refine H.wh ?_; clear H; intros; rename_i w H; constructor) | refine wk ?_); (first | refine Kv.go H ?_ | refine Kv.go2 H (by assumption) ?_ | (refine And.intro (fun w1 hkp => ?_) ?_; focus ((first | have H := Kv.in H hkp | have H := Kv.in2 H (by assumption) hkp); ((repeat ((conv => whnf); first | refine an ?_ | refine H.ce ?_ | refine H.db ?_ | refine ea ?_ | refine ol ?_ | fail | refine cT ?_ | refine cF ?_ | refine cN ?_ | refine cM ?_ | refine H.lw ?_ | refine H.ll ?_)); (conv => whnf)); all_goals (first | exact ⟨rfl, rfl⟩ | exact rfl))) | refine And.intro ?_ ?_ | ((first | refine Rel.nwD H ?_ | refine Rel.nw H ?_); clear H; intro w _ H)))
    · trivial
    have hf := hq.rest hkl
    exact ⟨(_, X.drop k, r2, O ++ [UInt8.ofNat (k - 1)] ++ X.take k), (by repeat (first | exact trivial | refine ⟨rfl, ?_⟩)), ⟨hf, by rw [hp, packB_lit hne (by omega), hlk]; simp, by rw [List.length_drop]; omega, by simp only [List.length_append, List.length_drop, List.length_cons, List.length_nil, List.length_take]; omega, H⟩, by rw [List.length_drop]; omega⟩
  have hkr := hq.rest hkl
  rw [show 128 - k = 127 - k + 1 by omega, litB_step _ hlt] at hlk
  (first | (refine H.wg ?_; clear H; intros; rename_i w H; constructor) | refine wk ?_)
  refine (run_spec H.data hkr (by rw [List.length_drop]; omega)).use ?_
  rintro v w ⟨rfl, K⟩
  (have hKb := K.base; replace H := H.call0 K)
  by_cases h4 : 3 ≤ runOf (X.drop k)
  · rw [if_pos h4] at hlk
    (first | (refine H.wg ?_; clear H; intros; rename_i w H; constructor) | refine wk ?_)
    ((first | refine draw_vcTX (id := 10) tabOk mixed (Kv V) Kv.trans [] [] [0, 1, 2, 3, 6, 7, 8, 4, 5, 9, 10] [(4, []), (5, [4]), (9, [4, 5])] (by kernel_rfl) ?_); intro w hdw; replace H := Rel.ext H hdw.ext)
    repeat' ((first | (refine H.wh ?_; clear H; intros; rename_i w H; constructor) | refine wk ?_); (first | refine Kv.go H ?_ | refine Kv.go2 H (by assumption) ?_ | (refine And.intro (fun w1 hkp => ?_) ?_; focus ((first | have H := Kv.in H hkp | have H := Kv.in2 H (by assumption) hkp); ((repeat ((conv => whnf); first | refine an ?_ | refine H.ce ?_ | refine H.db ?_ | refine ea ?_ | refine ol ?_ | fail | refine cT ?_ | refine cF ?_ | refine cN ?_ | refine cM ?_ | refine H.lw ?_ | refine H.ll ?_)); (conv => whnf)); all_goals (first | exact ⟨rfl, rfl⟩ | exact rfl))) | refine And.intro ?_ ?_ | ((first | refine Rel.nwD H ?_ | refine Rel.nw H ?_); clear H; intro w _ H)))
    (first | (refine H.wh ?_; clear H; intros; rename_i w H; constructor) | refine wk ?_)
    replace H := H.blkEq (lit_cells hk1 hk8)
    replace H := H.toRow (n := 1) (e := 5) (sz := 1) rfl (by simp [maxLen])
    refine Rel.appB H (i := 0) rfl (by simp only [List.length_cons, List.length_nil]; omega) ?_
    clear H
    intro r1 w H
    simp only [List.set_cons_zero] at H
    repeat' ((first | (refine H.wh ?_; clear H; intros; rename_i w H; constructor) | refine wk ?_); (first | refine Kv.go H ?_ | refine Kv.go2 H (by assumption) ?_ | (refine And.intro (fun w1 hkp => ?_) ?_; focus ((first | have H := Kv.in H hkp | have H := Kv.in2 H (by assumption) hkp); ((repeat ((conv => whnf); first | refine an ?_ | refine H.ce ?_ | refine H.db ?_ | refine ea ?_ | refine ol ?_ | fail | refine cT ?_ | refine cF ?_ | refine cN ?_ | refine cM ?_ | refine H.lw ?_ | refine H.ll ?_)); (conv => whnf)); all_goals (first | exact ⟨rfl, rfl⟩ | exact rfl))) | refine And.intro ?_ ?_ | ((first | refine Rel.nwD H ?_ | refine Rel.nw H ?_); clear H; intro w _ H)))
    (first | (refine H.wh ?_; clear H; intros; rename_i w H; constructor) | refine wk ?_)
    refine Rel.appD H (i := 0) rfl (hq.head hkl) (by simp only [List.length_append, List.length_cons, List.length_nil, List.length_take]; omega) ?_
    clear H
    intro r2 w H
    simp only [List.set_cons_zero] at H
    repeat' ((first | (refine H.wh ?_; clear H; intros; rename_i w H; constructor) | refine wk ?_); (first | refine Kv.go H ?_ | refine Kv.go2 H (by assumption) ?_ | (refine And.intro (fun w1 hkp => ?_) ?_; focus ((first | have H := Kv.in H hkp | have H := Kv.in2 H (by assumption) hkp); ((repeat ((conv => whnf); first | refine an ?_ | refine H.ce ?_ | refine H.db ?_ | refine ea ?_ | refine ol ?_ | fail | refine cT ?_ | refine cF ?_ | refine cN ?_ | refine cM ?_ | refine H.lw ?_ | refine H.ll ?_)); (conv => whnf)); all_goals (first | exact ⟨rfl, rfl⟩ | exact rfl))) | refine And.intro ?_ ?_ | ((first | refine Rel.nwD H ?_ | refine Rel.nw H ?_); clear H; intro w _ H)))
    · trivial
    have hf := hq.rest hkl
    exact ⟨(_, X.drop k, r2, O ++ [UInt8.ofNat (k - 1)] ++ X.take k), (by repeat (first | exact trivial | refine ⟨rfl, ?_⟩)), ⟨hf, by rw [hp, packB_lit hne (by omega), hlk]; simp, by rw [List.length_drop]; omega, by simp only [List.length_append, List.length_drop, List.length_cons, List.length_nil, List.length_take]; omega, H⟩, by rw [List.length_drop]; omega⟩
  rw [if_neg h4] at hlk
  (first | (refine H.wg ?_; clear H; intros; rename_i w H; constructor) | refine wk ?_)
  exact ⟨(by repeat (first | exact trivial | refine ⟨rfl, ?_⟩)), k + 1, (by repeat (first | exact trivial | refine ⟨rfl, ?_⟩)), ⟨by omega, by omega, by omega, by rw [show 128 - (k + 1) = 127 - k by omega]; omega, H⟩, by omega⟩
end
end Go.Proofs.YtgnaojphgdaalaaGreat
namespace Go.Proofs.YtgnaojphgdaalaaGreat
open Go Go.RowKit

abbrev styC (f : Nat) (p : Sl) : List Value := [iv (f : Int), p.v]
/-- the number of bits of a pixel -/
def bitsOf (f : Nat) : Nat := if f / 16 = 0 then 1 else if f / 16 = 1 then 4 else if f / 16 = 2 then 8 else 24
/-- the number of bytes of a row -/
def rowOf (f w : Nat) : Nat := (w * bitsOf f + 7) / 8
theorem bitsOf_le (f : Nat) : 1 ≤ bitsOf f ∧ bitsOf f ≤ 24 := by
  unfold bitsOf
  split
  · decide
  · split
    · decide
    · split <;> decide
theorem and_1 : ∀ f : Nat, f < 256 → bitsI .and .i64 (f : Int) 1 = ((f % 2 : Nat) : Int) := by decide +kernel
theorem and_2 : ∀ f : Nat, f < 256 → bitsI .and .i64 (f : Int) 2 = ((2 * (f / 2 % 2) : Nat) : Int) := by decide +kernel
section
variable {V W : World}
theorem fault_pic (hV : Sub V W) (c i : Int) : Ret Tryz.prog 18 [iv c, iv i].toArray W fun v w' => v = faultV c i ∧ Rel W V [] V w' := by
  have H := Rel.start hV
  refine cal_of_vc tabOk Tryz.func18 rfl (by kernel_rfl) 8 rfl (by simp) [0, 1, 4] ?_
  (first | (refine H.wg ?_; clear H; intros; rename_i w H; constructor) | refine wk ?_)
  exact H.sx
theorem depth_spec (hV : Sub V W) {f : Nat} (hf : f < 256) (p : Sl) : Ret Tryz.prog 36 [.agg (styC f p).toArray].toArray W fun v w' => v = iv ((f / 16 : Nat) : Int) ∧ Rel W V [] V w' := by
  have H := Rel.start hV
  refine cal_of_vc tabOk Tryz.func36 rfl (by kernel_rfl) 6 rfl (by simp) [0, 1, 2] ?_
  (first | (refine H.wh ?_; clear H; intros; rename_i w H; constructor) | refine wk ?_)
  ((first | refine Rel.nwD H ?_ | refine Rel.nw H ?_); clear H; intro w b1 H)
  (first | (refine H.wg ?_; clear H; intros; rename_i w H; constructor) | refine wk ?_)
  exact H.sx
theorem indexed_spec (hV : Sub V W) {f : Nat} (hf : f < 256) (p : Sl) : Ret Tryz.prog 39 [.agg (styC f p).toArray].toArray W fun v w' => v = .bool (decide (f < 32)) ∧ Rel W V [] V w' := by
  have H := Rel.start hV
  refine cal_of_vc tabOk Tryz.func39 rfl (by kernel_rfl) 6 rfl (by simp) [0, 1, 2] ?_
  (first | (refine H.wh ?_; clear H; intros; rename_i w H; constructor) | refine wk ?_)
  ((first | refine Rel.nwD H ?_ | refine Rel.nw H ?_); clear H; intro w b1 H)
  (first | (refine H.wg ?_; clear H; intros; rename_i w H; constructor) | refine wk ?_)
  refine (depth_spec H.data (by omega) p).use ?_
  rintro q w ⟨rfl, K⟩
  (have hKb := K.base; replace H := H.call0 K)
  (first | (refine H.wg ?_; clear H; intros; rename_i w H; constructor) | refine wk ?_)
  exact ⟨congrArg Value.bool (decide_eq_decide.2 (by omega)), H.sx⟩
theorem bits_spec (hV : Sub V W) {f : Nat} (hf : f < 64) (p : Sl) : Ret Tryz.prog 37 [.agg (styC f p).toArray].toArray W fun v w' => v = iv ((bitsOf f : Nat) : Int) ∧ Rel W V [] V w' := by
  have H := Rel.start hV
  refine cal_of_vc tabOk Tryz.func37 rfl (by kernel_rfl) 7 rfl (by simp) [0, 1, 2] ?_
  (first | (refine H.wh ?_; clear H; intros; rename_i w H; constructor) | refine wk ?_)
  ((first | refine Rel.nwD H ?_ | refine Rel.nw H ?_); clear H; intro w b1 H)
  (first | (refine H.wg ?_; clear H; intros; rename_i w H; constructor) | refine wk ?_)
  refine SemOk.of (v := .agg #[iv 1, iv 4, iv 8, iv 24]) (w' := w) (by kernel_rfl) ?_
  (first | (refine H.wg ?_; clear H; intros; rename_i w H; constructor) | refine wk ?_)
  refine (depth_spec H.data (by omega) p).use ?_
  rintro q w ⟨rfl, K⟩
  (have hKb := K.base; replace H := H.call0 K)
  unfold bitsOf
  obtain ⟨d, hd⟩ : ∃ d, d = f / 16 := ⟨_, rfl⟩
  rw [← hd]
  have : d = 0 ∨ d = 1 ∨ d = 2 ∨ d = 3 := by omega
  clear hd
  rcases this with rfl | rfl | rfl | rfl
  all_goals
    (first | (refine H.wg ?_; clear H; intros; rename_i w H; constructor) | refine wk ?_)
    exact H.sx
theorem rowSize_spec (hV : Sub V W) {f : Nat} (hf : f < 64) (p : Sl) {wd : Nat} (hw : wd ≤ 64) : Ret Tryz.prog 69 [.agg (styC f p).toArray, iv (wd : Int)].toArray W fun v w' => v = iv ((rowOf f wd : Nat) : Int) ∧ Rel W V [] V w' := by
  have H := Rel.start hV
  have hb := bitsOf_le f
  have hm : wd * bitsOf f ≤ 64 * 24 := Nat.mul_le_mul hw hb.2
  have hmi : (wd : Int) * ((bitsOf f : Nat) : Int) = ((wd * bitsOf f : Nat) : Int) := (Int.natCast_mul _ _).symm
  refine cal_of_vc tabOk Tryz.func69 rfl (by kernel_rfl) 11 rfl (by simp) [0, 1, 2, 4] ?_
  (first | (refine H.wh ?_; clear H; intros; rename_i w H; constructor) | refine wk ?_)
  ((first | refine Rel.nwD H ?_ | refine Rel.nw H ?_); clear H; intro w b1 H)
  (first | (refine H.wg ?_; clear H; intros; rename_i w H; constructor) | refine wk ?_)
  refine (bits_spec H.data hf p).use ?_
  rintro q w ⟨rfl, K⟩
  (have hKb := K.base; replace H := H.call0 K)
  (first | (refine H.wg ?_; clear H; intros; rename_i w H; constructor) | refine wk ?_)
  exact H.sx
theorem has1_spec (hV : Sub V W) {f : Nat} (hf : f < 256) (p : Sl) : Ret Tryz.prog 38 [.agg (styC f p).toArray, iv 1].toArray W fun v w' => v = .bool (decide (f % 2 = 1)) ∧ Rel W V [] V w' := by
  have H := Rel.start hV
  refine cal_of_vc tabOk Tryz.func38 rfl (by kernel_rfl) 10 rfl (by simp) [0, 1, 2, 4] ?_
  (first | (refine H.wh ?_; clear H; intros; rename_i w H; constructor) | refine wk ?_)
  ((first | refine Rel.nwD H ?_ | refine Rel.nw H ?_); clear H; intro w b1 H)
  (first | (refine H.wh ?_; clear H; intros; rename_i w H; constructor) | refine wk ?_)
  rw [and_1 f hf]
  (first | (refine H.wg ?_; clear H; intros; rename_i w H; constructor) | refine wk ?_)
  exact ⟨by first | exact congrArg Value.bool (decide_eq_decide.2 (by omega)) | (rw [← decide_not]; exact congrArg Value.bool (decide_eq_decide.2 (by omega))), H.sx⟩
theorem has2_spec (hV : Sub V W) {f : Nat} (hf : f < 256) (p : Sl) : Ret Tryz.prog 38 [.agg (styC f p).toArray, iv 2].toArray W fun v w' => v = .bool (decide (f / 2 % 2 = 1)) ∧ Rel W V [] V w' := by
  have H := Rel.start hV
  refine cal_of_vc tabOk Tryz.func38 rfl (by kernel_rfl) 10 rfl (by simp) [0, 1, 2, 4] ?_
  (first | (refine H.wh ?_; clear H; intros; rename_i w H; constructor) | refine wk ?_)
  ((first | refine Rel.nwD H ?_ | refine Rel.nw H ?_); clear H; intro w b1 H)
  (first | (refine H.wh ?_; clear H; intros; rename_i w H; constructor) | refine wk ?_)
  rw [and_2 f hf]
  (first | (refine H.wg ?_; clear H; intros; rename_i w H; constructor) | refine wk ?_)
  exact ⟨by first | exact congrArg Value.bool (decide_eq_decide.2 (by omega)) | (rw [← decide_not]; exact congrArg Value.bool (decide_eq_decide.2 (by omega))), H.sx⟩
theorem validFlags_spec (f : Nat) (w : World) (hf : f < 256) : Ret Tryz.prog 43 [iv (f : Int)].toArray w fun v w' => v = .bool (decide (f < 64 ∧ f % 16 < 4)) ∧ w = w' := by
  refine cal_of_vc tabOk Tryz.func43 rfl (by kernel_rfl) 11 rfl (by simp) [0, 2] ?_
  by_cases h1 : f < 64
  · (first | (refine H.wg ?_; clear H; intros; rename_i w H; constructor) | refine wk ?_)
    exact ⟨congrArg Value.bool (decide_eq_decide.2 (by omega)), rfl⟩
  · (first | (refine H.wg ?_; clear H; intros; rename_i w H; constructor) | refine wk ?_)
    exact ⟨(congrArg Value.bool (decide_eq_false (fun h => h1 h.1))).symm, rfl⟩
theorem flagsOk_ref (f : Nat) (w : World) (hf : f < 256) : Ret Tryz.prog 54 [iv (f : Int)].toArray w fun v w' => v = .bool (decide (f < 64 ∧ f % 16 < 4)) ∧ w = w' := by
  refine cal_of_vc tabOk Tryz.func54 rfl (by kernel_rfl) 10 rfl (by simp) [0, 2] ?_
  (first | (refine H.wg ?_; clear H; intros; rename_i w H; constructor) | refine wk ?_)
  refine (in_ref (f : Int) 0 63 w).use ?_
  rintro q w' ⟨rfl, rfl⟩
  by_cases h1 : f < 64
  · rw [decide_eq_true (show (0 : Int) ≤ f ∧ (f : Int) ≤ 63 by omega)]
    (first | (refine H.wg ?_; clear H; intros; rename_i w H; constructor) | refine wk ?_)
    exact ⟨congrArg Value.bool (decide_eq_decide.2 (by omega)), rfl⟩
  · rw [decide_eq_false (show ¬ ((0 : Int) ≤ f ∧ (f : Int) ≤ 63) by omega)]
    (first | (refine H.wg ?_; clear H; intros; rename_i w H; constructor) | refine wk ?_)
    exact ⟨(congrArg Value.bool (decide_eq_false (fun h => h1 h.1))).symm, rfl⟩
end
end Go.Proofs.YtgnaojphgdaalaaGreat
