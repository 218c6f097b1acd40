/-
  Text files: residues are read.
-/
import Derived.Test.YtgnaojphgdaalaaDoorTxtE
namespace Go.Proofs.YtgnaojphgdaalaaDoor
open Go Go.RowKit

structure RdTR (W V : World) (o : Option (Nat × List Run)) (v : Value) (w' : World) : Prop where
  ex : ∃ (V' : World) (e : Int) (r : Sl), Sub V V' ∧ Rel W V [] V' w' ∧ (match o with
    | none => v = .tuple #[.agg (resC e r).toArray, .bool false]
    | some (e', rs) => e = e' ∧ v = .tuple #[.agg (resC e r).toArray, .bool true] ∧ SlF rnC V' r (runsI rs))
theorem runAt_in {l : List UInt8} : ∀ q x q', q ≤ l.length → runAt l q = .ok x q' → q' ≤ l.length := fun q x q' hq h => (runAt_ok hq h).2.1
theorem lastI_take {xs : List RunI} {k : Nat} (hk : k < xs.length) : lastI 3 (xs.take (k + 1)) = (xs[k]).1 := by rw [List.take_succ_eq_append_getElem hk, lastI_snoc]
theorem runsOk_pos : ∀ {rs : List Run} {p : Nat}, runsOk p rs → ∀ r ∈ rs, 1 ≤ r.2
  | [], _, _ => by simp
  | x :: rs, p, h => by
    obtain ⟨h1, h2, h3, h4⟩ := h
    intro r hr
    rcases List.mem_cons.1 hr with rfl | hr
    · exact h2
    · exact runsOk_pos h4 r hr
theorem manyRun_i64 {b : List UInt8} : ∀ (n p q : Nat) (l : List RunI), p ≤ b.length → manyAt (runAt b) n p = .ok l q → ∀ y ∈ l, I64 y.1 ∧ I64 y.2
  | 0, p, q, l, hp, h => by
    simp only [manyAt] at h
    cases h
    simp
  | n + 1, p, q, l, hp, h => by
    simp only [manyAt] at h
    split at h
    · cases h
    · rename_i x q1 h1
      split at h
      · cases h
      · rename_i l' r h2
        cases h
        obtain ⟨a1, a2, a3, a4, a5⟩ := runAt_ok hp h1
        intro y hy
        rcases List.mem_cons.1 hy with rfl | hy
        · exact ⟨a4, a5⟩
        · exact manyRun_i64 n q1 _ _ a2 h2 y hy
theorem listRun_i64 {b : List UInt8} {m : Int} {p q : Nat} {l : List RunI} (hp : p ≤ b.length) (h : listAt b (runAt b) m p = .ok l q) : ∀ y ∈ l, I64 y.1 ∧ I64 y.2 := by
  unfold listAt at h
  split at h
  · cases h
  · rename_i h1
    split at h
    · cases h
    · exact manyRun_i64 _ _ _ _ (numAt_ok hp h1).2.1 h
section
variable {V W : World}
set_option maxRecDepth 100000 in
theorem readRun_spec {s : Sl} {l : List UInt8} (hs : Byt V s l) (hl : l.length ≤ 1099511627776) {p : Nat} (hp : p ≤ l.length) : Reads V 64 [] s (fun p => .agg (rnC p).toArray) (fun _ x y => x = y) p (runAt l p) := by
  intro V1 W1 h1 h2
  have H := Rel.start h2
  have hs1 := hs.up h1
  have hlen := hs1.len
  refine cal_of_vc tabOk Tryd.func64 rfl (by kernel_rfl) 34 rfl (by simp) [0, 1, 4, 5, 6, 7, 8, 9, 19] ?_
  (first | (refine H.wh ?_; clear H; intros; rename_i w H; constructor) | refine wk ?_)
  ((first | refine Rel.nwD H ?_ | refine Rel.nw H ?_); clear H; intro w b4 H)
  (first | (refine H.wh ?_; clear H; intros; rename_i w H; constructor) | refine wk ?_)
  ((first | refine Rel.nwD H ?_ | refine Rel.nw H ?_); clear H; intro w b6 H)
  (first | (refine H.wg ?_; clear H; intros; rename_i w H; constructor) | refine wk ?_)
  refine (readNumber_spec H.data hs1 hl hp).use ?_
  rintro v w ⟨rfl, K⟩
  (have hKb := K.base; replace H := H.call0 K)
  cases hn : numAt l p with
  | bad c i =>
    have hc0 := numAt_ne hn
    have hr : runAt l p = .bad c i := by rw [runAt, hn]
    rw [hr]
    (first | (refine H.wh ?_; clear H; intros; rename_i w H; constructor) | refine wk ?_)
    ((first | refine Rel.nwD H ?_ | refine Rel.nw H ?_); clear H; intro w b8 H)
    (first | (refine H.wg ?_; clear H; intros; rename_i w H; constructor) | refine wk ?_)
    ((first | refine draw_vcX (id := 3) tabOk mixed (Sav [b4]) (fun _ _ _ => Sav.trans) [2] [1] [0, 1, 2, 3, 4] (by kernel_rfl) ?_ | refine draw_vcX (id := 5) tabOk mixed (Sav [b4]) (fun _ _ _ => Sav.trans) [5] [4] [0, 1, 2, 3, 4, 5, 6, 7] (by kernel_rfl) ?_); intro w hdw; replace H := Rel.ext H hdw.ext)
    (refine wk ?_)
    (refine And.intro (fun w1 hsv => ?_) ?_; focus (obtain ⟨_, H1⟩ := Rel.savAt H (i := 2) rfl rfl hsv; clear H; have H := H1; clear H1; ((repeat ((conv => whnf); first | refine an ?_ | ((first | refine H.nwD ?_ | refine H.nw ?_); clear H; intro w _ H) | refine H.ce ?_ | refine H.db ?_ | refine ea ?_ | refine ol ?_ | (refine H.st ?_; (conv => whnf); clear H; intro w H) | refine cT ?_ | refine cF ?_ | refine cN ?_ | refine cM ?_ | refine H.lw ?_ | refine H.ll ?_)); (conv => whnf)); try exact ⟨rfl, rfl⟩))
    (refine wk ?_)
    (refine Rel.storeXAt H (i := 2) rfl ?_; (conv => whnf); clear H; intro w H)
    (first | (refine H.wg ?_; clear H; intros; rename_i w H; constructor) | refine wk ?_)
    exact ⟨V1, (0, 0), 0, c, i, Sub.refl _, H.sx, rfl, rfl, rfl, hc0⟩
  | ok n q =>
    obtain ⟨g1, g2, g3, g4, g5⟩ := numAt_ok hp hn
    (first | (refine H.wh ?_; clear H; intros; rename_i w H; constructor) | refine wk ?_)
    ((first | refine Rel.nwD H ?_ | refine Rel.nw H ?_); clear H; intro w b8 H)
    (first | (refine H.wg ?_; clear H; intros; rename_i w H; constructor) | refine wk ?_)
    refine (readNumber_spec (p := q) H.data hs1 hl g2).use ?_
    rintro v w ⟨rfl, K⟩
    (have hKb := K.base; replace H := H.call0 K)
    cases hm : numAt l q with
    | bad c i =>
      have hc0 := numAt_ne hm
      have hr : runAt l p = .bad c i := by
        rw [runAt, hn]
        simp only
        rw [hm]
      rw [hr]
      (first | (refine H.wg ?_; clear H; intros; rename_i w H; constructor) | refine wk ?_)
      ((first | refine draw_vcX (id := 3) tabOk mixed (Sav [b4]) (fun _ _ _ => Sav.trans) [2] [1] [0, 1, 2, 3, 4] (by kernel_rfl) ?_ | refine draw_vcX (id := 5) tabOk mixed (Sav [b4]) (fun _ _ _ => Sav.trans) [5] [4] [0, 1, 2, 3, 4, 5, 6, 7] (by kernel_rfl) ?_); intro w hdw; replace H := Rel.ext H hdw.ext)
      (refine wk ?_)
      (refine And.intro (fun w1 hsv => ?_) ?_; focus (obtain ⟨_, H1⟩ := Rel.savAt H (i := 2) rfl rfl hsv; clear H; have H := H1; clear H1; ((repeat ((conv => whnf); first | refine an ?_ | ((first | refine H.nwD ?_ | refine H.nw ?_); clear H; intro w _ H) | refine H.ce ?_ | refine H.db ?_ | refine ea ?_ | refine ol ?_ | (refine H.st ?_; (conv => whnf); clear H; intro w H) | refine cT ?_ | refine cF ?_ | refine cN ?_ | refine cM ?_ | refine H.lw ?_ | refine H.ll ?_)); (conv => whnf)); try exact ⟨rfl, rfl⟩))
      (refine wk ?_)
      (refine Rel.storeXAt H (i := 2) rfl ?_; (conv => whnf); clear H; intro w H)
      (first | (refine H.wg ?_; clear H; intros; rename_i w H; constructor) | refine wk ?_)
      exact ⟨V1, (n, 0), 0, c, i, Sub.refl _, H.sx, rfl, rfl, rfl, hc0⟩
    | ok m r =>
      obtain ⟨g6, g7, g8, g9, g10⟩ := numAt_ok g2 hm
      have hr : runAt l p = .ok (n, m) r := by
        rw [runAt, hn]
        simp only
        rw [hm]
      rw [hr]
      (first | (refine H.wg ?_; clear H; intros; rename_i w H; constructor) | refine wk ?_)
      ((first | refine draw_vcX (id := 3) tabOk mixed (Sav [b4]) (fun _ _ _ => Sav.trans) [2] [1] [0, 1, 2, 3, 4] (by kernel_rfl) ?_ | refine draw_vcX (id := 5) tabOk mixed (Sav [b4]) (fun _ _ _ => Sav.trans) [5] [4] [0, 1, 2, 3, 4, 5, 6, 7] (by kernel_rfl) ?_); intro w hdw; replace H := Rel.ext H hdw.ext)
      (refine wk ?_)
      (refine And.intro (fun w1 hsv => ?_) ?_; focus (obtain ⟨_, H1⟩ := Rel.savAt H (i := 2) rfl rfl hsv; clear H; have H := H1; clear H1; ((repeat ((conv => whnf); first | refine an ?_ | ((first | refine H.nwD ?_ | refine H.nw ?_); clear H; intro w _ H) | refine H.ce ?_ | refine H.db ?_ | refine ea ?_ | refine ol ?_ | (refine H.st ?_; (conv => whnf); clear H; intro w H) | refine cT ?_ | refine cF ?_ | refine cN ?_ | refine cM ?_ | refine H.lw ?_ | refine H.ll ?_)); (conv => whnf)); try exact ⟨rfl, rfl⟩))
      (refine wk ?_)
      (refine Rel.storeXAt H (i := 2) rfl ?_; (conv => whnf); clear H; intro w H)
      (first | (refine H.wg ?_; clear H; intros; rename_i w H; constructor) | refine wk ?_)
      exact ⟨V1, (n, m), r, 0, 0, Sub.refl _, H.sx, rfl, rfl, rfl, rfl, rfl⟩
set_option maxRecDepth 100000 in
set_option maxHeartbeats 1000000 in
theorem readSlice_runs {V W : World} (hV : Sub V W) {s : Sl} {l : List UInt8} (hs : Byt V s l) (hl : l.length ≤ 1099511627776) {p : Nat} (hp : p ≤ l.length) {m : Int} (hm : 0 ≤ m ∧ m ≤ 4294967296) {g : FuncId} {cap : List Value} {one : Nat → Got RunI}
    (hone : ∀ q, q ≤ l.length → Reads V g cap s (fun p => .agg (rnC p).toArray) (fun _ x y => x = y) q (one q)) (hin : ∀ q x q', q ≤ l.length → one q = .ok x q' → q' ≤ l.length) :
    Ret Tryd.prog 63 [s.v, iv p, iv m, .func (.func g) #[] cap.toArray].toArray W (ReadR Sl.v (RL rnC (fun _ x y => x = y)) W V (listAt l one m p)) := by
  have H := Rel.start hV
  have hlen := hs.len
  have hR : ∀ (V V' : World) (x : RunI) (y : RunI), Sub V V' → ((fun _ x y => x = y) : World → RunI → RunI → Prop) V x y → ((fun _ x y => x = y) : World → RunI → RunI → Prop) V' x y := fun _ _ _ _ _ h => h
  refine cal_of_vc tabOk Tryd.func63 rfl (by kernel_rfl) 64 rfl (by simp) [0, 1, 2, 3, 8, 9, 10, 11, 12, 13, 14, 15, 16, 17, 25, 30, 40, 41, 42, 53] ?_
  (first | (refine H.wh ?_; clear H; intros; rename_i w H; constructor) | refine wk ?_)
  ((first | refine Rel.nwD H ?_ | refine Rel.nw H ?_); clear H; intro w b10 H)
  (first | (refine H.wg ?_; clear H; intros; rename_i w H; constructor) | refine wk ?_)
  refine (readNumber_spec H.data hs hl hp).use ?_
  rintro v w ⟨rfl, K⟩
  replace H := H.call K
  simp only [List.nil_append] at H
  cases hn : numAt l p with
  | bad c i =>
    have hc0 := numAt_ne hn
    have hr : listAt l one m p = .bad c i := by rw [listAt, hn]
    rw [hr]
    (first | (refine H.wh ?_; clear H; intros; rename_i w H; constructor) | refine wk ?_)
    ((first | refine Rel.nwD H ?_ | refine Rel.nw H ?_); clear H; intro w b13 H)
    (first | (refine H.wg ?_; clear H; intros; rename_i w H; constructor) | refine wk ?_)
    ((first | refine draw_vc (id := 3) tabOk mixed [] [0, 1, 2, 3] (by kernel_rfl) ?_ | refine draw_vc (id := 11) tabOk mixed [] [0, 1, 2, 3] (by kernel_rfl) ?_); intro w hdw; replace H := Rel.ext H hdw.ext)
    (first | (refine H.wg ?_; clear H; intros; rename_i w H; constructor) | refine wk ?_)
    exact ⟨V, ⟨none, 0, 0⟩, 0, c, i, Sub.refl _, H.sx, rfl, rfl, rfl, hc0⟩
  | ok n q0 =>
    obtain ⟨h1, h2, h3, h4, h5⟩ := numAt_ok hp hn
    (first | (refine H.wh ?_; clear H; intros; rename_i w H; constructor) | refine wk ?_)
    ((first | refine Rel.nwD H ?_ | refine Rel.nw H ?_); clear H; intro w b13 H)
    by_cases hb : n < 0 ∨ m < n
    · have hr : listAt l one m p = .bad 4 p := by rw [listAt, hn]; simp only; rw [if_pos hb]
      rw [hr]
      by_cases hn0 : n < 0
      all_goals
        (first | (refine H.wg ?_; clear H; intros; rename_i w H; constructor) | refine wk ?_)
        refine (fault_wire H.data 4 p).use ?_
        rintro v w ⟨rfl, K⟩
        replace H := H.call K
        simp only [List.nil_append] at H
        (first | (refine H.wg ?_; clear H; intros; rename_i w H; constructor) | refine wk ?_)
        exact ⟨V, ⟨none, 0, 0⟩, 0, 4, p, Sub.refl _, H.sx, rfl, rfl, rfl, by decide⟩
    have hr : listAt l one m p = manyAt one n.toNat q0 := by rw [listAt, hn]; simp only; rw [if_neg hb]
    rw [hr]
    obtain ⟨N, rfl⟩ : ∃ N : Nat, n = N := ⟨n.toNat, by omega⟩
    rw [Int.toNat_natCast]
    (first | (refine H.wg ?_; clear H; intros; rename_i w H; constructor) | refine wk ?_)
    replace H := H.rowNil 97 2
    refine loop_inv (S := Nat × Nat × Sl × List RunI × List RunI) tabOk [0, 1, 2, 3, 10, 11, 13, 25, 30, 40] (fun k => [(12, iv k.2.1), (14, k.2.2.1.v), (41, iv k.1)]) (fun k w' => k.1 ≤ N ∧ k.2.1 ≤ l.length ∧ k.2.2.2.1.length = k.1 ∧ manyAt one k.1 q0 = .ok k.2.2.2.2 k.2.1 ∧ ∃ V1, Sub V V1 ∧ Pw (fun _ x y => x = y) V1 k.2.2.2.1 k.2.2.2.2 ∧ Rel W V [.row k.2.2.1 97 2 (k.2.2.2.1.flatMap rnC), .blk b13 [iv 0, iv 0] 29, .blk b10 [iv 0, iv 0] 29] V1 w') (fun k _ => N - k.1) (0, q0, ⟨none, 0, 0⟩, [], []) ?_
    (conv => whnf)
    refine ⟨(by repeat (first | exact trivial | refine ⟨rfl, ?_⟩)), ⟨by omega, h2, rfl, rfl, V, Sub.refl _, Pw.nil, H.sx⟩, ?_⟩
    clear H
    rintro ⟨k, q, r, xs, ys⟩ w ⟨hk, hq, hxl, hma, V1, hV1, hpw, H⟩
    dsimp only at hk hq hxl hma hpw H
    by_cases hlt : k < N
    rotate_left
    · obtain rfl : k = N := by omega
      (first | (refine H.wg ?_; clear H; intros; rename_i w H; constructor) | refine wk ?_)
      obtain ⟨V2, hV2, H, hrr⟩ := Rel.freezeF H (fun _ => rfl) (by decide)
      rw [hma]
      exact ⟨V2, r, q, 0, 0, hV1.trans hV2, H.sx, rfl, rfl, rfl, rfl, xs, hrr, hpw.up hR hV2⟩
    (first | (refine H.wg ?_; clear H; intros; rename_i w H; constructor) | refine wk ?_)
    refine (hone q hq V1 w hV1 H.data).use ?_
    rintro v w ⟨V2, x, n2, c, i, hV2, K, rfl, hres⟩
    replace H := H.call K
    simp only [List.nil_append] at H
    cases ho : one q with
    | bad c' i' =>
      rw [ho] at hres
      obtain ⟨rfl, rfl, hc0⟩ := hres
      have hmb : manyAt one N q0 = .bad c i := by
        have := manyAt_badAt hma ho (N - (k + 1))
        rwa [show k + 1 + (N - (k + 1)) = N by omega] at this
      rw [hmb]
      (first | (refine H.wg ?_; clear H; intros; rename_i w H; constructor) | refine wk ?_)
      ((first | refine draw_vc (id := 3) tabOk mixed [] [0, 1, 2, 3] (by kernel_rfl) ?_ | refine draw_vc (id := 11) tabOk mixed [] [0, 1, 2, 3] (by kernel_rfl) ?_); intro w hdw; replace H := Rel.ext H hdw.ext)
      (first | (refine H.wg ?_; clear H; intros; rename_i w H; constructor) | refine wk ?_)
      exact ⟨V2, ⟨none, 0, 0⟩, 0, c, i, hV1.trans hV2, H.sx, rfl, rfl, rfl, hc0⟩
    | ok y q' =>
      rw [ho] at hres
      obtain ⟨rfl, rfl, rfl, hxy⟩ := hres
      have hq' := hin q y q' hq ho
      (first | (refine H.wg ?_; clear H; intros; rename_i w H; constructor) | refine wk ?_)
      refine Rel.app1_2 (f := rnC) (l := xs) (x := x) tabOk rfl rfl rfl rfl rfl (by decide) (fun _ => rfl) (List.all_eq_true.1 rfl) H (by simp; omega) (by omega) ?_
      clear H
      intro rn w H
      (first | (refine H.wg ?_; clear H; intros; rename_i w H; constructor) | refine wk ?_)
      exact ⟨(by repeat (first | exact trivial | refine ⟨rfl, ?_⟩)), (k + 1, q', rn, xs ++ [x], ys ++ [y]), (by repeat (first | exact trivial | refine ⟨rfl, ?_⟩)), ⟨by omega, hq', by simp [hxl], manyAt_step hma ho, V2, hV1.trans hV2, (hpw.up hR hV2).snoc hxy, H.sx⟩, by omega⟩
set_option maxRecDepth 100000 in
set_option maxHeartbeats 1000000 in
theorem read_txt (hV : Sub V W) {s : Sl} {b : List UInt8} (hs : Byt V s b) (hl : b.length ≤ 1000000000) : Ret Tryd.prog 35 [s.v].toArray W (RdTR W V (txtRd b)) := by
  have H := Rel.start hV
  have hlen := hs.len
  refine cal_of_vc tabOk Tryd.func35 rfl (by kernel_rfl) 100 rfl (by simp) [0, 2, 3, 4, 5, 6, 7, 8, 9, 10, 11, 14, 29, 48, 50, 51, 52, 53, 86] ?_
  (first | (refine H.wh ?_; clear H; intros; rename_i w H; constructor) | refine wk ?_)
  ((first | refine Rel.nwD H ?_ | refine Rel.nw H ?_); clear H; intro w b2 H)
  by_cases h0 : b.length = 0
  · have hb : b = [] := List.eq_nil_of_length_eq_zero h0
    have e : txtRd b = some (0, []) := by rw [txtRd, if_pos hb]
    rw [e]
    (first | (refine H.wg ?_; clear H; intros; rename_i w H; constructor) | refine wk ?_)
    exact ⟨V, 0, ⟨none, 0, 0⟩, Sub.refl _, H.sx, rfl, rfl, SlF.nil _ _⟩
  have hb : b ≠ [] := fun h => h0 (by rw [h]; rfl)
  have hnr : txtRaw b = none → txtRd b = none := fun h => by unfold txtRd; rw [if_neg hb, h]
  (first | (refine H.wg ?_; clear H; intros; rename_i w H; constructor) | refine wk ?_)
  refine (readNumber_spec (p := 0) H.data hs (by omega) (Nat.zero_le _)).use ?_
  rintro v w ⟨rfl, K⟩
  (have hKb := K.base; replace H := H.call0 K)
  cases hn : numAt b 0 with
  | bad c i =>
    have hc0 := numAt_ne hn
    rw [hnr (by unfold txtRaw; rw [hn])]
    (first | (refine H.wh ?_; clear H; intros; rename_i w H; constructor) | refine wk ?_)
    ((first | refine Rel.nwD H ?_ | refine Rel.nw H ?_); clear H; intro w b6 H)
    (first | (refine H.wg ?_; clear H; intros; rename_i w H; constructor) | refine wk ?_)
    exact ⟨V, _, ⟨none, 0, 0⟩, Sub.refl _, H.sx, rfl⟩
  | ok c q =>
    obtain ⟨g1, g2, g3, g4, g5⟩ := numAt_ok (Nat.zero_le _) hn
    (first | (refine H.wh ?_; clear H; intros; rename_i w H; constructor) | refine wk ?_)
    ((first | refine Rel.nwD H ?_ | refine Rel.nw H ?_); clear H; intro w b6 H)
    (first | (refine H.wg ?_; clear H; intros; rename_i w H; constructor) | refine wk ?_)
    refine (between_spec _ _ _ _).use ?_
    rintro v w' ⟨rfl, rfl⟩
    by_cases hc : c < 0 ∨ 5 ≤ c
    · rw [hnr (by unfold txtRaw; rw [hn]; simp only; rw [if_pos hc]), decide_eq_false (by omega)]
      (first | (refine H.wg ?_; clear H; intros; rename_i w H; constructor) | refine wk ?_)
      exact ⟨V, _, ⟨none, 0, 0⟩, Sub.refl _, H.sx, rfl⟩
    have hr0 : txtRaw b = (match listAt b (runAt b) b.length q with
      | .bad _ _ => none
      | .ok rs q => if q ≠ b.length then none else if okI 1000 3 rs = true then some (c.toNat, rs.map natR) else none) := by
      rw [txtRaw, hn]
      simp only
      rw [if_neg hc]
      rfl
    rw [decide_eq_true (by omega)]
    obtain ⟨C, rfl⟩ : ∃ C : Nat, c = C := ⟨c.toNat, by omega⟩
    (first | (refine H.wg ?_; clear H; intros; rename_i w H; constructor) | refine wk ?_)
    rw [hlen]
    refine (readSlice_runs (m := b.length) H.data hs (by omega) g2 (by constructor <;> omega) (fun q hq => readRun_spec hs (by omega) hq) runAt_in).use ?_
    rintro v w ⟨V2, x, n, c, i, hV2, K, rfl, hres⟩
    (have hKb := K.base; replace H := H.call0 K)
    cases hli : listAt b (runAt b) b.length q with
    | bad c' i' =>
      rw [hli] at hres hr0
      obtain ⟨rfl, rfl, hc0⟩ := hres
      rw [hnr hr0]
      (first | (refine H.wg ?_; clear H; intros; rename_i w H; constructor) | refine wk ?_)
      exact ⟨V2, _, ⟨none, 0, 0⟩, hV2, H.sx, rfl⟩
    | ok xs q' =>
      rw [hli] at hres hr0
      obtain ⟨rfl, rfl, rfl, hxs⟩ := hres
      obtain ⟨ys, hys, hpw⟩ := hxs
      obtain rfl := hpw.eq
      have hxl := hys.len
      simp only at hr0
      by_cases hq : q' = b.length
      rotate_left
      · rw [if_pos hq] at hr0
        rw [hnr hr0]
        (first | (refine H.wg ?_; clear H; intros; rename_i w H; constructor) | refine wk ?_)
        exact ⟨V2, _, ⟨none, 0, 0⟩, hV2, H.sx, rfl⟩
      rw [if_neg (fun h => h hq)] at hr0
      have hnok : okI 1000 3 ys = false → txtRd b = none := fun h => hnr (by rw [hr0, if_neg (by rw [h]; simp)])
      have hy1 : ys.length ≤ b.length := by
        unfold listAt at hli
        split at hli
        · cases hli
        · split at hli
          · cases hli
          · rename_i h1 h2
            have := (manyAt_ok (f := runB) (b := b) (one := runAt b) (fun p q x hp h => by
              obtain ⟨a1, a2, a3, _⟩ := runAt_ok hp h
              exact ⟨by omega, a2, a3⟩) _ _ _ _ (numAt_ok g2 h1).2.1 hli).1
            omega
      have hyI : ∀ y ∈ ys, I64 y.1 ∧ I64 y.2 := listRun_i64 g2 hli
      (first | (refine H.wg ?_; clear H; intros; rename_i w H; constructor) | refine wk ?_)
      refine loop_inv (S := Nat) tabOk [0, 2, 4, 5, 6, 7, 11, 14, 29, 48, 50, 51] (fun k => [(8, iv (leftI 1000 (ys.take k))), (52, iv k)]) (fun k w' => k ≤ ys.length ∧ okI 1000 3 (ys.take k) = true ∧ Rel W V [.blk b6 [iv 0, iv 0] 29, .blk b2 (resC 0 ⟨none, 0, 0⟩) 62] V2 w') (fun k _ => ys.length - k) 0 ?_
      (conv => whnf)
      refine ⟨(by repeat (first | exact trivial | refine ⟨rfl, ?_⟩)), ⟨by omega, rfl, H.sx⟩, ?_⟩
      clear H
      rintro k w ⟨hk, hok, H⟩
      dsimp only at hk hok H ⊢
      obtain ⟨hl1, hl2, hl3⟩ := okI_len hok (by decide)
      by_cases hlt : k < ys.length
      · obtain ⟨hp, hq1, hq2⟩ := hys.at2 (g := fun x : RunI => iv x.1) (g' := fun x : RunI => iv x.2) (fun _ => rfl) hlt
        obtain ⟨hi1, hi2⟩ := hyI _ (List.getElem_mem hlt)
        have hsp : ys = ys.take k ++ ys[k] :: ys.drop (k + 1) := by rw [← List.drop_eq_getElem_cons hlt, List.take_append_drop]
        obtain ⟨x1, hx1⟩ : ∃ x, x = (ys[k]).1 := ⟨_, rfl⟩
        obtain ⟨x2, hx2⟩ : ∃ x, x = (ys[k]).2 := ⟨_, rfl⟩
        obtain ⟨LL, hLL⟩ : ∃ x, x = leftI 1000 (ys.take k) := ⟨_, rfl⟩
        have hbad : ¬ (0 ≤ x1 ∧ x1 < 3 ∧ 1 ≤ x2 ∧ x2 ≤ LL ∧ x1 ≠ lastI 3 (ys.take k)) → txtRd b = none := fun h => hnok (by rw [hsp]; exact okI_false (by rw [← hx1, ← hx2, ← hLL]; exact h))
        rw [← hLL] at hl2 hl3
        rw [← hx1] at hq1 hi1
        rw [← hx2] at hq2 hi2
        rw [← hLL]
        (first | (refine H.wg ?_; clear H; intros; rename_i w H; constructor) | refine wk ?_)
        by_cases b1 : 0 ≤ x1 ∧ x1 < 3
        rotate_left
        · rw [hbad (fun h => b1 ⟨h.1, h.2.1⟩)]
          ((first | refine draw_vcQ (id := 13) tabOk mixed [] [0, 1, 2, 3, 4, 5, 6, 7, 8, 9, 10, 11, 12, 13, 14, 15, 16, 17, 18, 19, 20, 21, 22, 23, 24, 25, 26, 27, 28, 29] (by kernel_rfl) ?_ | refine draw_vcQ (id := 18) tabOk mixed [2] [0, 1, 2, 3, 4, 5] (by kernel_rfl) ?_); intro w hdw; replace H := Rel.ext H hdw.ext)
          (first | (refine H.wg ?_; clear H; intros; rename_i w H; constructor) | refine wk ?_)
          refine (between_spec _ _ _ _).use ?_
          rintro v w' ⟨rfl, rfl⟩
          rw [decide_eq_false (by omega)]
          (first | (refine H.wg ?_; clear H; intros; rename_i w H; constructor) | refine wk ?_)
          exact ⟨V2, _, ⟨none, 0, 0⟩, hV2, H.sx, rfl⟩
        by_cases b2 : x2 < 1
        · rw [hbad (fun h => by omega)]
          ((first | refine draw_vcQ (id := 13) tabOk mixed [] [0, 1, 2, 3, 4, 5, 6, 7, 8, 9, 10, 11, 12, 13, 14, 15, 16, 17, 18, 19, 20, 21, 22, 23, 24, 25, 26, 27, 28, 29] (by kernel_rfl) ?_ | refine draw_vcQ (id := 18) tabOk mixed [2] [0, 1, 2, 3, 4, 5] (by kernel_rfl) ?_); intro w hdw; replace H := Rel.ext H hdw.ext)
          (first | (refine H.wg ?_; clear H; intros; rename_i w H; constructor) | refine wk ?_)
          refine (between_spec _ _ _ _).use ?_
          rintro v w' ⟨rfl, rfl⟩
          rw [decide_eq_true (by omega)]
          (first | (refine H.wg ?_; clear H; intros; rename_i w H; constructor) | refine wk ?_)
          exact ⟨V2, _, ⟨none, 0, 0⟩, hV2, H.sx, rfl⟩
        by_cases b3 : LL < x2
        · rw [hbad (fun h => by omega)]
          ((first | refine draw_vcQ (id := 13) tabOk mixed [] [0, 1, 2, 3, 4, 5, 6, 7, 8, 9, 10, 11, 12, 13, 14, 15, 16, 17, 18, 19, 20, 21, 22, 23, 24, 25, 26, 27, 28, 29] (by kernel_rfl) ?_ | refine draw_vcQ (id := 18) tabOk mixed [2] [0, 1, 2, 3, 4, 5] (by kernel_rfl) ?_); intro w hdw; replace H := Rel.ext H hdw.ext)
          (first | (refine H.wg ?_; clear H; intros; rename_i w H; constructor) | refine wk ?_)
          refine (between_spec _ _ _ _).use ?_
          rintro v w' ⟨rfl, rfl⟩
          rw [decide_eq_true (by omega)]
          (first | (refine H.wg ?_; clear H; intros; rename_i w H; constructor) | refine wk ?_)
          exact ⟨V2, _, ⟨none, 0, 0⟩, hV2, H.sx, rfl⟩
        have hokk : x1 ≠ lastI 3 (ys.take k) → okI 1000 3 (ys.take (k + 1)) = true := fun h => by
          rw [List.take_succ_eq_append_getElem hlt, okI_append, hok]
          simp only [okI, Bool.and_true, Bool.true_and]
          rw [← hx1, ← hx2, ← hLL]
          exact decide_eq_true ⟨b1.1, b1.2, by omega, by omega, h⟩
        have hleft : leftI 1000 (ys.take (k + 1)) = LL - x2 := by rw [List.take_succ_eq_append_getElem hlt, leftI_snoc, ← hLL, ← hx2]
        by_cases hk0 : k = 0
        · have hl3 : lastI 3 (ys.take k) = 3 := by rw [hk0]; rfl
          ((first | refine draw_vcQ (id := 13) tabOk mixed [] [0, 1, 2, 3, 4, 5, 6, 7, 8, 9, 10, 11, 12, 13, 14, 15, 16, 17, 18, 19, 20, 21, 22, 23, 24, 25, 26, 27, 28, 29] (by kernel_rfl) ?_ | refine draw_vcQ (id := 18) tabOk mixed [2] [0, 1, 2, 3, 4, 5] (by kernel_rfl) ?_); intro w hdw; replace H := Rel.ext H hdw.ext)
          (first | (refine H.wg ?_; clear H; intros; rename_i w H; constructor) | refine wk ?_)
          refine (between_spec _ _ _ _).use ?_
          rintro v w' ⟨rfl, rfl⟩
          rw [decide_eq_true (by omega)]
          (first | (refine H.wg ?_; clear H; intros; rename_i w H; constructor) | refine wk ?_)
          exact ⟨(by repeat (first | exact trivial | refine ⟨rfl, ?_⟩)), k + 1, ⟨congrArg (fun z => some (iv z)) hleft.symm, rfl, trivial⟩, ⟨by omega, hokk (by rw [hl3]; omega), H.sx⟩, by omega⟩
        obtain ⟨j, rfl⟩ : ∃ j, k = j + 1 := ⟨k - 1, by omega⟩
        have hjlt : j < ys.length := by omega
        obtain ⟨_, hq3, _⟩ := hys.at2 (g := fun x : RunI => iv x.1) (g' := fun x : RunI => iv x.2) (fun _ => rfl) hjlt
        have hl3 := lastI_take hjlt
        obtain ⟨x3, hx3⟩ : ∃ x, x = (ys[j]).1 := ⟨_, rfl⟩
        rw [← hx3] at hq3 hl3
        have ek : (((j + 1 : Nat) : Int) - 1) = ((j : Nat) : Int) := by omega
        by_cases b4 : x1 = x3
        · rw [hbad (fun h => h.2.2.2.2 (by rw [hl3]; exact b4))]
          ((first | refine draw_vcQ (id := 13) tabOk mixed [] [0, 1, 2, 3, 4, 5, 6, 7, 8, 9, 10, 11, 12, 13, 14, 15, 16, 17, 18, 19, 20, 21, 22, 23, 24, 25, 26, 27, 28, 29] (by kernel_rfl) ?_ | refine draw_vcQ (id := 18) tabOk mixed [2] [0, 1, 2, 3, 4, 5] (by kernel_rfl) ?_); intro w hdw; replace H := Rel.ext H hdw.ext)
          (first | (refine H.wg ?_; clear H; intros; rename_i w H; constructor) | refine wk ?_)
          refine (between_spec _ _ _ _).use ?_
          rintro v w' ⟨rfl, rfl⟩
          rw [decide_eq_true (by omega)]
          (first | (refine H.wg ?_; clear H; intros; rename_i w H; constructor) | refine wk ?_)
          rw [ek]
          (first | (refine H.wg ?_; clear H; intros; rename_i w H; constructor) | refine wk ?_)
          exact ⟨V2, _, ⟨none, 0, 0⟩, hV2, H.sx, rfl⟩
        · ((first | refine draw_vcQ (id := 13) tabOk mixed [] [0, 1, 2, 3, 4, 5, 6, 7, 8, 9, 10, 11, 12, 13, 14, 15, 16, 17, 18, 19, 20, 21, 22, 23, 24, 25, 26, 27, 28, 29] (by kernel_rfl) ?_ | refine draw_vcQ (id := 18) tabOk mixed [2] [0, 1, 2, 3, 4, 5] (by kernel_rfl) ?_); intro w hdw; replace H := Rel.ext H hdw.ext)
          (first | (refine H.wg ?_; clear H; intros; rename_i w H; constructor) | refine wk ?_)
          refine (between_spec _ _ _ _).use ?_
          rintro v w' ⟨rfl, rfl⟩
          rw [decide_eq_true (by omega)]
          (first | (refine H.wg ?_; clear H; intros; rename_i w H; constructor) | refine wk ?_)
          rw [ek]
          (first | (refine H.wg ?_; clear H; intros; rename_i w H; constructor) | refine wk ?_)
          exact ⟨(by repeat (first | exact trivial | refine ⟨rfl, ?_⟩)), j + 1 + 1, ⟨congrArg (fun z => some (iv z)) hleft.symm, rfl, trivial⟩, ⟨by omega, hokk (by rw [hl3]; exact b4), H.sx⟩, by omega⟩
      · obtain rfl : k = ys.length := by omega
        rw [List.take_length] at hok
        rw [if_pos hok] at hr0
        obtain ⟨rs, hrs, ho, hsum⟩ := okI_runs (p := 3) hok (by decide)
        rw [hrs, natR_I, Int.toNat_natCast] at hr0
        rw [hrs] at hys
        have hrl : rs.length = ys.length := by rw [hrs]; simp [runsI]
        have hos := runsOk_small ho
        have hrd : txtRd b = if txtTriv C (runsK rs) = true then none else some (C, rs) := by unfold txtRd; rw [if_neg hb, hr0]
        rw [hrd]
        (first | (refine H.wg ?_; clear H; intros; rename_i w H; constructor) | refine wk ?_)
        ((first | refine draw_vcQ (id := 13) tabOk mixed [] [0, 1, 2, 3, 4, 5, 6, 7, 8, 9, 10, 11, 12, 13, 14, 15, 16, 17, 18, 19, 20, 21, 22, 23, 24, 25, 26, 27, 28, 29] (by kernel_rfl) ?_ | refine draw_vcQ (id := 18) tabOk mixed [2] [0, 1, 2, 3, 4, 5] (by kernel_rfl) ?_); intro w hdw; replace H := Rel.ext H hdw.ext)
        (first | (refine H.wg ?_; clear H; intros; rename_i w H; constructor) | refine wk ?_)
        refine (trivial_spec H.data C hys (by omega) (runsOk_pos ho)).use ?_
        rintro v w ⟨rfl, K⟩
        (have hKb := K.base; replace H := H.call0 K)
        cases ht : txtTriv C (runsK rs) with
        | true =>
          rw [if_pos rfl]
          (first | (refine H.wg ?_; clear H; intros; rename_i w H; constructor) | refine wk ?_)
          exact ⟨V2, _, _, hV2, H.sx, rfl⟩
        | false =>
          rw [if_neg (by simp)]
          (first | (refine H.wg ?_; clear H; intros; rename_i w H; constructor) | refine wk ?_)
          exact ⟨V2, _, _, hV2, H.sx, rfl, rfl, hys⟩
end
end Go.Proofs.YtgnaojphgdaalaaDoor
