/-
  Text files, the reference: the residue.
-/
import Derived.Test.YtgnaojphgdaalaaDoorTxtQ
namespace Go.Proofs.YtgnaojphgdaalaaDoor
open Go Go.RowKit

theorem runs_last (l : List Nat) (k : Nat) : ∃ rs n, runsOf (l ++ [k]) = rs ++ [(k, n)] := by
  rw [runsOf_snoc]
  rcases snoc_of (runsOf l) with h | ⟨rs, ⟨j, n⟩, h⟩
  · rw [h]
    exact ⟨[], 1, rfl⟩
  · rw [h, pushR_snoc]
    split
    · rename_i e
      rw [e]
      exact ⟨rs, n + 1, rfl⟩
    · exact ⟨rs ++ [(j, n)], 1, by simp⟩
theorem triv_snoc (e : Nat) (l : List Nat) (k : Nat) : txtTriv e (l ++ [k]) = (txtTriv e l && (k == 0)) := by
  unfold txtTriv
  rw [List.all_append, Bool.and_assoc]
  simp
theorem runsOk_lt : ∀ {rs : List Run} {p : Nat}, runsOk p rs → ∀ r ∈ rs, r.1 < 3
  | [], _, _ => by simp
  | x :: rs, p, h => by
    obtain ⟨h1, h2, h3, h4⟩ := h
    intro r hr
    rcases List.mem_cons.1 hr with rfl | hr
    · exact h1
    · exact runsOk_lt h4 r hr
theorem runs_le : ∀ {rs : List Run}, ∀ r ∈ rs, r.2 ≤ runsSum rs
  | [] => by simp
  | x :: rs => by
    intro r hr
    rw [show runsSum (x :: rs) = x.2 + runsSum rs from rfl]
    rcases List.mem_cons.1 hr with rfl | hr
    · omega
    · have := runs_le r hr
      omega
theorem runsI_i64 {ks : List Nat} (hl : ks.length ≤ 1000000) (hk3 : ∀ k ∈ ks, k < 3) : ∀ x ∈ runsI (runsOf ks), I64 x.1 ∧ I64 x.2 := by
  intro x hx
  obtain ⟨⟨j, n⟩, hr, rfl⟩ := List.mem_map.1 hx
  obtain ⟨_, _, f3, f4, _⟩ := runsOf_facts ks
  have h1 := runs_le _ hr
  have h2 := runsOk_lt (f3 hk3 3 (by
    intro e
    have := hk3 3 (List.mem_of_head? e)
    omega)) _ hr
  dsimp only at h1 h2 ⊢
  constructor <;> constructor <;> omega
theorem runsB_take {l : List RunI} (h : ∀ x ∈ l, I64 x.1 ∧ I64 x.2) (q : Nat) : ((l.take q).flatMap runB).length ≤ 20 * q := by
  have := flat_len_le (f := runB) (m := 20) (l := l.take q) (fun x hx => by
    obtain ⟨i1, i2⟩ := h x (List.mem_of_mem_take hx)
    have := putN_len i1.1 i1.2
    have := putN_len i2.1 i2.2
    unfold runB
    rw [List.length_append]
    omega)
  rw [List.length_take] at this
  have := Nat.mul_le_mul_right 20 (Nat.min_le_left q l.length)
  omega
section
variable {V W : World}
set_option maxRecDepth 100000 in
set_option maxHeartbeats 2000000 in
theorem txtRes_ref (hV : Sub V W) {s : Sl} {ks : List Nat} (hs : SlF naC V s ks) (hl : ks.length ≤ 1000000) (hk3 : ∀ k ∈ ks, k < 3) {e : Nat} (he : e < 5) : Ret Tryd.prog 19 [iv (e : Int), s.v].toArray W (BytG W V (txtRes e ks)) := by
  have H := Rel.start hV
  have hlen := hs.len
  have hdk : (decide ((e : Int) = 0)) = txtTriv e [] := by unfold txtTriv; simp
  refine cal_of_vc tabOk Tryd.func19 rfl (by kernel_rfl) 91 rfl (by simp) [0, 1, 4, 5, 6, 7, 8, 9, 15, 39, 62, 72] ?_
  (first | (refine H.wg ?_; clear H; intros; rename_i w H; constructor) | refine wk ?_)
  replace H := H.rowNil 85 2
  refine loop_inv (S := Nat × Sl) tabOk [0, 1, 4, 8, 9, 62, 72] (fun q => [(7, iv q.1), (5, .bool (txtTriv e (ks.take q.1))), (6, q.2.v)]) (fun q w' => q.1 ≤ ks.length ∧ Rel W V [.row q.2 85 2 ((runsI (runsOf (ks.take q.1))).flatMap rnC)] V w') (fun q _ => ks.length - q.1) (0, ⟨none, 0, 0⟩) ?_
  (conv => whnf)
  refine ⟨⟨rfl, congrArg (fun z => some (Value.bool z)) hdk, rfl, trivial⟩, ⟨by omega, H⟩, ?_⟩
  clear H
  rintro ⟨p, r6⟩ w ⟨hp, H⟩
  dsimp only at hp H ⊢
  by_cases hlt : p < ks.length
  · obtain ⟨p0, c0⟩ := hs.at1 (g := fun u : Nat => iv (u : Int)) (fun _ => rfl) hlt
    have hk := hk3 ks[p] (List.getElem_mem hlt)
    have ets := List.take_succ_eq_append_getElem hlt
    obtain ⟨k, hke⟩ : ∃ k, k = ks[p] := ⟨_, rfl⟩
    rw [← hke] at c0 hk ets
    have htr := triv_snoc e (ks.take p) k
    rw [← ets] at htr
    have hrl := (runsOf_facts (ks.take p)).2.2.2.2
    rw [List.length_take] at hrl
    cases ht : txtTriv e (ks.take p) with
    | false =>
      rw [ht, Bool.false_and] at htr
      have h5 : false = txtTriv e (ks.take (p + 1)) := htr.symm
      by_cases hp0 : 0 < p
      rotate_left
      · have hp00 : p = 0 := by omega
        have ert : runsOf (ks.take (p + 1)) = [(k, 1)] := by rw [ets, hp00]; rfl
        rw [show runsI (runsOf (ks.take p)) = [] by rw [hp00]; rfl] at H
        (first | (refine H.wg ?_; clear H; intros; rename_i w H; constructor) | refine wk ?_)
        ((first | refine draw_vcQ (id := 7) tabOk mixed [] [0, 1, 2, 3, 4, 5, 6, 7, 8, 9, 10, 11, 12, 13] (by kernel_rfl) ?_ | refine draw_vcQ (id := 8) tabOk mixed [] [0, 1, 2, 3, 4, 5, 6, 7, 8, 9, 10, 11, 12, 13, 14] (by kernel_rfl) ?_ | refine draw_vcQ (id := 16) tabOk mixed [6] [0, 1, 2, 3, 4, 5, 7, 8, 9, 10, 11, 6, 12, 13, 14, 15] (by kernel_rfl) ?_); intro w hdw; replace H := Rel.ext H hdw.ext)
        (first | (refine H.wg ?_; clear H; intros; rename_i w H; constructor) | refine wk ?_)
        refine SemOk.of (v := .agg #[iv (k : Int), iv 1]) (w' := w) (by kernel_rfl) ?_
        (first | (refine H.wg ?_; clear H; intros; rename_i w H; constructor) | refine wk ?_)
        refine Rel.app1_0 (f := rnC) (l := []) (x := runI (k, 1)) tabOk rfl rfl rfl rfl rfl (by decide) (fun _ => rfl) (List.all_eq_true.1 rfl) H (by simp) (by simp) ?_
        clear H
        intro r6 w H
        (first | (refine H.wg ?_; clear H; intros; rename_i w H; constructor) | refine wk ?_)
        refine ⟨(by repeat (first | exact trivial | refine ⟨rfl, ?_⟩)), (p + 1, r6), ⟨rfl, congrArg (fun z => some (Value.bool z)) h5, rfl, trivial⟩, ⟨by dsimp only; omega, ?_⟩, by dsimp only; omega⟩
        dsimp only
        rw [ert]
        exact H
      obtain ⟨_, c1⟩ := hs.at1 (g := fun u : Nat => iv (u : Int)) (fun _ => rfl) (show p - 1 < ks.length by omega)
      obtain ⟨j, hj⟩ : ∃ j, j = ks[p - 1] := ⟨_, rfl⟩
      have hj3 := hk3 ks[p - 1] (List.getElem_mem _)
      have etp : ks.take p = ks.take (p - 1) ++ [j] := by
        rw [hj, ← List.take_succ_eq_append_getElem, show p - 1 + 1 = p by omega]
      obtain ⟨rs, n, hrs⟩ := runs_last (ks.take (p - 1)) j
      rw [← etp] at hrs
      rw [← hj] at c1 hj3
      rw [show p - 1 = ((p : Int) - 1).toNat by omega] at c1
      have hq6 := H.rowLen (i := 0) rfl (fun _ => rfl) (by decide)
      have hps := runsOf_snoc (ks.take p) k
      rw [← ets, hrs, pushR_snoc] at hps
      rw [hrs] at H hq6 hrl
      have hsum := (runsOf_facts (ks.take p)).2.2.2.1
      rw [hrs] at hsum
      simp only [runsSum, List.map_append, List.map_cons, List.map_nil, List.sum_append, List.sum_cons, List.sum_nil, List.length_take] at hsum
      have hil : (runsI (rs ++ [(j, n)])).length = rs.length + 1 := by simp [runsI]
      rw [hil] at hq6
      simp only [List.length_append, List.length_singleton] at hrl
      (first | (refine H.wg ?_; clear H; intros; rename_i w H; constructor) | refine wk ?_)
      ((first | refine draw_vcQ (id := 7) tabOk mixed [] [0, 1, 2, 3, 4, 5, 6, 7, 8, 9, 10, 11, 12, 13] (by kernel_rfl) ?_ | refine draw_vcQ (id := 8) tabOk mixed [] [0, 1, 2, 3, 4, 5, 6, 7, 8, 9, 10, 11, 12, 13, 14] (by kernel_rfl) ?_ | refine draw_vcQ (id := 16) tabOk mixed [6] [0, 1, 2, 3, 4, 5, 7, 8, 9, 10, 11, 6, 12, 13, 14, 15] (by kernel_rfl) ?_); intro w hdw; replace H := Rel.ext H hdw.ext)
      by_cases hjk : k = j
      · rw [if_pos hjk.symm] at hps
        have hp6 : Plain r6.a := (H.slfAt (i := 0) rfl (fun _ => rfl) (by decide)).cells.1 (by simp [runsI])
        (first | (refine H.wg ?_; clear H; intros; rename_i w H; constructor) | refine wk ?_)
        ((first | refine draw_vcQ (id := 7) tabOk mixed [] [0, 1, 2, 3, 4, 5, 6, 7, 8, 9, 10, 11, 12, 13] (by kernel_rfl) ?_ | refine draw_vcQ (id := 8) tabOk mixed [] [0, 1, 2, 3, 4, 5, 6, 7, 8, 9, 10, 11, 12, 13, 14] (by kernel_rfl) ?_ | refine draw_vcQ (id := 16) tabOk mixed [6] [0, 1, 2, 3, 4, 5, 7, 8, 9, 10, 11, 6, 12, 13, 14, 15] (by kernel_rfl) ?_); intro w hdw; replace H := Rel.ext H hdw.ext)
        (first | (refine H.wg ?_; clear H; intros; rename_i w H; constructor) | refine wk ?_)
        have S6 := H.slfAt (i := 0) rfl (fun _ => rfl) (by decide)
        obtain ⟨u0, u1, u2⟩ := S6.at2 (g := fun r : RunI => iv r.1) (g' := fun r : RunI => iv r.2) (fun _ => rfl) (i := rs.length) (by omega)
        have hget : (runsI (rs ++ [(j, n)]))[rs.length]'(by omega) = runI (j, n) := by simp [runsI]
        rw [hget] at u1 u2
        dsimp only [runI] at u1 u2
        rw [show rs.length = ((r6.len : Int) - 1).toNat by omega] at u2
        refine ⟨_, u2, ?_⟩
        (first | (refine H.wg ?_; clear H; intros; rename_i w H; constructor) | refine wk ?_)
        refine Rel.stRowN (i := 0) H rfl (rs.length * 2 + 1) (by omega) rfl (by show aoff r6.a + (((r6.len : Nat) : Int) - 1).toNat * 2 + 1 = _; omega) ?_
        clear H
        intro w H
        simp only [List.set_cons_zero] at H
        rw [runs_set, ← hps] at H
        (first | (refine H.wg ?_; clear H; intros; rename_i w H; constructor) | refine wk ?_)
        refine ⟨(by repeat (first | exact trivial | refine ⟨rfl, ?_⟩)), (p + 1, r6), ⟨rfl, congrArg (fun z => some (Value.bool z)) h5, rfl, trivial⟩, ⟨by dsimp only; omega, ?_⟩, by dsimp only; omega⟩
        dsimp only
        exact H
      · rw [if_neg (fun h => hjk h.symm)] at hps
        (first | (refine H.wg ?_; clear H; intros; rename_i w H; constructor) | refine wk ?_)
        refine SemOk.of (v := .agg #[iv (k : Int), iv 1]) (w' := w) (by kernel_rfl) ?_
        (first | (refine H.wg ?_; clear H; intros; rename_i w H; constructor) | refine wk ?_)
        refine Rel.app1_0 (f := rnC) (l := runsI (rs ++ [(j, n)])) (x := runI (k, 1)) tabOk rfl rfl rfl rfl rfl (by decide) (fun _ => rfl) (List.all_eq_true.1 rfl) H (by show ((runsI (rs ++ [(j, n)])).length + 1) * 16 ≤ _; omega) (by omega) ?_
        clear H
        intro r6 w H
        rw [show runsI (rs ++ [(j, n)]) ++ [runI (k, 1)] = runsI (rs ++ [(j, n), (k, 1)]) by simp [runsI], ← hps] at H
        (first | (refine H.wg ?_; clear H; intros; rename_i w H; constructor) | refine wk ?_)
        refine ⟨(by repeat (first | exact trivial | refine ⟨rfl, ?_⟩)), (p + 1, r6), ⟨rfl, congrArg (fun z => some (Value.bool z)) h5, rfl, trivial⟩, ⟨by dsimp only; omega, ?_⟩, by dsimp only; omega⟩
        dsimp only
        exact H
    | true =>
      rw [ht, Bool.true_and] at htr
      have h5 : decide ((k : Int) = 0) = txtTriv e (ks.take (p + 1)) := by rw [htr]; by_cases h : k = 0 <;> simp [h]
      by_cases hp0 : 0 < p
      rotate_left
      · have hp00 : p = 0 := by omega
        have ert : runsOf (ks.take (p + 1)) = [(k, 1)] := by rw [ets, hp00]; rfl
        rw [show runsI (runsOf (ks.take p)) = [] by rw [hp00]; rfl] at H
        (first | (refine H.wg ?_; clear H; intros; rename_i w H; constructor) | refine wk ?_)
        ((first | refine draw_vcQ (id := 7) tabOk mixed [] [0, 1, 2, 3, 4, 5, 6, 7, 8, 9, 10, 11, 12, 13] (by kernel_rfl) ?_ | refine draw_vcQ (id := 8) tabOk mixed [] [0, 1, 2, 3, 4, 5, 6, 7, 8, 9, 10, 11, 12, 13, 14] (by kernel_rfl) ?_ | refine draw_vcQ (id := 16) tabOk mixed [6] [0, 1, 2, 3, 4, 5, 7, 8, 9, 10, 11, 6, 12, 13, 14, 15] (by kernel_rfl) ?_); intro w hdw; replace H := Rel.ext H hdw.ext)
        (first | (refine H.wg ?_; clear H; intros; rename_i w H; constructor) | refine wk ?_)
        refine SemOk.of (v := .agg #[iv (k : Int), iv 1]) (w' := w) (by kernel_rfl) ?_
        (first | (refine H.wg ?_; clear H; intros; rename_i w H; constructor) | refine wk ?_)
        refine Rel.app1_0 (f := rnC) (l := []) (x := runI (k, 1)) tabOk rfl rfl rfl rfl rfl (by decide) (fun _ => rfl) (List.all_eq_true.1 rfl) H (by simp) (by simp) ?_
        clear H
        intro r6 w H
        (first | (refine H.wg ?_; clear H; intros; rename_i w H; constructor) | refine wk ?_)
        refine ⟨(by repeat (first | exact trivial | refine ⟨rfl, ?_⟩)), (p + 1, r6), ⟨rfl, congrArg (fun z => some (Value.bool z)) h5, rfl, trivial⟩, ⟨by dsimp only; omega, ?_⟩, by dsimp only; omega⟩
        dsimp only
        rw [ert]
        exact H
      obtain ⟨_, c1⟩ := hs.at1 (g := fun u : Nat => iv (u : Int)) (fun _ => rfl) (show p - 1 < ks.length by omega)
      obtain ⟨j, hj⟩ : ∃ j, j = ks[p - 1] := ⟨_, rfl⟩
      have hj3 := hk3 ks[p - 1] (List.getElem_mem _)
      have etp : ks.take p = ks.take (p - 1) ++ [j] := by
        rw [hj, ← List.take_succ_eq_append_getElem, show p - 1 + 1 = p by omega]
      obtain ⟨rs, n, hrs⟩ := runs_last (ks.take (p - 1)) j
      rw [← etp] at hrs
      rw [← hj] at c1 hj3
      rw [show p - 1 = ((p : Int) - 1).toNat by omega] at c1
      have hq6 := H.rowLen (i := 0) rfl (fun _ => rfl) (by decide)
      have hps := runsOf_snoc (ks.take p) k
      rw [← ets, hrs, pushR_snoc] at hps
      rw [hrs] at H hq6 hrl
      have hsum := (runsOf_facts (ks.take p)).2.2.2.1
      rw [hrs] at hsum
      simp only [runsSum, List.map_append, List.map_cons, List.map_nil, List.sum_append, List.sum_cons, List.sum_nil, List.length_take] at hsum
      have hil : (runsI (rs ++ [(j, n)])).length = rs.length + 1 := by simp [runsI]
      rw [hil] at hq6
      simp only [List.length_append, List.length_singleton] at hrl
      (first | (refine H.wg ?_; clear H; intros; rename_i w H; constructor) | refine wk ?_)
      ((first | refine draw_vcQ (id := 7) tabOk mixed [] [0, 1, 2, 3, 4, 5, 6, 7, 8, 9, 10, 11, 12, 13] (by kernel_rfl) ?_ | refine draw_vcQ (id := 8) tabOk mixed [] [0, 1, 2, 3, 4, 5, 6, 7, 8, 9, 10, 11, 12, 13, 14] (by kernel_rfl) ?_ | refine draw_vcQ (id := 16) tabOk mixed [6] [0, 1, 2, 3, 4, 5, 7, 8, 9, 10, 11, 6, 12, 13, 14, 15] (by kernel_rfl) ?_); intro w hdw; replace H := Rel.ext H hdw.ext)
      by_cases hjk : k = j
      · rw [if_pos hjk.symm] at hps
        have hp6 : Plain r6.a := (H.slfAt (i := 0) rfl (fun _ => rfl) (by decide)).cells.1 (by simp [runsI])
        (first | (refine H.wg ?_; clear H; intros; rename_i w H; constructor) | refine wk ?_)
        ((first | refine draw_vcQ (id := 7) tabOk mixed [] [0, 1, 2, 3, 4, 5, 6, 7, 8, 9, 10, 11, 12, 13] (by kernel_rfl) ?_ | refine draw_vcQ (id := 8) tabOk mixed [] [0, 1, 2, 3, 4, 5, 6, 7, 8, 9, 10, 11, 12, 13, 14] (by kernel_rfl) ?_ | refine draw_vcQ (id := 16) tabOk mixed [6] [0, 1, 2, 3, 4, 5, 7, 8, 9, 10, 11, 6, 12, 13, 14, 15] (by kernel_rfl) ?_); intro w hdw; replace H := Rel.ext H hdw.ext)
        (first | (refine H.wg ?_; clear H; intros; rename_i w H; constructor) | refine wk ?_)
        have S6 := H.slfAt (i := 0) rfl (fun _ => rfl) (by decide)
        obtain ⟨u0, u1, u2⟩ := S6.at2 (g := fun r : RunI => iv r.1) (g' := fun r : RunI => iv r.2) (fun _ => rfl) (i := rs.length) (by omega)
        have hget : (runsI (rs ++ [(j, n)]))[rs.length]'(by omega) = runI (j, n) := by simp [runsI]
        rw [hget] at u1 u2
        dsimp only [runI] at u1 u2
        rw [show rs.length = ((r6.len : Int) - 1).toNat by omega] at u2
        refine ⟨_, u2, ?_⟩
        (first | (refine H.wg ?_; clear H; intros; rename_i w H; constructor) | refine wk ?_)
        refine Rel.stRowN (i := 0) H rfl (rs.length * 2 + 1) (by omega) rfl (by show aoff r6.a + (((r6.len : Nat) : Int) - 1).toNat * 2 + 1 = _; omega) ?_
        clear H
        intro w H
        simp only [List.set_cons_zero] at H
        rw [runs_set, ← hps] at H
        (first | (refine H.wg ?_; clear H; intros; rename_i w H; constructor) | refine wk ?_)
        refine ⟨(by repeat (first | exact trivial | refine ⟨rfl, ?_⟩)), (p + 1, r6), ⟨rfl, congrArg (fun z => some (Value.bool z)) h5, rfl, trivial⟩, ⟨by dsimp only; omega, ?_⟩, by dsimp only; omega⟩
        dsimp only
        exact H
      · rw [if_neg (fun h => hjk h.symm)] at hps
        (first | (refine H.wg ?_; clear H; intros; rename_i w H; constructor) | refine wk ?_)
        refine SemOk.of (v := .agg #[iv (k : Int), iv 1]) (w' := w) (by kernel_rfl) ?_
        (first | (refine H.wg ?_; clear H; intros; rename_i w H; constructor) | refine wk ?_)
        refine Rel.app1_0 (f := rnC) (l := runsI (rs ++ [(j, n)])) (x := runI (k, 1)) tabOk rfl rfl rfl rfl rfl (by decide) (fun _ => rfl) (List.all_eq_true.1 rfl) H (by show ((runsI (rs ++ [(j, n)])).length + 1) * 16 ≤ _; omega) (by omega) ?_
        clear H
        intro r6 w H
        rw [show runsI (rs ++ [(j, n)]) ++ [runI (k, 1)] = runsI (rs ++ [(j, n), (k, 1)]) by simp [runsI], ← hps] at H
        (first | (refine H.wg ?_; clear H; intros; rename_i w H; constructor) | refine wk ?_)
        refine ⟨(by repeat (first | exact trivial | refine ⟨rfl, ?_⟩)), (p + 1, r6), ⟨rfl, congrArg (fun z => some (Value.bool z)) h5, rfl, trivial⟩, ⟨by dsimp only; omega, ?_⟩, by dsimp only; omega⟩
        dsimp only
        exact H
  · obtain rfl : p = ks.length := by omega
    have hrl := (runsOf_facts ks).2.2.2.2
    have hrsum := (runsOf_facts ks).2.2.2.1
    have hr1 : ∀ x ∈ runsI (runsOf ks), I64 x.1 ∧ I64 x.2 := runsI_i64 hl hk3
    rw [List.take_length] at H ⊢
    unfold txtRes
    have hil : (runsI (runsOf ks)).length = (runsOf ks).length := by simp [runsI]
    cases ht : txtTriv e ks with
    | true =>
      (first | (refine H.wg ?_; clear H; intros; rename_i w H; constructor) | refine wk ?_)
      exact ⟨V, ⟨none, 0, 0⟩, Sub.refl _, H.sx, rfl, SlF.nil _ _⟩
    | false =>
      obtain ⟨V2, hV2, H, hr6⟩ := Rel.freezeF H (fun _ => rfl) (by decide)
      have h6l := hr6.len
      have hpe := putN_len (n := (e : Int)) (by omega) (by omega)
      have hpl := putN_len (n := ((runsOf ks).length : Int)) (by omega) (by omega)
      obtain ⟨L, hL⟩ : ∃ L, L = runsI (runsOf ks) := ⟨_, rfl⟩
      rw [← hL] at hr6 hil hr1 h6l
      have eb : txtRB e (runsOf ks) = (putN (e : Int) ++ putN ((runsOf ks).length : Int)) ++ L.flatMap runB := by unfold txtRB putL; rw [← hL, hil, List.append_assoc]
      have eb2 : (if false = true then [] else txtRB e (runsOf ks)) = txtRB e (runsOf ks) := rfl
      rw [eb2, eb]
      (first | (refine H.wg ?_; clear H; intros; rename_i w H; constructor) | refine wk ?_)
      refine (put_ref (n := (e : Int)) H.data (by constructor <;> omega)).use ?_
      rintro v w ⟨r1, rfl, K⟩
      (have hKb := K.base; replace H := Rel.call H K)
      simp only [List.append_nil] at H
      obtain ⟨V3, hV3, H, h1⟩ := Rel.freezeF H (fun _ => rfl) (by decide)
      (first | (refine H.wg ?_; clear H; intros; rename_i w H; constructor) | refine wk ?_)
      rw [show ((r6.len : Nat) : Int) = ((runsOf ks).length : Int) by omega]
      refine (put_ref (n := ((runsOf ks).length : Int)) H.data (by constructor <;> omega)).use ?_
      rintro v w ⟨r2, rfl, K⟩
      (have hKb := K.base; replace H := Rel.call H K)
      simp only [List.append_nil] at H
      obtain ⟨V4, hV4, H, h2⟩ := Rel.freezeF H (fun _ => rfl) (by decide)
      (first | (refine H.wg ?_; clear H; intros; rename_i w H; constructor) | refine wk ?_)
      refine (join_ref H.data (h1.up hV4) h2 (by omega)).use ?_
      rintro v w ⟨r8, rfl, K⟩
      (have hKb := K.base; replace H := Rel.call H K)
      simp only [List.append_nil] at H
      obtain ⟨V5, hV5, H, h8⟩ := Rel.freezeF H (fun _ => rfl) (by decide)
      have hV25 := (hV3.trans hV4).trans hV5
      (first | (refine H.wg ?_; clear H; intros; rename_i w H; constructor) | refine wk ?_)
      refine loop_inv (S := Nat × Sl) tabOk [0, 1, 4, 5, 6, 7, 15, 39, 62] (fun q => [(9, iv q.1), (8, q.2.v)]) (fun q w' => q.1 ≤ L.length ∧ ∃ V6, Sub V5 V6 ∧ Rel W V [] V6 w' ∧ Byt V6 q.2 ((putN (e : Int) ++ putN ((runsOf ks).length : Int)) ++ (L.take q.1).flatMap runB)) (fun q _ => L.length - q.1) (0, r8) ?_
      (conv => whnf)
      refine ⟨(by repeat (first | exact trivial | refine ⟨rfl, ?_⟩)), ⟨Nat.zero_le _, V5, Sub.refl _, H, by rw [List.take_zero, List.flatMap_nil, List.append_nil]; exact h8⟩, ?_⟩
      clear H
      rintro ⟨q, r9⟩ w ⟨hq, V6, hV6, H, h9⟩
      dsimp only at hq H h9 ⊢
      by_cases hqt : q < L.length
      · obtain ⟨q0, d0, d1⟩ := (hr6.up (hV25.trans hV6)).at2 (g := fun r : RunI => iv r.1) (g' := fun r : RunI => iv r.2) (fun _ => rfl) hqt
        obtain ⟨i1, i2⟩ := hr1 L[q] (List.getElem_mem hqt)
        obtain ⟨x, hx⟩ : ∃ x, x = L[q] := ⟨_, rfl⟩
        rw [← hx] at d0 d1 i1 i2
        have hp1 := putN_len i1.1 i1.2
        have hp2 := putN_len i2.1 i2.2
        have hLt := runsB_take (l := L) hr1 q
        have hol : ((putN (e : Int) ++ putN ((runsOf ks).length : Int)) ++ (L.take q).flatMap runB).length ≤ 20 + 20 * q := by rw [List.length_append, List.length_append]; omega
        (first | (refine H.wg ?_; clear H; intros; rename_i w H; constructor) | refine wk ?_)
        ((first | refine draw_vcTX (id := 7) tabOk mixed (Kv V6) Kv.trans [] [] [0, 1, 2, 3, 4, 5, 6, 7, 8, 9, 10, 11, 12, 13] [] (by kernel_rfl) ?_ | refine draw_vcTX (id := 8) tabOk mixed (Kv V6) Kv.trans [] [] [0, 1, 2, 3, 4, 5, 6, 7, 8, 9, 10, 11, 12, 13, 14] [(14, [])] (by kernel_rfl) ?_ | refine draw_vcTX (id := 16) tabOk mixed (Kv V6) Kv.trans [6] [11] [0, 1, 2, 3, 4, 5, 7, 8, 9, 10, 11, 6, 12, 13, 14, 15] [(6, []), (12, [6]), (13, [6, 12]), (14, [6, 12, 13])] (by kernel_rfl) ?_); intro w hdw; replace H := Rel.ext H hdw.ext)
        repeat' ((first | (refine H.wh ?_; clear H; intros; rename_i w H; constructor) | refine wk ?_); first | (first | refine Kv.go H ?_ | refine Kv.go2 H (by assumption) ?_ | (refine And.intro (fun w1 hkp => ?_) ?_; focus ((first | have H := Kv.in H hkp | have H := Kv.in2 H (by assumption) hkp); ((repeat ((conv => whnf); first | refine an ?_ | refine H.ce ?_ | refine H.db ?_ | refine ea ?_ | refine ol ?_ | fail | refine cT ?_ | refine cF ?_ | refine cN ?_ | refine cM ?_ | refine H.lw ?_ | refine H.ll ?_)); (conv => whnf)); all_goals (first | exact ⟨rfl, rfl⟩ | exact rfl))) | refine And.intro ?_ ?_ | ((first | refine Rel.nwD H ?_ | refine Rel.nw H ?_); clear H; intro w _ H)) | (refine (put_ref (n := x.1) H.data i1).use ?_; rintro v w ⟨rq, rfl, K⟩; (have hKb := K.base; replace H := Rel.call H K); simp only [List.cons_append, List.nil_append, List.append_nil] at H) | (refine (put_ref (n := x.2) H.data i2).use ?_; rintro v w ⟨rq, rfl, K⟩; (have hKb := K.base; replace H := Rel.call H K); simp only [List.cons_append, List.nil_append, List.append_nil] at H))
        all_goals
          (first | (refine H.wg ?_; clear H; intros; rename_i w H; constructor) | refine wk ?_)
        obtain ⟨Va, hVa, H, ha⟩ := Rel.freezeF H (fun _ => rfl) (by decide)
        obtain ⟨Vb, hVb, H, hb⟩ := Rel.freezeF H (fun _ => rfl) (by decide)
        refine (join_ref H.data hb (ha.up hVb) (by omega)).use ?_
        rintro v w ⟨rj, rfl, K⟩
        (have hKb := K.base; replace H := Rel.call H K)
        simp only [List.append_nil] at H
        obtain ⟨Vc, hVc, H, hc⟩ := Rel.freezeF H (fun _ => rfl) (by decide)
        have hV6c := (hVa.trans hVb).trans hVc
        repeat' ((first | (refine H.wh ?_; clear H; intros; rename_i w H; constructor) | refine wk ?_); (first | refine Kv.go H ?_ | refine Kv.go2 H (by assumption) ?_ | (refine And.intro (fun w1 hkp => ?_) ?_; focus ((first | have H := Kv.in H hkp | have H := Kv.in2 H (by assumption) hkp); ((repeat ((conv => whnf); first | refine an ?_ | refine H.ce ?_ | refine H.db ?_ | refine ea ?_ | refine ol ?_ | fail | refine cT ?_ | refine cF ?_ | refine cN ?_ | refine cM ?_ | refine H.lw ?_ | refine H.ll ?_)); (conv => whnf)); all_goals (first | exact ⟨rfl, rfl⟩ | exact rfl))) | refine And.intro ?_ ?_ | ((first | refine Rel.nwD H ?_ | refine Rel.nw H ?_); clear H; intro w _ H)))
        (first | (refine H.wg ?_; clear H; intros; rename_i w H; constructor) | refine wk ?_)
        refine (join_ref H.data (h9.up hV6c) hc (by rw [show (putN x.1 ++ putN x.2).length = (putN x.1).length + (putN x.2).length from List.length_append]; omega)).use ?_
        rintro v w ⟨rk, rfl, K⟩
        (have hKb := K.base; replace H := Rel.call H K)
        simp only [List.append_nil] at H
        obtain ⟨Vd, hVd, H, hd⟩ := Rel.freezeF H (fun _ => rfl) (by decide)
        repeat' ((first | (refine H.wh ?_; clear H; intros; rename_i w H; constructor) | refine wk ?_); (first | refine Kv.go H ?_ | refine Kv.go2 H (by assumption) ?_ | (refine And.intro (fun w1 hkp => ?_) ?_; focus ((first | have H := Kv.in H hkp | have H := Kv.in2 H (by assumption) hkp); ((repeat ((conv => whnf); first | refine an ?_ | refine H.ce ?_ | refine H.db ?_ | refine ea ?_ | refine ol ?_ | fail | refine cT ?_ | refine cF ?_ | refine cN ?_ | refine cM ?_ | refine H.lw ?_ | refine H.ll ?_)); (conv => whnf)); all_goals (first | exact ⟨rfl, rfl⟩ | exact rfl))) | refine And.intro ?_ ?_ | ((first | refine Rel.nwD H ?_ | refine Rel.nw H ?_); clear H; intro w _ H)))
        · trivial
        refine ⟨(q + 1, rk), (by repeat (first | exact trivial | refine ⟨rfl, ?_⟩)), ⟨by dsimp only; omega, Vd, (hV6.trans hV6c).trans hVd, H.sx, ?_⟩, by dsimp only; omega⟩
        dsimp only
        rw [List.take_succ_eq_append_getElem hqt, List.flatMap_append, List.flatMap_singleton, ← hx, ← List.append_assoc]
        exact hd
      · rw [List.take_of_length_le (by omega)] at h9
        (first | (refine H.wg ?_; clear H; intros; rename_i w H; constructor) | refine wk ?_)
        exact ⟨V6, r9, (hV2.trans hV25).trans hV6, H.sx, rfl, h9⟩
end
end Go.Proofs.YtgnaojphgdaalaaDoor
namespace Go.Proofs.YtgnaojphgdaalaaDoor
open Go Go.RowKit

theorem many_pre {α : Type} {one : Nat → Got α} : ∀ {m k p q q' : Nat} {l l' : List α}, manyAt one k p = .ok l q → manyAt one (k + m) p = .ok l' q' → ∃ x, l' = l ++ x
  | 0, k, p, q, q', l, l', h, h' => by
    rw [Nat.add_zero, h] at h'
    cases h'
    exact ⟨[], by simp⟩
  | m + 1, k, p, q, q', l, l', h, h' => by
    rw [show k + (m + 1) = (k + m) + 1 by omega, manyAt_snoc] at h'
    split at h'
    · cases h'
    · rename_i l1 q1 h1
      split at h'
      · cases h'
      · cases h'
        obtain ⟨x, rfl⟩ := many_pre h h1
        exact ⟨_, List.append_assoc ..⟩
theorem manyR_ok {b : List UInt8} {n p q : Nat} {l : List RunI} (hp : p ≤ b.length) (h : manyAt (runAt b) n p = .ok l q) : l.length = n ∧ p + 2 * n ≤ q ∧ q ≤ b.length := by
  have h1 := (manyAt_ok (f := runB) (b := b) (one := runAt b) (fun p q x hp h => by
    obtain ⟨a1, a2, a3, _⟩ := runAt_ok hp h
    exact ⟨by omega, a2, a3⟩) _ _ _ _ hp h)
  refine ⟨h1.1, ?_⟩
  clear h1
  induction n generalizing q l with
  | zero => cases h; omega
  | succ n ih =>
    rw [manyAt_snoc] at h
    split at h
    · cases h
    · rename_i l1 q1 h1
      have i1 := ih h1
      split at h
      · cases h
      · rename_i h2
        cases h
        obtain ⟨a1, a2, _⟩ := runAt_ok i1.2 h2
        omega
/-- a residue, its head read -/
theorem raw_head {b : List UInt8} {e M p p1 : Nat} (h0 : numAt b 0 = .ok (e : Int) p) (he : e < 5) (h1 : numAt b p = .ok (M : Int) p1) : txtRaw b = if b.length < M then none else match manyAt (runAt b) M p1 with
    | .bad _ _ => none
    | .ok rs q => if q ≠ b.length then none else if okI 1000 3 rs = true then some (e, rs.map natR) else none := by
  unfold txtRaw
  rw [h0]
  simp only
  rw [if_neg (by omega)]
  unfold listAt
  rw [h1]
  simp only
  by_cases h : b.length < M
  · rw [if_pos h, if_pos (by omega)]
  · rw [if_neg h, if_neg (by omega), Int.toNat_natCast]
    cases manyAt (runAt b) M p1 with
    | bad c i => rfl
    | ok rs q => simp only [Int.toNat_natCast]
section
variable {b : List UInt8} {e M p p1 : Nat} (h0 : numAt b 0 = .ok (e : Int) p) (he : e < 5) (h1 : numAt b p = .ok (M : Int) p1)
include h0 he h1
theorem raw_big (h : 1000 < M) : txtRaw b = none := by
  obtain ⟨_, g2, _⟩ := numAt_ok (Nat.zero_le _) h0
  obtain ⟨_, k2, _⟩ := numAt_ok g2 h1
  rw [raw_head h0 he h1]
  split
  · rfl
  · split
    · rfl
    · rename_i rs q hm
      obtain ⟨hl, _⟩ := manyR_ok k2 hm
      split
      · rfl
      · rw [if_neg]
        intro ho
        have := (okI_len ho (by decide)).1
        omega
theorem raw_bad {k q : Nat} {ys : List RunI} {c i : Int} (hk : k < M) (hm : manyAt (runAt b) k p1 = .ok ys q) (hb : runAt b q = .bad c i) : txtRaw b = none := by
  have := manyAt_badAt hm hb (M - (k + 1))
  rw [show k + 1 + (M - (k + 1)) = M by omega] at this
  rw [raw_head h0 he h1, this]
  split <;> rfl
theorem raw_no {k q r : Nat} {ys : List RunI} {x : RunI} (hk : k < M) (hm : manyAt (runAt b) k p1 = .ok ys q) (hb : runAt b q = .ok x r) (hx : ¬ (0 ≤ x.1 ∧ x.1 < 3 ∧ 1 ≤ x.2 ∧ x.2 ≤ leftI 1000 ys ∧ x.1 ≠ lastI 3 ys)) : txtRaw b = none := by
  have h4 := manyAt_step hm hb
  rw [raw_head h0 he h1]
  split
  · rfl
  · split
    · rfl
    · rename_i rs q' hM
      obtain ⟨z, rfl⟩ := many_pre (m := M - (k + 1)) h4 (by rw [show k + 1 + (M - (k + 1)) = M by omega]; exact hM)
      split
      · rfl
      · rw [List.append_assoc, List.singleton_append, okI_false hx]
        rfl
end
theorem left_runs : ∀ (rs : List Run) (a : Int), leftI a (runsI rs) = a - ((runsK rs).length : Int)
  | [], a => by simp [runsI, runsK, leftI]
  | (k, n) :: rs, a => by
    have := left_runs rs (a - n)
    have e : (runsK ((k, n) :: rs)).length = n + (runsK rs).length := by unfold runsK; rw [List.flatMap_cons, List.length_append, List.length_replicate]
    show leftI (a - n) (runsI rs) = _
    rw [this, e]
    omega
theorem runsK_snoc (rs : List Run) (j n : Nat) : runsK (rs ++ [(j, n)]) = runsK rs ++ List.replicate n j := by unfold runsK; rw [List.flatMap_append, List.flatMap_singleton]
theorem runsI_snoc (rs : List Run) (j n : Nat) : runsI (rs ++ [(j, n)]) = runsI rs ++ [runI (j, n)] := by unfold runsI; rw [List.map_append]; rfl
/-- what textKinds returns -/
structure KndG (W V : World) (o : Option (Nat × List Run)) (q : Value) (w' : World) : Prop where
  ex : ∃ (V' : World) (r : Sl) (c : Int) (ok : Bool), Sub V V' ∧ Rel W V [] V' w' ∧ q = .tuple #[iv c, r.v, .bool ok] ∧ (match o with
    | none => ok = false
    | some (e, rs) => ok = true ∧ c = (e : Int) ∧ SlF naC V' r (runsK rs))
section
variable {V W : World}
set_option maxRecDepth 100000 in
set_option maxHeartbeats 1000000 in
theorem textKinds_ref (hV : Sub V W) {s : Sl} {b : List UInt8} (hs : Byt V s b) (hl : b.length ≤ 1000000000) : Ret Tryd.prog 44 [s.v].toArray W (KndG W V (txtRaw b)) := by
  have H := Rel.start hV
  have hlen := hs.len
  refine cal_of_vc tabOk Tryd.func44 rfl (by kernel_rfl) 116 rfl (by simp) [0, 2, 3, 4, 5, 6, 7, 8, 9, 10, 11, 12, 13, 14, 15, 16, 17, 26, 46, 49, 61, 99, 102] ?_
  (first | (refine H.wg ?_; clear H; intros; rename_i w H; constructor) | refine wk ?_)
  refine (get_ref (p := 0) H.data hs (by omega) (Nat.zero_le _)).use ?_
  rintro v w ⟨rfl, K⟩
  (have hKb := K.base; replace H := H.call0 K)
  cases hn : numAt b 0 with
  | bad c i =>
    have hc0 := numAt_ne hn
    have hr : txtRaw b = none := by unfold txtRaw; rw [hn]
    rw [hr]
    (first | (refine H.wh ?_; clear H; intros; rename_i w H; constructor) | refine wk ?_)
    ((first | refine Rel.nwD H ?_ | refine Rel.nw H ?_); clear H; intro w b7 H)
    (first | (refine H.wg ?_; clear H; intros; rename_i w H; constructor) | refine wk ?_)
    exact ⟨V, ⟨none, 0, 0⟩, 0, false, Sub.refl _, H.sx, rfl, rfl⟩
  | ok c q =>
    obtain ⟨g1, g2, g3, g4, g5⟩ := numAt_ok (Nat.zero_le _) hn
    (first | (refine H.wh ?_; clear H; intros; rename_i w H; constructor) | refine wk ?_)
    ((first | refine Rel.nwD H ?_ | refine Rel.nw H ?_); clear H; intro w b7 H)
    (first | (refine H.wg ?_; clear H; intros; rename_i w H; constructor) | refine wk ?_)
    refine (get_ref (p := q) H.data hs (by omega) g2).use ?_
    rintro v w ⟨rfl, K⟩
    (have hKb := K.base; replace H := H.call0 K)
    cases hn2 : numAt b q with
    | bad c' i =>
      have hc0 := numAt_ne hn2
      have hr : txtRaw b = none := by
        unfold txtRaw
        rw [hn]
        simp only
        split
        · rfl
        · rw [listAt, hn2]
      rw [hr]
      (first | (refine H.wg ?_; clear H; intros; rename_i w H; constructor) | refine wk ?_)
      exact ⟨V, ⟨none, 0, 0⟩, 0, false, Sub.refl _, H.sx, rfl, rfl⟩
    | ok N q0 =>
      obtain ⟨k1, k2, k3, k4, k5⟩ := numAt_ok g2 hn2
      have hce : ¬ (0 ≤ c ∧ c ≤ 4) → txtRaw b = none := fun h => by unfold txtRaw; rw [hn]; simp only; rw [if_pos (by omega)]
      have hNe : N < 0 → txtRaw b = none := fun h => by
        unfold txtRaw
        rw [hn]
        simp only
        split
        · rfl
        · rw [listAt, hn2]
          simp only
          rw [if_pos (.inl h)]
      (first | (refine H.wg ?_; clear H; intros; rename_i w H; constructor) | refine wk ?_)
      refine (in_ref N 0 1000 _).use ?_
      rintro v w' ⟨rfl, rfl⟩
      by_cases hN : 0 ≤ N ∧ N ≤ 1000
      rotate_left
      · have hr : txtRaw b = none := by
          by_cases h2 : N < 0
          · exact hNe h2
          by_cases h3 : 0 ≤ c ∧ c ≤ 4
          · obtain ⟨M, rfl⟩ : ∃ M : Nat, N = M := ⟨N.toNat, by omega⟩
            obtain ⟨C, rfl⟩ : ∃ C : Nat, c = C := ⟨c.toNat, by omega⟩
            exact raw_big hn (by omega) hn2 (by omega)
          · exact hce h3
        rw [hr, decide_eq_false hN]
        (first | (refine H.wg ?_; clear H; intros; rename_i w H; constructor) | refine wk ?_)
        exact ⟨V, ⟨none, 0, 0⟩, 0, false, Sub.refl _, H.sx, rfl, rfl⟩
      rw [decide_eq_true hN]
      (first | (refine H.wg ?_; clear H; intros; rename_i w H; constructor) | refine wk ?_)
      refine (in_ref c 0 4 _).use ?_
      rintro v w' ⟨rfl, rfl⟩
      by_cases hc : 0 ≤ c ∧ c ≤ 4
      rotate_left
      · rw [hce hc, decide_eq_false hc]
        (first | (refine H.wg ?_; clear H; intros; rename_i w H; constructor) | refine wk ?_)
        exact ⟨V, ⟨none, 0, 0⟩, 0, false, Sub.refl _, H.sx, rfl, rfl⟩
      rw [decide_eq_true hc]
      obtain ⟨M, rfl⟩ : ∃ M : Nat, N = M := ⟨N.toNat, by omega⟩
      obtain ⟨C, rfl⟩ : ∃ C : Nat, c = C := ⟨c.toNat, by omega⟩
      have hC : C < 5 := by omega
      (first | (refine H.wg ?_; clear H; intros; rename_i w H; constructor) | refine wk ?_)
      replace H := H.rowNil 3 1
      refine loop_inv (S := Nat × Nat × Sl × List Run) tabOk [0, 5, 7, 8, 26, 46] (fun z => [(10, iv z.1), (6, iv z.2.1), (9, z.2.2.1.v)]) (fun z w' => z.1 ≤ M ∧ z.2.1 ≤ b.length ∧ manyAt (runAt b) z.1 q0 = .ok (runsI z.2.2.2) z.2.1 ∧ okI 1000 3 (runsI z.2.2.2) = true ∧ Rel W V [.row z.2.2.1 3 1 ((runsK z.2.2.2).flatMap naC)] V w') (fun z _ => M - z.1) (0, q0, ⟨none, 0, 0⟩, []) ?_
      (conv => whnf)
      refine ⟨(by repeat (first | exact trivial | refine ⟨rfl, ?_⟩)), ⟨by omega, k2, rfl, rfl, H.sx⟩, ?_⟩
      clear H
      rintro ⟨k, p, r9, rs⟩ w ⟨hk, hp, hm, ho, H⟩
      dsimp only at hk hp hm ho H ⊢
      obtain ⟨o1, o2, o3⟩ := okI_len ho (by decide)
      have hleft := left_runs rs 1000
      rw [hleft] at o2 o3
      have hr9 := H.rowLen (i := 0) rfl (fun _ => rfl) (by decide)
      by_cases hlt : k < M
      · (first | (refine H.wg ?_; clear H; intros; rename_i w H; constructor) | refine wk ?_)
        refine (get_ref (p := p) H.data hs (by omega) hp).use ?_
        rintro v w ⟨rfl, K⟩
        (have hKb := K.base; replace H := H.call0 K)
        cases hn3 : numAt b p with
        | bad c' i =>
          have hc0 := numAt_ne hn3
          have hr : txtRaw b = none := raw_bad hn hC hn2 hlt hm (by unfold runAt; rw [hn3])
          rw [hr]
          (first | (refine H.wh ?_; clear H; intros; rename_i w H; constructor) | refine wk ?_)
          ((first | refine Rel.nwD H ?_ | refine Rel.nw H ?_); clear H; intro w b13 H)
          (first | (refine H.wg ?_; clear H; intros; rename_i w H; constructor) | refine wk ?_)
          exact ⟨V, ⟨none, 0, 0⟩, 0, false, Sub.refl _, H.sx, rfl, rfl⟩
        | ok kd p2 =>
          obtain ⟨a1, a2, a3, a4, a5⟩ := numAt_ok hp hn3
          (first | (refine H.wh ?_; clear H; intros; rename_i w H; constructor) | refine wk ?_)
          ((first | refine Rel.nwD H ?_ | refine Rel.nw H ?_); clear H; intro w b13 H)
          (first | (refine H.wg ?_; clear H; intros; rename_i w H; constructor) | refine wk ?_)
          refine (get_ref (p := p2) H.data hs (by omega) a2).use ?_
          rintro v w ⟨rfl, K⟩
          (have hKb := K.base; replace H := H.call0 K)
          cases hn4 : numAt b p2 with
          | bad c' i =>
            have hc0 := numAt_ne hn4
            have hr : txtRaw b = none := raw_bad hn hC hn2 hlt hm (by unfold runAt; rw [hn3]; simp only; rw [hn4])
            rw [hr]
            (first | (refine H.wh ?_; clear H; intros; rename_i w H; constructor) | refine wk ?_)
            ((first | refine Rel.nwD H ?_ | refine Rel.nw H ?_); clear H; intro w b16 H)
            (first | (refine H.wg ?_; clear H; intros; rename_i w H; constructor) | refine wk ?_)
            exact ⟨V, ⟨none, 0, 0⟩, 0, false, Sub.refl _, H.sx, rfl, rfl⟩
          | ok ct p3 =>
            obtain ⟨d1, d2, d3, d4, d5⟩ := numAt_ok a2 hn4
            have hra : runAt b p = .ok (kd, ct) p3 := by unfold runAt; rw [hn3]; simp only; rw [hn4]
            have hno : ¬ (0 ≤ kd ∧ kd < 3 ∧ 1 ≤ ct ∧ ct ≤ leftI 1000 (runsI rs) ∧ kd ≠ lastI 3 (runsI rs)) → txtRaw b = none := fun h => raw_no hn hC hn2 hlt hm hra h
            rw [hleft] at hno
            (first | (refine H.wh ?_; clear H; intros; rename_i w H; constructor) | refine wk ?_)
            ((first | refine Rel.nwD H ?_ | refine Rel.nw H ?_); clear H; intro w b16 H)
            (first | (refine H.wg ?_; clear H; intros; rename_i w H; constructor) | refine wk ?_)
            refine (in_ref kd 0 2 _).use ?_
            rintro v w' ⟨rfl, rfl⟩
            by_cases b1 : 0 ≤ kd ∧ kd ≤ 2
            rotate_left
            · rw [hno (fun h => b1 ⟨h.1, by omega⟩), decide_eq_false b1]
              (first | (refine H.wg ?_; clear H; intros; rename_i w H; constructor) | refine wk ?_)
              exact ⟨V, ⟨none, 0, 0⟩, 0, false, Sub.refl _, H.sx, rfl, rfl⟩
            rw [decide_eq_true b1]
            (first | (refine H.wg ?_; clear H; intros; rename_i w H; constructor) | refine wk ?_)
            refine (in_ref ct 1 (1000 - (r9.len : Int)) _).use ?_
            rintro v w' ⟨rfl, rfl⟩
            by_cases b2 : 1 ≤ ct ∧ ct ≤ 1000 - (r9.len : Int)
            rotate_left
            · rw [hno (fun h => b2 ⟨h.2.2.1, by omega⟩), decide_eq_false b2]
              (first | (refine H.wg ?_; clear H; intros; rename_i w H; constructor) | refine wk ?_)
              exact ⟨V, ⟨none, 0, 0⟩, 0, false, Sub.refl _, H.sx, rfl, rfl⟩
            rw [decide_eq_true b2]
            obtain ⟨kd, rfl⟩ : ∃ n : Nat, kd = n := ⟨kd.toNat, by omega⟩
            obtain ⟨ct, rfl⟩ : ∃ n : Nat, ct = n := ⟨ct.toNat, by omega⟩
            have hok : ((kd : Int) ≠ lastI 3 (runsI rs)) → okI 1000 3 (runsI (rs ++ [(kd, ct)])) = true := fun h => by
              rw [runsI_snoc, okI_append, ho, hleft]
              show (true && (decide (0 ≤ (kd : Int) ∧ (kd : Int) < 3 ∧ 1 ≤ (ct : Int) ∧ (ct : Int) ≤ 1000 - ((runsK rs).length : Int) ∧ (kd : Int) ≠ lastI 3 (runsI rs)) && true)) = true
              rw [decide_eq_true ⟨by omega, by omega, by omega, by omega, h⟩]
              rfl
            have hm' := manyAt_step hm hra
            rw [show runsI rs ++ [((kd : Int), (ct : Int))] = runsI (rs ++ [(kd, ct)]) from (runsI_snoc rs kd ct).symm] at hm'
            rcases snoc_of rs with hrs | ⟨rs', ⟨j, n⟩, hrs⟩
            · have hl3 : lastI 3 (runsI rs) = 3 := by rw [hrs]; rfl
              have hkl : (runsK rs).length = 0 := by rw [hrs]; rfl
              have hok := hok (by rw [hl3]; omega)
              (first | (refine H.wg ?_; clear H; intros; rename_i w H; constructor) | refine wk ?_)
              have H0 : Rel W V [.row r9 3 1 ((runsK rs).flatMap naC)] V w := H.sx
              clear H
              have H := H0
              clear H0
              refine loop_inv (S := Nat × Sl) tabOk [0, 2, 3, 4, 5, 6, 7, 8, 10, 11, 12, 13, 14, 15, 16, 26, 46, 49, 61, 99] (fun z => [(17, iv z.1), (9, z.2.v)]) (fun z w' => z.1 ≤ ct ∧ Rel W V [.row z.2 3 1 ((runsK rs ++ List.replicate z.1 kd).flatMap naC)] V w') (fun z _ => ct - z.1) (0, r9) ?_
              (conv => whnf)
              refine ⟨(by repeat (first | exact trivial | refine ⟨rfl, ?_⟩)), ⟨Nat.zero_le _, by rw [show List.replicate 0 kd = [] from rfl, List.append_nil]; exact H⟩, ?_⟩
              clear H
              rintro ⟨i, ri⟩ w ⟨hi, H⟩
              dsimp only at hi H ⊢
              have hil : (runsK rs ++ List.replicate i kd).length = (runsK rs).length + i := by rw [List.length_append, List.length_replicate]
              by_cases hit : i < ct
              · (first | (refine H.wg ?_; clear H; intros; rename_i w H; constructor) | refine wk ?_)
                refine Rel.app1_0 (f := naC) (l := runsK rs ++ List.replicate i kd) (x := kd) tabOk rfl rfl rfl rfl rfl (by decide) (fun _ => rfl) (List.all_eq_true.1 rfl) H (by show ((runsK rs ++ List.replicate i kd).length + 1) * 8 ≤ _; omega) (by omega) ?_
                clear H
                intro rn w H
                rw [List.append_assoc, ← List.replicate_succ'] at H
                (first | (refine H.wg ?_; clear H; intros; rename_i w H; constructor) | refine wk ?_)
                exact ⟨(by repeat (first | exact trivial | refine ⟨rfl, ?_⟩)), (i + 1, rn), (by repeat (first | exact trivial | refine ⟨rfl, ?_⟩)), ⟨by dsimp only; omega, H⟩, by dsimp only; omega⟩
              · obtain rfl : i = ct := by omega
                rw [← runsK_snoc] at H
                (first | (refine H.wg ?_; clear H; intros; rename_i w H; constructor) | refine wk ?_)
                exact ⟨(by repeat (first | exact trivial | refine ⟨rfl, ?_⟩)), (k + 1, p3, ri, rs ++ [(kd, i)]), (by repeat (first | exact trivial | refine ⟨rfl, ?_⟩)), ⟨by dsimp only; omega, d2, hm', hok, H⟩, by dsimp only; omega⟩
            · have hl3 : lastI 3 (runsI rs) = (j : Int) := by rw [hrs, runsI_snoc, lastI_snoc]
              have hn1 : 1 ≤ n := by
                rw [hrs, runsI_snoc, okI_append] at ho
                simp only [okI, Bool.and_eq_true, decide_eq_true_eq] at ho
                have := ho.2.1.2.2.1
                omega
              have hKs : runsK rs = runsK rs' ++ List.replicate (n - 1) j ++ [j] := by
                rw [hrs, runsK_snoc, List.append_assoc, ← List.replicate_succ', show n - 1 + 1 = n by omega]
              have hKl := congrArg List.length hKs
              rw [List.length_append (bs := [j]), List.length_singleton] at hKl
              have hp9 : Plain r9.a := (H.slfAt (i := 2) rfl (fun _ => rfl) (by decide)).cells.1 (by rw [hKs]; simp [naC])
              rw [hl3] at hno hok
              (first | (refine H.wg ?_; clear H; intros; rename_i w H; constructor) | refine wk ?_)
              obtain ⟨_, u1⟩ := (H.slfAt (i := 2) rfl (fun _ => rfl) (by decide)).at1 (g := fun u : Nat => iv (u : Int)) (fun _ => rfl) (i := ((r9.len : Int) - 1).toNat) (by omega)
              have hget : (runsK rs)[((r9.len : Int) - 1).toNat]'(by omega) = j := by
                have : ∀ i (h : i < (runsK rs).length), i + 1 = (runsK rs).length → (runsK rs)[i] = j := fun i h e => by
                  have e2 : (runsK rs)[i]? = some j := by
                    rw [hKs, List.getElem?_append_right (by omega), show i - (runsK rs' ++ List.replicate (n - 1) j).length = 0 by omega]
                    rfl
                  rw [List.getElem?_eq_getElem h] at e2
                  exact Option.some.inj e2
                exact this _ _ (by omega)
              rw [hget] at u1
              refine ⟨_, u1, ?_⟩
              by_cases hkj : (kd : Int) = j
              · rw [hno (fun h => h.2.2.2.2 hkj)]
                (first | (refine H.wg ?_; clear H; intros; rename_i w H; constructor) | refine wk ?_)
                exact ⟨V, ⟨none, 0, 0⟩, 0, false, Sub.refl _, H.sx, rfl, rfl⟩
              · have hok := hok hkj
                (first | (refine H.wg ?_; clear H; intros; rename_i w H; constructor) | refine wk ?_)
                have H0 : Rel W V [.row r9 3 1 ((runsK rs).flatMap naC)] V w := H.sx
                clear H
                have H := H0
                clear H0
                refine loop_inv (S := Nat × Sl) tabOk [0, 2, 3, 4, 5, 6, 7, 8, 10, 11, 12, 13, 14, 15, 16, 26, 46, 49, 61, 99] (fun z => [(17, iv z.1), (9, z.2.v)]) (fun z w' => z.1 ≤ ct ∧ Rel W V [.row z.2 3 1 ((runsK rs ++ List.replicate z.1 kd).flatMap naC)] V w') (fun z _ => ct - z.1) (0, r9) ?_
                (conv => whnf)
                refine ⟨(by repeat (first | exact trivial | refine ⟨rfl, ?_⟩)), ⟨Nat.zero_le _, by rw [show List.replicate 0 kd = [] from rfl, List.append_nil]; exact H⟩, ?_⟩
                clear H
                rintro ⟨i, ri⟩ w ⟨hi, H⟩
                dsimp only at hi H ⊢
                have hil : (runsK rs ++ List.replicate i kd).length = (runsK rs).length + i := by rw [List.length_append, List.length_replicate]
                by_cases hit : i < ct
                · (first | (refine H.wg ?_; clear H; intros; rename_i w H; constructor) | refine wk ?_)
                  refine Rel.app1_0 (f := naC) (l := runsK rs ++ List.replicate i kd) (x := kd) tabOk rfl rfl rfl rfl rfl (by decide) (fun _ => rfl) (List.all_eq_true.1 rfl) H (by show ((runsK rs ++ List.replicate i kd).length + 1) * 8 ≤ _; omega) (by omega) ?_
                  clear H
                  intro rn w H
                  rw [List.append_assoc, ← List.replicate_succ'] at H
                  (first | (refine H.wg ?_; clear H; intros; rename_i w H; constructor) | refine wk ?_)
                  exact ⟨(by repeat (first | exact trivial | refine ⟨rfl, ?_⟩)), (i + 1, rn), (by repeat (first | exact trivial | refine ⟨rfl, ?_⟩)), ⟨by dsimp only; omega, H⟩, by dsimp only; omega⟩
                · obtain rfl : i = ct := by omega
                  rw [← runsK_snoc] at H
                  (first | (refine H.wg ?_; clear H; intros; rename_i w H; constructor) | refine wk ?_)
                  exact ⟨(by repeat (first | exact trivial | refine ⟨rfl, ?_⟩)), (k + 1, p3, ri, rs ++ [(kd, i)]), (by repeat (first | exact trivial | refine ⟨rfl, ?_⟩)), ⟨by dsimp only; omega, d2, hm', hok, H⟩, by dsimp only; omega⟩
      · obtain rfl : k = M := by omega
        obtain ⟨m1, m2, m3⟩ := manyR_ok k2 hm
        have hres := raw_head hn hC hn2
        rw [if_neg (by omega), hm] at hres
        simp only at hres
        rw [if_pos ho, natR_I] at hres
        obtain ⟨V2, hV2, H, hr⟩ := Rel.freezeF H (fun _ => rfl) (by decide)
        by_cases he : p = b.length
        · rw [if_neg (by omega)] at hres
          rw [hres]
          (first | (refine H.wg ?_; clear H; intros; rename_i w H; constructor) | refine wk ?_)
          exact ⟨V2, r9, C, _, hV2, H.sx, rfl, decide_eq_true (by omega), rfl, hr⟩
        · rw [if_pos he] at hres
          rw [hres]
          (first | (refine H.wg ?_; clear H; intros; rename_i w H; constructor) | refine wk ?_)
          exact ⟨V2, r9, C, _, hV2, H.sx, rfl, decide_eq_false (by omega)⟩
end
end Go.Proofs.YtgnaojphgdaalaaDoor
