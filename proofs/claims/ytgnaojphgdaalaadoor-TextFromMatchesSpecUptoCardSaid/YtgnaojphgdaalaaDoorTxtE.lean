/-
  Text files: line ends and residues.
-/
import Derived.Test.YtgnaojphgdaalaaDoorTxtB
import Derived.Test.YtgnaojphgdaalaaDoorLibD
import Derived.Test.YtgnaojphgdaalaaDoorTxtD
import Derived.Test.YtgnaojphgdaalaaDoorLibB
namespace Go.Proofs.YtgnaojphgdaalaaDoor
open Go Go.RowKit

theorem flat_lf (o : List Nat) : List.flatMap u8c (o ++ [10]) = List.flatMap u8c o ++ [10] := by rw [List.flatMap_append]; rfl
/-- one more line end behind -/
def pushR (rs : List Run) (k : Nat) : List Run := match rs with
  | [] => [(k, 1)]
  | [(j, n)] => if j = k then [(j, n + 1)] else [(j, n), (k, 1)]
  | r :: x :: rs => r :: pushR (x :: rs) k
theorem pushR_snoc : ∀ (rs : List Run) (j n k : Nat), pushR (rs ++ [(j, n)]) k = if j = k then rs ++ [(j, n + 1)] else rs ++ [(j, n), (k, 1)]
  | [], j, n, k => by simp only [List.nil_append, pushR]
  | [r], j, n, k => by
    show r :: pushR [(j, n)] k = _
    rw [show pushR [(j, n)] k = if j = k then [(j, n + 1)] else [(j, n), (k, 1)] from rfl]
    split <;> rfl
  | r :: x :: rs, j, n, k => by
    have := pushR_snoc (x :: rs) j n k
    show r :: pushR (x :: rs ++ [(j, n)]) k = _
    rw [this]
    split <;> rfl
def mergeR (k : Nat) : List Run → List Run
  | (j, n) :: r => if k = j then (j, n + 1) :: r else (k, 1) :: (j, n) :: r
  | [] => [(k, 1)]
theorem runsOf_cons (k : Nat) (ks : List Nat) : runsOf (k :: ks) = mergeR k (runsOf ks) := by
  rw [runsOf]
  cases runsOf ks with
  | nil => rfl
  | cons x r => rfl
theorem merge_push (a k : Nat) : ∀ rs : List Run, mergeR a (pushR rs k) = pushR (mergeR a rs) k
  | [] => by
    show mergeR a [(k, 1)] = pushR [(a, 1)] k
    show (if a = k then [(k, 2)] else [(a, 1), (k, 1)]) = if a = k then [(a, 2)] else [(a, 1), (k, 1)]
    split
    · rename_i h; rw [h]
    · rfl
  | [(j, n)] => by
    show mergeR a (if j = k then [(j, n + 1)] else [(j, n), (k, 1)]) = pushR (if a = j then [(j, n + 1)] else [(a, 1), (j, n)]) k
    by_cases h1 : j = k <;> by_cases h2 : a = j <;> simp [mergeR, pushR, h1, h2]
    all_goals (try subst h1); (try subst h2); (try simp_all)
    all_goals (show _ = (_, 1) :: (if _ = _ then _ else _); simp)
  | (j, n) :: x :: rs => by
    show mergeR a ((j, n) :: pushR (x :: rs) k) = pushR (if a = j then (j, n + 1) :: x :: rs else (a, 1) :: (j, n) :: x :: rs) k
    by_cases h2 : a = j
    · rw [if_pos h2]
      show (if a = j then (j, n + 1) :: pushR (x :: rs) k else _) = _
      rw [if_pos h2]
      rfl
    · rw [if_neg h2]
      show (if a = j then _ else (a, 1) :: (j, n) :: pushR (x :: rs) k) = _
      rw [if_neg h2]
      rfl
theorem runsOf_snoc : ∀ (ks : List Nat) (k : Nat), runsOf (ks ++ [k]) = pushR (runsOf ks) k
  | [], k => rfl
  | a :: ks, k => by rw [List.cons_append, runsOf_cons, runsOf_snoc ks k, runsOf_cons, merge_push]
theorem snoc_of {α : Type} (l : List α) : l = [] ∨ ∃ i x, l = i ++ [x] := by
  rcases List.eq_nil_or_concat l with h | ⟨i, x, h⟩
  · exact .inl h
  · exact .inr ⟨i, x, by simpa using h⟩
/-- one cell of a row that is owned, written -/
theorem Rel.stRowN {w0 V0 V w : World} {own : List Res} (H : Rel w0 V0 own V w) {i sz : Nat} {s : Sl} {e : TypeId} {xs : List Value} (hi : own[i]? = some (.row s e sz xs)) (j : Nat) (hj : j < s.len * sz) {b o : Nat} (hb : b = ablk s.a) (ho : o = aoff s.a + j) {v : Value} {k : World → Prop}
    (hk : ∀ w', Rel w0 V0 (own.set i (.row s e sz (xs.set j v))) V w' → k w') : ∃ c t', Blk w b c t' ∧ replK c o [v] fun c' => ∀ w', Upd w b c' t' w' → k w' := by
  have hr := H.rowAt hi
  rcases hr.at_ with ⟨_, h2, _⟩ | ⟨b0, cur, h1, h2, h3, h4, h5, h6⟩
  · rw [h2, Nat.zero_mul] at hj; omega
  · rw [h1] at hb ho
    simp only [ablk, aoff, Nat.zero_add] at hb ho
    subst hb ho
    have hbl : Blk w b cur.toList e := by
      show w.heap[b]? = _
      rw [h2]
    have hle := Nat.mul_le_mul_right sz h3
    refine ⟨cur.toList, e, hbl, replK_set1 (by rw [Array.length_toList, h5]; omega) fun w' hu => hk w' ?_⟩
    have hu' := hu
    obtain ⟨rfl⟩ := hu
    refine H.put hi rfl rfl rfl (by simp) (fun k _ hk => hu'.other fun e => hk (by rw [e]; simp [Res.at_, h1])) ⟨by rw [List.length_set, hr.len], .inr ⟨b, (cur.toList.set o v).toArray, h1, hu'.blk hbl.lt, h3, h4, by simp [h5], ?_⟩⟩ fun k hk => .inl hk
    rw [← h6]
    simp [List.take_set]
theorem runs_set (rs : List Run) (j n : Nat) : ((runsI (rs ++ [(j, n)])).flatMap rnC).set (rs.length * 2 + 1) (iv ((n : Int) + 1)) = (runsI (rs ++ [(j, n + 1)])).flatMap rnC := by
  have hl : ((runsI rs).flatMap rnC).length = rs.length * 2 := by rw [flat_len (n := 2) (fun _ => rfl)]; simp [runsI]
  unfold runsI
  rw [List.map_append, List.flatMap_append, List.map_append, List.flatMap_append]
  unfold runsI at hl
  rw [List.set_append_right _ _ (by omega), hl, show rs.length * 2 + 1 - rs.length * 2 = 1 by omega]
  rfl
/-- what plain answers -/
structure PlnR (W V : World) (l : List Nat) (v : Value) (w' : World) : Prop where
  ex : ∃ (V' : World) (r q : Sl), Sub V V' ∧ Rel W V [] V' w' ∧ v = .tuple #[r.v, q.v] ∧ Byt V' r ((lines l).1.flatMap u8c) ∧ SlF rnC V' q (runsI (runsOf (lines l).2))
section
variable {V W : World}
set_option maxRecDepth 100000 in
set_option maxHeartbeats 1000000 in
theorem plain_txt (hV : Sub V W) {s : Sl} {l : List Nat} (hs : SlF ruC V s l) (hl : l.length ≤ 100000) (hc : ∀ c ∈ l, isCh c) : Ret Tryd.prog 28 [s.v].toArray W (PlnR W V l) := by
  have H := Rel.start hV
  have hlen := hs.len
  refine cal_of_vc tabOk Tryd.func28 rfl (by kernel_rfl) 95 rfl (by simp) [0, 2, 3, 4, 5, 6, 7, 8, 12, 26, 33, 56, 78] ?_
  (first | (refine H.wg ?_; clear H; intros; rename_i w H; constructor) | refine wk ?_)
  replace H := H.rowNil 97 2
  replace H := H.rowNil 5 1
  refine loop_inv (S := Nat × Sl × Sl × List Nat × List Nat) tabOk [0, 2, 3] (fun q => [(4, q.2.1.v), (5, q.2.2.1.v), (6, iv q.1)])
    (fun q w' => q.1 ≤ l.length ∧ lines l = (q.2.2.2.1 ++ (lines (l.drop q.1)).1, q.2.2.2.2 ++ (lines (l.drop q.1)).2) ∧ (q.2.2.2.1.flatMap u8c).length ≤ 4 * q.1 ∧ q.2.2.2.2.length ≤ q.1 ∧ Rel W V [.row q.2.1 5 1 ((q.2.2.2.1.flatMap u8c).flatMap byC), .row q.2.2.1 97 2 ((runsI (runsOf q.2.2.2.2)).flatMap rnC)] V w') (fun q _ => l.length - q.1) (0, ⟨none, 0, 0⟩, ⟨none, 0, 0⟩, [], []) ?_
  (conv => whnf)
  refine ⟨(by repeat (first | exact trivial | refine ⟨rfl, ?_⟩)), ⟨by omega, rfl, Nat.le_refl _, Nat.le_refl _, H⟩, ?_⟩
  clear H
  rintro ⟨i, r4, r5, o, ks⟩ w ⟨hi, hln, hol, hkl, H⟩
  dsimp only at hi hln hol hkl H ⊢
  have hrl := (runsOf_facts ks).2.2.2.2
  have hns : ∀ rs j n, runsOf ks = rs ++ [(j, n)] → n ≤ ks.length := fun rs j n h => by
    have := (runsOf_facts ks).2.2.2.1
    rw [h] at this
    simp [runsSum] at this
    omega
  by_cases hlt : i < l.length
  rotate_left
  · rw [List.drop_of_length_le (by omega)] at hln
    simp only [lines, List.append_nil] at hln
    obtain ⟨V2, hV2, H, h4⟩ := Rel.freezeF H (fun _ => rfl) (by decide)
    obtain ⟨V3, hV3, H, h5⟩ := Rel.freezeF H (fun _ => rfl) (by decide)
    (first | (refine H.wg ?_; clear H; intros; rename_i w H; constructor) | refine wk ?_)
    refine ⟨V3, r4, r5, hV2.trans hV3, H.sx, rfl, ?_, ?_⟩
    · rw [hln]; exact h4.up hV3
    · rw [hln]; exact h5
  obtain ⟨p0, c0⟩ := hs.at1 (g := rv) (fun _ => rfl) hlt
  have hdr : l.drop i = l[i] :: l.drop (i + 1) := List.drop_eq_getElem_cons hlt
  have hch := hc l[i] (List.getElem_mem hlt)
  obtain ⟨c, hcc⟩ : ∃ c, c = l[i] := ⟨_, rfl⟩
  rw [← hcc] at c0 hdr hch
  rw [hdr] at hln
  have hun := u8n_le c
  by_cases h10 : c = 10
  · subst h10
    have e := lines_lf (l.drop (i + 1))
    (first | (refine H.wg ?_; clear H; intros; rename_i w H; constructor) | refine wk ?_)
    refine Rel.app1_0 (f := byC) (l := o.flatMap u8c) (x := 10) tabOk rfl rfl rfl rfl rfl (by decide) (fun _ => rfl) (List.all_eq_true.1 rfl) H (by show ((o.flatMap u8c).length + 1) * 1 ≤ _; omega) (by omega) ?_
    clear H
    intro r4 w H
    have hq5 := H.rowLen (i := 1) rfl (fun _ => rfl) (by decide)
    have hil : (runsI (runsOf ks)).length = (runsOf ks).length := by simp [runsI]
    (first | (refine H.wg ?_; clear H; intros; rename_i w H; constructor) | refine wk ?_)
    rcases snoc_of (runsOf ks) with hrs | ⟨rs, ⟨j, n⟩, hrs⟩
    · rw [hrs] at hil hq5 H
      simp only [runsI, List.map_nil, List.length_nil] at hil hq5
      (first | (refine H.wg ?_; clear H; intros; rename_i w H; constructor) | refine wk ?_)
      refine Rel.app1_1 (f := rnC) (l := []) (x := runI (0, 1)) tabOk rfl rfl rfl rfl rfl (by decide) (fun _ => rfl) (List.all_eq_true.1 rfl) H (by simp) (by simp) ?_
      clear H
      intro r5 w H
      (first | (refine H.wg ?_; clear H; intros; rename_i w H; constructor) | refine wk ?_)
      refine ⟨(by repeat (first | exact trivial | refine ⟨rfl, ?_⟩)), (i + 1, r4, r5, o ++ [10], ks ++ [0]), ⟨rfl, rfl, congrArg (fun z => some (iv z)) (by dsimp only; omega), trivial⟩, ⟨by dsimp only; omega, by dsimp only; rw [hln, e]; simp, by dsimp only; rw [List.flatMap_append, List.length_append]; have : ([10].flatMap u8c).length = 1 := rfl; omega, by dsimp only; rw [List.length_append, List.length_singleton]; omega, ?_⟩, by dsimp only; omega⟩
      dsimp only
      rw [flat_lf]
      rw [runsOf_snoc, hrs]
      exact H
    · rw [hrs] at hil hq5 H
      rw [hrs] at hrl
      simp only [List.length_append, List.length_singleton] at hil hrl
      have S5 := H.slfAt (i := 1) rfl (fun _ => rfl) (by decide)
      obtain ⟨u0, u1, u2⟩ := S5.at2 (g := fun r : RunI => iv r.1) (g' := fun r : RunI => iv r.2) (fun _ => rfl) (i := rs.length) (by omega)
      have hget : (runsI (rs ++ [(j, n)]))[rs.length]'(by omega) = runI (j, n) := by simp [runsI]
      rw [hget] at u1 u2
      dsimp only [runI] at u1 u2
      have hnn := hns rs j n hrs
      have ej : ((r5.len : Int) - 1) = ((rs.length : Nat) : Int) := by omega
      (first | (refine H.wg ?_; clear H; intros; rename_i w H; constructor) | refine wk ?_)
      rw [ej]
      (first | (refine H.wg ?_; clear H; intros; rename_i w H; constructor) | refine wk ?_)
      have hps := runsOf_snoc ks 0
      rw [hrs, pushR_snoc] at hps
      by_cases hjk : j = 0
      · rw [if_pos hjk] at hps
        (first | (refine H.wg ?_; clear H; intros; rename_i w H; constructor) | refine wk ?_)
        rw [ej]
        (first | (refine H.wg ?_; clear H; intros; rename_i w H; constructor) | refine wk ?_)
        refine Rel.stRowN (i := 1) H rfl (rs.length * 2 + 1) (by omega) rfl rfl ?_
        clear H
        intro w H
        simp only [List.set_cons_succ, List.set_cons_zero] at H
        rw [runs_set, ← hps] at H
        (first | (refine H.wg ?_; clear H; intros; rename_i w H; constructor) | refine wk ?_)
        refine ⟨(by repeat (first | exact trivial | refine ⟨rfl, ?_⟩)), (i + 1, r4, r5, o ++ [10], ks ++ [0]), ⟨rfl, rfl, congrArg (fun z => some (iv z)) (by dsimp only; omega), trivial⟩, ⟨by dsimp only; omega, by dsimp only; rw [hln, e]; simp, by dsimp only; rw [List.flatMap_append, List.length_append]; have : ([10].flatMap u8c).length = 1 := rfl; omega, by dsimp only; rw [List.length_append, List.length_singleton]; omega, ?_⟩, by dsimp only; omega⟩
        dsimp only
        rw [flat_lf]
        exact H
      · rw [if_neg hjk] at hps
        (first | (refine H.wg ?_; clear H; intros; rename_i w H; constructor) | refine wk ?_)
        refine Rel.app1_1 (f := rnC) (l := runsI (rs ++ [(j, n)])) (x := runI (0, 1)) tabOk rfl rfl rfl rfl rfl (by decide) (fun _ => rfl) (List.all_eq_true.1 rfl) H (by show ((runsI (rs ++ [(j, n)])).length + 1) * 16 ≤ _; omega) (by omega) ?_
        clear H
        intro r5 w H
        rw [show runsI (rs ++ [(j, n)]) ++ [runI (0, 1)] = runsI (rs ++ [(j, n), (0, 1)]) by simp [runsI], ← hps] at H
        (first | (refine H.wg ?_; clear H; intros; rename_i w H; constructor) | refine wk ?_)
        refine ⟨(by repeat (first | exact trivial | refine ⟨rfl, ?_⟩)), (i + 1, r4, r5, o ++ [10], ks ++ [0]), ⟨rfl, rfl, congrArg (fun z => some (iv z)) (by dsimp only; omega), trivial⟩, ⟨by dsimp only; omega, by dsimp only; rw [hln, e]; simp, by dsimp only; rw [List.flatMap_append, List.length_append]; have : ([10].flatMap u8c).length = 1 := rfl; omega, by dsimp only; rw [List.length_append, List.length_singleton]; omega, ?_⟩, by dsimp only; omega⟩
        dsimp only
        rw [flat_lf]
        exact H
  by_cases h13 : c = 13
  rotate_left
  · have e := lines_other h10 h13 (l.drop (i + 1))
    rw [e] at hln
    (first | (refine H.wg ?_; clear H; intros; rename_i w H; constructor) | refine wk ?_)
    refine (appendRune_spec H hch (by omega)).use ?_
    clear H
    rintro v w ⟨r, rfl, H⟩
    (first | (refine H.wg ?_; clear H; intros; rename_i w H; constructor) | refine wk ?_)
    refine ⟨(by repeat (first | exact trivial | refine ⟨rfl, ?_⟩)), (i + 1, r, r5, o ++ [c], ks), (by repeat (first | exact trivial | refine ⟨rfl, ?_⟩)), ⟨by dsimp only; omega, ?_, ?_, by dsimp only; omega, ?_⟩, by dsimp only; omega⟩
    · dsimp only
      rw [hln]
      simp
    · dsimp only
      rw [List.flatMap_append, List.length_append, List.flatMap_singleton, u8c_len]
      omega
    · dsimp only
      rw [List.flatMap_append, List.flatMap_singleton]
      exact H
  subst h13
  by_cases hnx : i + 1 < l.length
  rotate_left
  · rw [List.drop_of_length_le (show l.length ≤ i + 1 by omega)] at hln
    have e := lines_cr (r := []) (by simp)
    have e2 : l.drop (i + 1) = [] := List.drop_of_length_le (by omega)
    rw [← e2] at hln e
    (first | (refine H.wg ?_; clear H; intros; rename_i w H; constructor) | refine wk ?_)
    refine Rel.app1_0 (f := byC) (l := o.flatMap u8c) (x := 10) tabOk rfl rfl rfl rfl rfl (by decide) (fun _ => rfl) (List.all_eq_true.1 rfl) H (by show ((o.flatMap u8c).length + 1) * 1 ≤ _; omega) (by omega) ?_
    clear H
    intro r4 w H
    have hq5 := H.rowLen (i := 1) rfl (fun _ => rfl) (by decide)
    have hil : (runsI (runsOf ks)).length = (runsOf ks).length := by simp [runsI]
    (first | (refine H.wg ?_; clear H; intros; rename_i w H; constructor) | refine wk ?_)
    rcases snoc_of (runsOf ks) with hrs | ⟨rs, ⟨j, n⟩, hrs⟩
    · rw [hrs] at hil hq5 H
      simp only [runsI, List.map_nil, List.length_nil] at hil hq5
      (first | (refine H.wg ?_; clear H; intros; rename_i w H; constructor) | refine wk ?_)
      refine Rel.app1_1 (f := rnC) (l := []) (x := runI (2, 1)) tabOk rfl rfl rfl rfl rfl (by decide) (fun _ => rfl) (List.all_eq_true.1 rfl) H (by simp) (by simp) ?_
      clear H
      intro r5 w H
      (first | (refine H.wg ?_; clear H; intros; rename_i w H; constructor) | refine wk ?_)
      refine ⟨(by repeat (first | exact trivial | refine ⟨rfl, ?_⟩)), (i + 1, r4, r5, o ++ [10], ks ++ [2]), ⟨rfl, rfl, congrArg (fun z => some (iv z)) (by dsimp only; omega), trivial⟩, ⟨by dsimp only; omega, by dsimp only; rw [hln, e]; simp, by dsimp only; rw [List.flatMap_append, List.length_append]; have : ([10].flatMap u8c).length = 1 := rfl; omega, by dsimp only; rw [List.length_append, List.length_singleton]; omega, ?_⟩, by dsimp only; omega⟩
      dsimp only
      rw [flat_lf]
      rw [runsOf_snoc, hrs]
      exact H
    · rw [hrs] at hil hq5 H
      rw [hrs] at hrl
      simp only [List.length_append, List.length_singleton] at hil hrl
      have S5 := H.slfAt (i := 1) rfl (fun _ => rfl) (by decide)
      obtain ⟨u0, u1, u2⟩ := S5.at2 (g := fun r : RunI => iv r.1) (g' := fun r : RunI => iv r.2) (fun _ => rfl) (i := rs.length) (by omega)
      have hget : (runsI (rs ++ [(j, n)]))[rs.length]'(by omega) = runI (j, n) := by simp [runsI]
      rw [hget] at u1 u2
      dsimp only [runI] at u1 u2
      have hnn := hns rs j n hrs
      have ej : ((r5.len : Int) - 1) = ((rs.length : Nat) : Int) := by omega
      (first | (refine H.wg ?_; clear H; intros; rename_i w H; constructor) | refine wk ?_)
      rw [ej]
      (first | (refine H.wg ?_; clear H; intros; rename_i w H; constructor) | refine wk ?_)
      have hps := runsOf_snoc ks 2
      rw [hrs, pushR_snoc] at hps
      by_cases hjk : j = 2
      · rw [if_pos hjk] at hps
        (first | (refine H.wg ?_; clear H; intros; rename_i w H; constructor) | refine wk ?_)
        rw [ej]
        (first | (refine H.wg ?_; clear H; intros; rename_i w H; constructor) | refine wk ?_)
        refine Rel.stRowN (i := 1) H rfl (rs.length * 2 + 1) (by omega) rfl rfl ?_
        clear H
        intro w H
        simp only [List.set_cons_succ, List.set_cons_zero] at H
        rw [runs_set, ← hps] at H
        (first | (refine H.wg ?_; clear H; intros; rename_i w H; constructor) | refine wk ?_)
        refine ⟨(by repeat (first | exact trivial | refine ⟨rfl, ?_⟩)), (i + 1, r4, r5, o ++ [10], ks ++ [2]), ⟨rfl, rfl, congrArg (fun z => some (iv z)) (by dsimp only; omega), trivial⟩, ⟨by dsimp only; omega, by dsimp only; rw [hln, e]; simp, by dsimp only; rw [List.flatMap_append, List.length_append]; have : ([10].flatMap u8c).length = 1 := rfl; omega, by dsimp only; rw [List.length_append, List.length_singleton]; omega, ?_⟩, by dsimp only; omega⟩
        dsimp only
        rw [flat_lf]
        exact H
      · rw [if_neg hjk] at hps
        (first | (refine H.wg ?_; clear H; intros; rename_i w H; constructor) | refine wk ?_)
        refine Rel.app1_1 (f := rnC) (l := runsI (rs ++ [(j, n)])) (x := runI (2, 1)) tabOk rfl rfl rfl rfl rfl (by decide) (fun _ => rfl) (List.all_eq_true.1 rfl) H (by show ((runsI (rs ++ [(j, n)])).length + 1) * 16 ≤ _; omega) (by omega) ?_
        clear H
        intro r5 w H
        rw [show runsI (rs ++ [(j, n)]) ++ [runI (2, 1)] = runsI (rs ++ [(j, n), (2, 1)]) by simp [runsI], ← hps] at H
        (first | (refine H.wg ?_; clear H; intros; rename_i w H; constructor) | refine wk ?_)
        refine ⟨(by repeat (first | exact trivial | refine ⟨rfl, ?_⟩)), (i + 1, r4, r5, o ++ [10], ks ++ [2]), ⟨rfl, rfl, congrArg (fun z => some (iv z)) (by dsimp only; omega), trivial⟩, ⟨by dsimp only; omega, by dsimp only; rw [hln, e]; simp, by dsimp only; rw [List.flatMap_append, List.length_append]; have : ([10].flatMap u8c).length = 1 := rfl; omega, by dsimp only; rw [List.length_append, List.length_singleton]; omega, ?_⟩, by dsimp only; omega⟩
        dsimp only
        rw [flat_lf]
        exact H
  obtain ⟨p1, c1⟩ := hs.at1 (g := rv) (fun _ => rfl) hnx
  have hdr2 : l.drop (i + 1) = l[i + 1] :: l.drop (i + 2) := List.drop_eq_getElem_cons hnx
  obtain ⟨d, hdd⟩ : ∃ d, d = l[i + 1] := ⟨_, rfl⟩
  rw [← hdd] at c1 hdr2
  by_cases hd : d = 10
  · rw [hd] at c1 hdr2
    rw [hdr2] at hln
    have e := lines_both (l.drop (i + 2))
    (first | (refine H.wg ?_; clear H; intros; rename_i w H; constructor) | refine wk ?_)
    refine Rel.app1_0 (f := byC) (l := o.flatMap u8c) (x := 10) tabOk rfl rfl rfl rfl rfl (by decide) (fun _ => rfl) (List.all_eq_true.1 rfl) H (by show ((o.flatMap u8c).length + 1) * 1 ≤ _; omega) (by omega) ?_
    clear H
    intro r4 w H
    have hq5 := H.rowLen (i := 1) rfl (fun _ => rfl) (by decide)
    have hil : (runsI (runsOf ks)).length = (runsOf ks).length := by simp [runsI]
    (first | (refine H.wg ?_; clear H; intros; rename_i w H; constructor) | refine wk ?_)
    rcases snoc_of (runsOf ks) with hrs | ⟨rs, ⟨j, n⟩, hrs⟩
    · rw [hrs] at hil hq5 H
      simp only [runsI, List.map_nil, List.length_nil] at hil hq5
      (first | (refine H.wg ?_; clear H; intros; rename_i w H; constructor) | refine wk ?_)
      refine Rel.app1_1 (f := rnC) (l := []) (x := runI (1, 1)) tabOk rfl rfl rfl rfl rfl (by decide) (fun _ => rfl) (List.all_eq_true.1 rfl) H (by simp) (by simp) ?_
      clear H
      intro r5 w H
      (first | (refine H.wg ?_; clear H; intros; rename_i w H; constructor) | refine wk ?_)
      refine ⟨(by repeat (first | exact trivial | refine ⟨rfl, ?_⟩)), (i + 2, r4, r5, o ++ [10], ks ++ [1]), ⟨rfl, rfl, congrArg (fun z => some (iv z)) (by dsimp only; omega), trivial⟩, ⟨by dsimp only; omega, by dsimp only; rw [hln, e]; simp, by dsimp only; rw [List.flatMap_append, List.length_append]; have : ([10].flatMap u8c).length = 1 := rfl; omega, by dsimp only; rw [List.length_append, List.length_singleton]; omega, ?_⟩, by dsimp only; omega⟩
      dsimp only
      rw [flat_lf]
      rw [runsOf_snoc, hrs]
      exact H
    · rw [hrs] at hil hq5 H
      rw [hrs] at hrl
      simp only [List.length_append, List.length_singleton] at hil hrl
      have S5 := H.slfAt (i := 1) rfl (fun _ => rfl) (by decide)
      obtain ⟨u0, u1, u2⟩ := S5.at2 (g := fun r : RunI => iv r.1) (g' := fun r : RunI => iv r.2) (fun _ => rfl) (i := rs.length) (by omega)
      have hget : (runsI (rs ++ [(j, n)]))[rs.length]'(by omega) = runI (j, n) := by simp [runsI]
      rw [hget] at u1 u2
      dsimp only [runI] at u1 u2
      have hnn := hns rs j n hrs
      have ej : ((r5.len : Int) - 1) = ((rs.length : Nat) : Int) := by omega
      (first | (refine H.wg ?_; clear H; intros; rename_i w H; constructor) | refine wk ?_)
      rw [ej]
      (first | (refine H.wg ?_; clear H; intros; rename_i w H; constructor) | refine wk ?_)
      have hps := runsOf_snoc ks 1
      rw [hrs, pushR_snoc] at hps
      by_cases hjk : j = 1
      · rw [if_pos hjk] at hps
        (first | (refine H.wg ?_; clear H; intros; rename_i w H; constructor) | refine wk ?_)
        rw [ej]
        (first | (refine H.wg ?_; clear H; intros; rename_i w H; constructor) | refine wk ?_)
        refine Rel.stRowN (i := 1) H rfl (rs.length * 2 + 1) (by omega) rfl rfl ?_
        clear H
        intro w H
        simp only [List.set_cons_succ, List.set_cons_zero] at H
        rw [runs_set, ← hps] at H
        (first | (refine H.wg ?_; clear H; intros; rename_i w H; constructor) | refine wk ?_)
        refine ⟨(by repeat (first | exact trivial | refine ⟨rfl, ?_⟩)), (i + 2, r4, r5, o ++ [10], ks ++ [1]), ⟨rfl, rfl, congrArg (fun z => some (iv z)) (by dsimp only; omega), trivial⟩, ⟨by dsimp only; omega, by dsimp only; rw [hln, e]; simp, by dsimp only; rw [List.flatMap_append, List.length_append]; have : ([10].flatMap u8c).length = 1 := rfl; omega, by dsimp only; rw [List.length_append, List.length_singleton]; omega, ?_⟩, by dsimp only; omega⟩
        dsimp only
        rw [flat_lf]
        exact H
      · rw [if_neg hjk] at hps
        (first | (refine H.wg ?_; clear H; intros; rename_i w H; constructor) | refine wk ?_)
        refine Rel.app1_1 (f := rnC) (l := runsI (rs ++ [(j, n)])) (x := runI (1, 1)) tabOk rfl rfl rfl rfl rfl (by decide) (fun _ => rfl) (List.all_eq_true.1 rfl) H (by show ((runsI (rs ++ [(j, n)])).length + 1) * 16 ≤ _; omega) (by omega) ?_
        clear H
        intro r5 w H
        rw [show runsI (rs ++ [(j, n)]) ++ [runI (1, 1)] = runsI (rs ++ [(j, n), (1, 1)]) by simp [runsI], ← hps] at H
        (first | (refine H.wg ?_; clear H; intros; rename_i w H; constructor) | refine wk ?_)
        refine ⟨(by repeat (first | exact trivial | refine ⟨rfl, ?_⟩)), (i + 2, r4, r5, o ++ [10], ks ++ [1]), ⟨rfl, rfl, congrArg (fun z => some (iv z)) (by dsimp only; omega), trivial⟩, ⟨by dsimp only; omega, by dsimp only; rw [hln, e]; simp, by dsimp only; rw [List.flatMap_append, List.length_append]; have : ([10].flatMap u8c).length = 1 := rfl; omega, by dsimp only; rw [List.length_append, List.length_singleton]; omega, ?_⟩, by dsimp only; omega⟩
        dsimp only
        rw [flat_lf]
        exact H
  · have e := lines_cr (r := l.drop (i + 1)) (fun k h => by rw [hdr2] at h; injection h with h _; exact hd h)
    (first | (refine H.wg ?_; clear H; intros; rename_i w H; constructor) | refine wk ?_)
    refine Rel.app1_0 (f := byC) (l := o.flatMap u8c) (x := 10) tabOk rfl rfl rfl rfl rfl (by decide) (fun _ => rfl) (List.all_eq_true.1 rfl) H (by show ((o.flatMap u8c).length + 1) * 1 ≤ _; omega) (by omega) ?_
    clear H
    intro r4 w H
    have hq5 := H.rowLen (i := 1) rfl (fun _ => rfl) (by decide)
    have hil : (runsI (runsOf ks)).length = (runsOf ks).length := by simp [runsI]
    (first | (refine H.wg ?_; clear H; intros; rename_i w H; constructor) | refine wk ?_)
    rcases snoc_of (runsOf ks) with hrs | ⟨rs, ⟨j, n⟩, hrs⟩
    · rw [hrs] at hil hq5 H
      simp only [runsI, List.map_nil, List.length_nil] at hil hq5
      (first | (refine H.wg ?_; clear H; intros; rename_i w H; constructor) | refine wk ?_)
      refine Rel.app1_1 (f := rnC) (l := []) (x := runI (2, 1)) tabOk rfl rfl rfl rfl rfl (by decide) (fun _ => rfl) (List.all_eq_true.1 rfl) H (by simp) (by simp) ?_
      clear H
      intro r5 w H
      (first | (refine H.wg ?_; clear H; intros; rename_i w H; constructor) | refine wk ?_)
      refine ⟨(by repeat (first | exact trivial | refine ⟨rfl, ?_⟩)), (i + 1, r4, r5, o ++ [10], ks ++ [2]), ⟨rfl, rfl, congrArg (fun z => some (iv z)) (by dsimp only; omega), trivial⟩, ⟨by dsimp only; omega, by dsimp only; rw [hln, e]; simp, by dsimp only; rw [List.flatMap_append, List.length_append]; have : ([10].flatMap u8c).length = 1 := rfl; omega, by dsimp only; rw [List.length_append, List.length_singleton]; omega, ?_⟩, by dsimp only; omega⟩
      dsimp only
      rw [flat_lf]
      rw [runsOf_snoc, hrs]
      exact H
    · rw [hrs] at hil hq5 H
      rw [hrs] at hrl
      simp only [List.length_append, List.length_singleton] at hil hrl
      have S5 := H.slfAt (i := 1) rfl (fun _ => rfl) (by decide)
      obtain ⟨u0, u1, u2⟩ := S5.at2 (g := fun r : RunI => iv r.1) (g' := fun r : RunI => iv r.2) (fun _ => rfl) (i := rs.length) (by omega)
      have hget : (runsI (rs ++ [(j, n)]))[rs.length]'(by omega) = runI (j, n) := by simp [runsI]
      rw [hget] at u1 u2
      dsimp only [runI] at u1 u2
      have hnn := hns rs j n hrs
      have ej : ((r5.len : Int) - 1) = ((rs.length : Nat) : Int) := by omega
      (first | (refine H.wg ?_; clear H; intros; rename_i w H; constructor) | refine wk ?_)
      rw [ej]
      (first | (refine H.wg ?_; clear H; intros; rename_i w H; constructor) | refine wk ?_)
      have hps := runsOf_snoc ks 2
      rw [hrs, pushR_snoc] at hps
      by_cases hjk : j = 2
      · rw [if_pos hjk] at hps
        (first | (refine H.wg ?_; clear H; intros; rename_i w H; constructor) | refine wk ?_)
        rw [ej]
        (first | (refine H.wg ?_; clear H; intros; rename_i w H; constructor) | refine wk ?_)
        refine Rel.stRowN (i := 1) H rfl (rs.length * 2 + 1) (by omega) rfl rfl ?_
        clear H
        intro w H
        simp only [List.set_cons_succ, List.set_cons_zero] at H
        rw [runs_set, ← hps] at H
        (first | (refine H.wg ?_; clear H; intros; rename_i w H; constructor) | refine wk ?_)
        refine ⟨(by repeat (first | exact trivial | refine ⟨rfl, ?_⟩)), (i + 1, r4, r5, o ++ [10], ks ++ [2]), ⟨rfl, rfl, congrArg (fun z => some (iv z)) (by dsimp only; omega), trivial⟩, ⟨by dsimp only; omega, by dsimp only; rw [hln, e]; simp, by dsimp only; rw [List.flatMap_append, List.length_append]; have : ([10].flatMap u8c).length = 1 := rfl; omega, by dsimp only; rw [List.length_append, List.length_singleton]; omega, ?_⟩, by dsimp only; omega⟩
        dsimp only
        rw [flat_lf]
        exact H
      · rw [if_neg hjk] at hps
        (first | (refine H.wg ?_; clear H; intros; rename_i w H; constructor) | refine wk ?_)
        refine Rel.app1_1 (f := rnC) (l := runsI (rs ++ [(j, n)])) (x := runI (2, 1)) tabOk rfl rfl rfl rfl rfl (by decide) (fun _ => rfl) (List.all_eq_true.1 rfl) H (by show ((runsI (rs ++ [(j, n)])).length + 1) * 16 ≤ _; omega) (by omega) ?_
        clear H
        intro r5 w H
        rw [show runsI (rs ++ [(j, n)]) ++ [runI (2, 1)] = runsI (rs ++ [(j, n), (2, 1)]) by simp [runsI], ← hps] at H
        (first | (refine H.wg ?_; clear H; intros; rename_i w H; constructor) | refine wk ?_)
        refine ⟨(by repeat (first | exact trivial | refine ⟨rfl, ?_⟩)), (i + 1, r4, r5, o ++ [10], ks ++ [2]), ⟨rfl, rfl, congrArg (fun z => some (iv z)) (by dsimp only; omega), trivial⟩, ⟨by dsimp only; omega, by dsimp only; rw [hln, e]; simp, by dsimp only; rw [List.flatMap_append, List.length_append]; have : ([10].flatMap u8c).length = 1 := rfl; omega, by dsimp only; rw [List.length_append, List.length_singleton]; omega, ?_⟩, by dsimp only; omega⟩
        dsimp only
        rw [flat_lf]
        exact H
end
end Go.Proofs.YtgnaojphgdaalaaDoor
namespace Go.Proofs.YtgnaojphgdaalaaDoor
open Go Go.RowKit

section
variable {V W : World}
set_option maxRecDepth 100000 in
theorem run_one (x : RunI) (h1 : I64 x.1) (h2 : I64 x.2) : OneOk V 57 [] (.agg (rnC x).toArray) (runB x) := oneOk_of fun V1 W1 hV hVV => by
  have H := Rel.start hV
  have a1 := putN_len h1.1 h1.2
  have a2 := putN_len h2.1 h2.2
  refine cal_of_vc tabOk Tryd.func57 rfl (by kernel_rfl) 10 rfl (by simp) [0, 1, 2] ?_
  (first | (refine H.wh ?_; clear H; intros; rename_i w H; constructor) | refine wk ?_)
  ((first | refine Rel.nwD H ?_ | refine Rel.nw H ?_); clear H; intro w b1 H)
  (first | (refine H.wg ?_; clear H; intros; rename_i w H; constructor) | refine wk ?_)
  ((first | refine draw_vcQ (id := 1) tabOk mixed [2] [0, 1, 3, 4, 2, 5, 6, 7] (by kernel_rfl) ?_); intro w hdw; replace H := Rel.ext H hdw.ext)
  (first | (refine H.wg ?_; clear H; intros; rename_i w H; constructor) | refine wk ?_)
  refine (number_spec H.data h1).use ?_
  rintro v w ⟨r1, rfl, K⟩
  (have hKb := K.base; replace H := Rel.call H K)
  simp only [List.cons_append, List.nil_append] at H
  (first | (refine H.wg ?_; clear H; intros; rename_i w H; constructor) | refine wk ?_)
  refine (number_spec H.data h2).use ?_
  rintro v w ⟨r2, rfl, K⟩
  (have hKb := K.base; replace H := Rel.call H K)
  simp only [List.cons_append, List.nil_append] at H
  (first | (refine H.wg ?_; clear H; intros; rename_i w H; constructor) | refine wk ?_)
  refine Rel.appB (s := r1) (x := r2) (xs := putN x.1) (ys := putN x.2) H (i := 0) rfl (by omega) ?_
  clear H
  intro rn w H
  simp only [List.set_cons_zero] at H
  (first | (refine H.wg ?_; clear H; intros; rename_i w H; constructor) | refine wk ?_)
  exact ⟨rn, rfl, H.sx⟩
theorem slice_runs {V W : World} (hV : Sub V W) {s : Sl} {l : List RunI} (hs : SlF rnC V s l) {g : FuncId} {cap : List Value} {enc : RunI → List UInt8} (hone : ∀ x ∈ l, OneOk V g cap ((fun p => .agg (rnC p).toArray) x) (enc x)) (hll : l.length ≤ 1099511627776) (hb : (putL enc l).length ≤ 1099511627776) :
    Ret Tryd.prog 56 [s.v, .func (.func g) #[] cap.toArray].toArray W fun v w' => ∃ r : Sl, v = r.v ∧ Rel W V [.row r 5 1 ((putL enc l).flatMap byC)] V w' := by
  have H := Rel.start hV
  have hlen := hs.len
  rw [putL, List.length_append] at hb
  refine cal_of_vc tabOk Tryd.func56 rfl (by kernel_rfl) 24 rfl (by simp) [0, 1, 4, 5, 7, 11, 12, 13, 14] ?_
  (first | (refine H.wg ?_; clear H; intros; rename_i w H; constructor) | refine wk ?_)
  rw [hlen]
  refine (number_spec (n := l.length) H.data (by constructor <;> omega)).use ?_
  rintro v w ⟨r0, rfl, K⟩
  replace H := H.call K
  (first | (refine H.wg ?_; clear H; intros; rename_i w H; constructor) | refine wk ?_)
  refine loop_inv (S := Nat × Sl) tabOk [0, 1, 4, 11, 12] (fun k => [(5, k.2.v), (13, iv k.1)]) (fun k w' => k.1 ≤ l.length ∧ ∃ V1, Sub V V1 ∧ Rel W V [.row k.2 5 1 ((putN l.length ++ (l.take k.1).flatMap enc).flatMap byC)] V1 w') (fun k _ => l.length - k.1) (0, r0) ?_
  (conv => whnf)
  refine ⟨(by repeat (first | exact trivial | refine ⟨rfl, ?_⟩)), ⟨by omega, V, Sub.refl _, by simpa using H⟩, ?_⟩
  clear H
  rintro ⟨k, r⟩ w ⟨hk, V1, hV1, H⟩
  dsimp only at hk H
  by_cases hlt : k < l.length
  rotate_left
  · (first | (refine H.wg ?_; clear H; intros; rename_i w H; constructor) | refine wk ?_)
    rw [List.take_of_length_le (by omega)] at H
    exact ⟨r, rfl, H.back⟩
  have hbl := flat_part (enc := enc) hlt
  obtain ⟨hp, hq1, hq2⟩ := (hs.up hV1).at2 (g := fun r : RunI => iv r.1) (g' := fun r : RunI => iv r.2) (fun _ => rfl) hlt
  (first | (refine H.wg ?_; clear H; intros; rename_i w H; constructor) | refine wk ?_)
  refine (hone l[k] (List.getElem_mem hlt) V1 w hV1 H.data).use ?_
  rintro v w ⟨V2, x, hV2, rfl, hx, K⟩
  replace H := H.call K
  simp only [List.nil_append] at H
  (first | (refine H.wg ?_; clear H; intros; rename_i w H; constructor) | refine wk ?_)
  refine Rel.appD H (i := 1) rfl hx (by simp only [List.length_append]; omega) ?_
  clear H
  intro rn w H
  rw [flat_next hlt] at H
  (first | (refine H.wg ?_; clear H; intros; rename_i w H; constructor) | refine wk ?_)
  exact ⟨(by repeat (first | exact trivial | refine ⟨rfl, ?_⟩)), (k + 1, rn), (by repeat (first | exact trivial | refine ⟨rfl, ?_⟩)), ⟨by omega, V2, hV1.trans hV2, H.sx⟩, by omega⟩
set_option maxRecDepth 100000 in
theorem form_spec (hV : Sub V W) {e : Nat} (he : e < 5) {s : Sl} {rs : List Run} (hs : SlF rnC V s (runsI rs)) (hl : rs.length ≤ 100000) (ho : ∀ r ∈ rs, r.1 < 3 ∧ 1 ≤ r.2 ∧ r.2 ≤ 100000) :
    Ret Tryd.prog 29 [.agg (resC e s).toArray].toArray W fun v w' => ∃ r : Sl, v = r.v ∧ Rel W V [.row r 5 1 ((if txtTriv e (runsK rs) = true then [] else txtRB e rs).flatMap byC)] V w' := by
  have H := Rel.start hV
  have hil : (runsI rs).length = rs.length := by simp [runsI]
  have a1 := putN_len (n := (e : Int)) (by omega) (by omega)
  have hpl := putL_len (f := runB) (m := 20) (l := runsI rs) (by omega) (fun x hx => by
    obtain ⟨y, hy, rfl⟩ := List.mem_map.1 hx
    obtain ⟨q1, q2, q3⟩ := ho y hy
    have b1 := putN_len (n := (y.1 : Int)) (by omega) (by omega)
    have b2 := putN_len (n := (y.2 : Int)) (by omega) (by omega)
    simp only [runB, List.length_append]
    omega)
  refine cal_of_vc tabOk Tryd.func29 rfl (by kernel_rfl) 12 rfl (by simp) [0, 1, 2, 4] ?_
  (first | (refine H.wh ?_; clear H; intros; rename_i w H; constructor) | refine wk ?_)
  ((first | refine Rel.nwD H ?_ | refine Rel.nw H ?_); clear H; intro w b1 H)
  (first | (refine H.wg ?_; clear H; intros; rename_i w H; constructor) | refine wk ?_)
  refine (trivial_spec H.data e hs (by omega) (fun r hr => (ho r hr).2.1)).use ?_
  rintro v w ⟨rfl, K⟩
  (have hKb := K.base; replace H := H.call0 K)
  cases ht : txtTriv e (runsK rs) with
  | true =>
    rw [if_pos rfl]
    (first | (refine H.wg ?_; clear H; intros; rename_i w H; constructor) | refine wk ?_)
    exact ⟨⟨none, 0, 0⟩, rfl, Rel.rowNil H.sx _ _⟩
  | false =>
    rw [if_neg (by simp)]
    (first | (refine H.wg ?_; clear H; intros; rename_i w H; constructor) | refine wk ?_)
    ((first | refine draw_vcQ (id := 3) tabOk mixed [2] [0, 1, 3, 4, 2, 5, 6, 7] (by kernel_rfl) ?_); intro w hdw; replace H := Rel.ext H hdw.ext)
    (first | (refine H.wg ?_; clear H; intros; rename_i w H; constructor) | refine wk ?_)
    refine (number_spec H.data (show I64 ((e : Nat) : Int) by constructor <;> omega)).use ?_
    rintro v w ⟨r1, rfl, K⟩
    (have hKb := K.base; replace H := Rel.call H K)
    simp only [List.cons_append, List.nil_append] at H
    (first | (refine H.wg ?_; clear H; intros; rename_i w H; constructor) | refine wk ?_)
    refine (slice_runs (l := runsI rs) (enc := runB) (g := 57) (cap := []) H.data hs (fun p hp => ?_) (by omega) (by omega)).use ?_
    · obtain ⟨y, hy, rfl⟩ := List.mem_map.1 hp
      obtain ⟨q1, q2, q3⟩ := ho y hy
      exact run_one _ (by constructor <;> dsimp only <;> omega) (by constructor <;> dsimp only <;> omega)
    rintro v w ⟨r2, rfl, K⟩
    (have hKb := K.base; replace H := Rel.call H K)
    simp only [List.cons_append, List.nil_append] at H
    (first | (refine H.wg ?_; clear H; intros; rename_i w H; constructor) | refine wk ?_)
    refine Rel.appB (s := r1) (x := r2) (xs := putN (e : Int)) (ys := putL runB (runsI rs)) H (i := 0) rfl (by omega) ?_
    clear H
    intro rn w H
    simp only [List.set_cons_zero] at H
    (first | (refine H.wg ?_; clear H; intros; rename_i w H; constructor) | refine wk ?_)
    exact ⟨rn, rfl, H.sx⟩
theorem cutPrefix2 (hV : Sub V W) {x y : Sl} {a b : List UInt8} (hx : Byt V x a) (hy : Byt V y b) : Ret Tryd.prog 51 [x.v, y.v].toArray W fun v w' => (∃ r : Sl, v = .tuple #[r.v, .bool (decide (a.take b.length = b))] ∧ Byt V r (if a.take b.length = b then a.drop b.length else a)) ∧ Rel W V [] V w' := by
  have H := Rel.start hV
  have h1 := hx.len
  have h2 := hy.len
  have hc := hx.cap
  refine cal_of_vc tabOk Tryd.func51 rfl (by kernel_rfl) 15 rfl (by simp) [0, 1, 4, 5, 9] ?_
  (first | (refine H.wg ?_; clear H; intros; rename_i w H; constructor) | refine wk ?_)
  refine (hasPrefix_spec H.data hx hy).use ?_
  rintro v w ⟨rfl, K⟩
  (have hKb := K.base; replace H := H.call0 K)
  by_cases hp : a.take b.length = b
  · have hl : b.length ≤ a.length := by
      have := congrArg List.length hp
      simp at this
      omega
    have hsub := hx.sub (n := 1) (fun _ => rfl) (a := y.len) (b := x.len) (by omega) (by omega)
    rw [h1, List.take_length] at hsub
    rw [decide_eq_true hp, if_pos hp]
    (first | (refine H.wg ?_; clear H; intros; rename_i w H; constructor) | refine wk ?_)
    refine ⟨⟨⟨subA x.a y.len x.cap 1, x.len - y.len, x.cap - y.len⟩, rfl, ?_⟩, H.sx⟩
    rw [h1]
    rw [h2] at hsub ⊢
    exact hsub
  · rw [decide_eq_false hp, if_neg hp]
    (first | (refine H.wg ?_; clear H; intros; rename_i w H; constructor) | refine wk ?_)
    exact ⟨⟨x, rfl, hx⟩, H.sx⟩
end
end Go.Proofs.YtgnaojphgdaalaaDoor
