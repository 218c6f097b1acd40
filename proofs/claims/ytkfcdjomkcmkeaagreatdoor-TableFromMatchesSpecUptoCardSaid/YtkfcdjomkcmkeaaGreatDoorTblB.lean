/-
  Files of tables: how a file of a layout is read.
-/
import Derived.Test.YtkfcdjomkcmkeaaGreatDoorTblA
namespace Go.Proofs.YtkfcdjomkcmkeaaGreatDoor
open Go Go.RowKit

/-- a row, and rows, of cells -/
abbrev BysR (V : World) (x : Sl) (r : List (List UInt8)) : Prop := RL slC BytR V x r
theorem bysR_up : ∀ (V V' : World) (x : Sl) (y : List (List UInt8)), Sub V V' → BysR V x y → BysR V' x y := fun V V' x y k ⟨xs, h1, h2⟩ => ⟨xs, h1.up k, h2.up (fun _ _ _ _ k h => h.up k) k⟩
def TblAt (V : World) (s : Sl) (T : Tbl) : Prop := RL slC BysR V s T
theorem TblAt.up {V V' : World} {s : Sl} {T : Tbl} (h : TblAt V s T) (k : Sub V V') : TblAt V' s T := by
  obtain ⟨xs, h1, h2⟩ := h
  exact ⟨xs, h1.up k, h2.up bysR_up k⟩
theorem TblAt.len {V : World} {s : Sl} {T : Tbl} (h : TblAt V s T) : s.len = T.length := by
  obtain ⟨xs, h1, h2⟩ := h
  rw [h1.len, h2.len]
theorem TblAt.nil (V : World) : TblAt V ⟨none, 0, 0⟩ [] := ⟨[], SlF.nil _ _, Pw.nil⟩
abbrev fileC (n : Nat) (k : Bool) (rs qs : Sl) (o : Bool) : List Value := [iv (n : Nat), .bool k, rs.v, qs.v, .bool o]
structure ReadH (W V : World) (n : Nat) (k : Bool) (x : Option (List (List Cel) × Bool)) (v : Value) (w' : World) : Prop where
  ex : ∃ (V' : World) (m : Nat) (j : Bool) (rs qs : Sl) (o g : Bool), Sub V V' ∧ Rel W V [] V' w' ∧ v = .tuple #[.agg (fileC m j rs qs o).toArray, .bool g] ∧ (match x with
    | none => g = false
    | some (R, op) => g = true ∧ m = n ∧ j = k ∧ o = op ∧ TblAt V' rs (tblOf R) ∧ SlF itC V' qs (nz (qn (sepB n) 0 R.flatten)))
theorem tblOf_snoc (R : List (List Cel)) (r : List Cel) : tblOf (R ++ [r]) = tblOf R ++ [r.map Prod.fst] := by simp [tblOf]
theorem flat_snoc {α : Type} (R : List (List α)) (r : List α) : (R ++ [r]).flatten = R.flatten ++ r := by simp
theorem tEnd_le (k : Bool) : 1 ≤ (tEnd k).length ∧ (tEnd k).length ≤ 2 := by cases k <;> decide
theorem head_end {k : Bool} {t : List UInt8} (h : t.head? = some 34) (h2 : t.take (tEnd k).length = tEnd k) : False := by
  cases t with
  | nil => cases h
  | cons c t =>
    cases h
    cases k
    · exact absurd (congrArg List.head? h2) (by simp [tEnd])
    · exact absurd (congrArg List.head? h2) (by simp [tEnd])
theorem sep_get {n : Nat} (hn : n < 3) : ([44, 59, 9] : List UInt8)[((n : Nat) : Int).toNat]? = some (sepB n) := by
  match n, hn with
  | 0, _ => rfl
  | 1, _ => rfl
  | 2, _ => rfl
theorem cellP_len {s : UInt8} {l : List UInt8} {c : Cel} {t : List UInt8} (h : cellP s l = some (c, t)) : c.1.length + t.length ≤ l.length := by
  unfold cellP at h
  split at h
  · rename_i hh
    cases l with
    | nil => cases hh
    | cons d l =>
      split at h
      · cases h
      · rename_i p hp
        cases h
        have := congrArg List.length (rdQ_some (x := p.1) (t := p.2) hp).1
        rw [List.length_append, List.length_cons, esc_cnt, List.tail_cons] at this
        rw [List.length_cons]
        dsimp only
        omega
  · cases h
    have := congrArg List.length (tkU_eq s l).1
    rw [List.length_append] at this
    dsimp only
    omega
section
variable {V W : World}
set_option maxRecDepth 100000 in
set_option maxHeartbeats 2000000 in
theorem read_tbl (hV : Sub V W) (hT : Tabs V) (hM : MaxB V) {n : Nat} (hn : n < 3) (k : Bool) {s : Sl} {l : List UInt8} (hs : Byt V s l) (hl : l.length ≤ 1000) : Ret Tryz.prog 37 [s.v, .agg (lyC n k).toArray].toArray W (ReadH W V n k (rdFile (sepB n) (tEnd k) l)) := by
  have H := Rel.start hV
  have hlen := hs.len
  obtain ⟨h1l, h3l, hcut, hstr⟩ := sep_str hn
  refine cal_of_vc tabOk Tryz.func37 rfl (by kernel_rfl) 109 rfl (by simp) [0, 1, 3, 4, 5, 6, 7, 8, 9, 10, 11, 12, 13, 14, 26, 34, 42, 60, 78, 98] ?_
  (first | (refine H.wh ?_; clear H; intros; rename_i w H; constructor) | refine wk ?_)
  ((first | refine Rel.nwD H ?_ | refine Rel.nw H ?_); clear H; intro w b3 H)
  (first | (refine H.wh ?_; clear H; intros; rename_i w H; constructor) | refine wk ?_)
  ((first | refine Rel.nwD H ?_ | refine Rel.nw H ?_); clear H; intro w b4 H)
  (first | (refine H.wh ?_; clear H; intros; rename_i w H; constructor) | refine wk ?_)
  refine scope_vc tabOk ?_
  (first | (refine H.wh ?_; clear H; intros; rename_i w H; constructor) | refine wk ?_)
  ((first | refine Rel.nwD H ?_ | refine Rel.nw H ?_); clear H; intro w b18 H)
  (first | (refine H.wh ?_; clear H; intros; rename_i w H; constructor) | refine wk ?_)
  ((first | refine Rel.nwD H ?_ | refine Rel.nw H ?_); clear H; intro w b7 H)
  (first | (refine H.wh ?_; clear H; intros; rename_i w H; constructor) | refine wk ?_)
  replace H := (H.rowNil 3 1).rowNil 46 1
  have H0 : Rel W V [.blk b18 [iv (n : Nat), .bool k, s.v] 101, .row ⟨none, 0, 0⟩ 46 1 [], .row ⟨none, 0, 0⟩ 3 1 [], .blk b7 (fileC n k ⟨none, 0, 0⟩ ⟨none, 0, 0⟩ false) 52, .blk b4 (fileC 0 false ⟨none, 0, 0⟩ ⟨none, 0, 0⟩ false) 52, .blk b3 (lyC n k) 49] V w := H.pick
  clear H
  have H := H0
  clear H0
  refine loop_inv (S := Sl × List UInt8 × List (List Cel) × Sl × List Sl × Sl) tabOk [0, 1, 3, 4, 6, 7] (fun z => [(8, iv (z.2.2.1.flatten.length : Nat))]) (fun z w' => rdFile (sepB n) (tEnd k) l = rdT (sepB n) (tEnd k) z.2.2.1 z.2.1 ∧ z.2.2.1.length + z.2.1.length ≤ l.length ∧ z.2.2.1.flatten.length + z.2.1.length ≤ l.length ∧ ∃ V2, Sub V V2 ∧ Byt V2 z.1 z.2.1 ∧ Pw BysR V2 z.2.2.2.2.1 (tblOf z.2.2.1) ∧ Rel W V [.blk b18 [iv (n : Nat), .bool k, z.1.v] 101, .row z.2.2.2.1 46 1 (z.2.2.2.2.1.flatMap slC), .row z.2.2.2.2.2 3 1 ((nz (qn (sepB n) 0 z.2.2.1.flatten)).flatMap itC), .blk b7 (fileC n k z.2.2.2.1 z.2.2.2.2.2 false) 52, .blk b4 (fileC 0 false ⟨none, 0, 0⟩ ⟨none, 0, 0⟩ false) 52, .blk b3 (lyC n k) 49] V2 w') (fun z _ => z.2.1.length) (s, l, [], ⟨none, 0, 0⟩, [], ⟨none, 0, 0⟩) ?_
  (conv => whnf)
  refine ⟨(by repeat (first | exact trivial | refine ⟨rfl, ?_⟩)), ⟨rfl, by simp, by simp, V, Sub.refl _, hs, Pw.nil, H⟩, ?_⟩
  clear H
  rintro ⟨q, u, R, rs, hh, qs⟩ w ⟨hrd, hRl, hRf, V2, hV2, hq, hP, H⟩
  dsimp only at hrd hRl hRf hq hP H ⊢
  have hqn := hq.len
  have hhl := hP.len
  rw [List.length_map] at hhl
  by_cases hu : u.length = 0
  · have hu0 : u = [] := List.eq_nil_of_length_eq_zero hu
    have e : rdFile (sepB n) (tEnd k) l = some (R, false) := by rw [hrd, hu0]; rfl
    rw [e]
    have H1 := H.front_1
    clear H
    obtain ⟨V3, hV3, H, hrs⟩ := Rel.freezeF H1 (fun _ => rfl) (by decide)
    have H2 := H.front_1
    clear H H1
    obtain ⟨V4, hV4, H, hqs⟩ := Rel.freezeF H2 (fun _ => rfl) (by decide)
    clear H2
    (first | (refine H.wg ?_; clear H; intros; rename_i w H; constructor) | refine wk ?_)
    exact ⟨V4, n, k, rs, qs, false, true, (hV2.trans hV3).trans hV4, H.sx, rfl, rfl, rfl, rfl, rfl, ⟨hh, hrs.up hV4, hP.up bysR_up (hV3.trans hV4)⟩, hqs⟩
  (first | (refine H.wg ?_; clear H; intros; rename_i w H; constructor) | refine wk ?_)
  replace H := H.rowNil 22 1
  have H0 := H.front_1
  clear H
  have H := H0
  clear H0
  have e : rdFile (sepB n) (tEnd k) l = rdG (sepB n) (tEnd k) R [] u := by rw [hrd, rdT, if_neg (fun h => hu (by rw [h]; rfl))]
  clear hrd
  refine loop_inv (S := Sl × List UInt8 × List Cel × Sl × List Sl × Sl) tabOk [0, 1, 3, 4, 6, 7, 26] (fun z => [(8, iv ((R.flatten.length + z.2.2.1.length : Nat) : Int)), (9, z.2.2.2.1.v)]) (fun z w' => rdFile (sepB n) (tEnd k) l = rdG (sepB n) (tEnd k) R z.2.2.1 z.2.1 ∧ z.2.1.length ≤ u.length ∧ R.flatten.length + z.2.2.1.length + z.2.1.length ≤ l.length ∧ ∃ V3, Sub V V3 ∧ Byt V3 z.1 z.2.1 ∧ Pw BysR V3 hh (tblOf R) ∧ Pw BytR V3 z.2.2.2.2.1 (z.2.2.1.map Prod.fst) ∧ Rel W V [.blk b18 [iv (n : Nat), .bool k, z.1.v] 101, .row z.2.2.2.1 22 1 (z.2.2.2.2.1.flatMap slC), .row rs 46 1 (hh.flatMap slC), .row z.2.2.2.2.2 3 1 ((nz (qn (sepB n) 0 (R.flatten ++ z.2.2.1))).flatMap itC), .blk b7 (fileC n k rs z.2.2.2.2.2 false) 52, .blk b4 (fileC 0 false ⟨none, 0, 0⟩ ⟨none, 0, 0⟩ false) 52, .blk b3 (lyC n k) 49] V3 w') (fun z _ => z.2.1.length) (q, u, [], ⟨none, 0, 0⟩, [], qs) ?_
  (conv => whnf)
  refine ⟨(by repeat (first | exact trivial | refine ⟨rfl, ?_⟩)), ⟨e, Nat.le_refl _, by simpa using hRf, V2, hV2, hq, hP, Pw.nil, by rw [List.append_nil]; exact H⟩, ?_⟩
  clear H e hq hP hV2 hqn V2
  rintro ⟨q, u2, r, cs, gs, qs⟩ w ⟨hrd, hul, hcnt, V2, hV2, hq, hP, hG, H⟩
  dsimp only at hrd hul hcnt hq hP hG H ⊢
  (first | (refine H.wg ?_; clear H; intros; rename_i w H; constructor) | refine wk ?_)
  refine (cell_spec H (tabs_up' hT hV2) (hM.up hV2) hn hq (by omega)).use ?_
  rintro v w ⟨V3, c, q2, f, g, hV3, H2, rfl, hres⟩
  clear H
  have H := H2
  clear H2
  have hV23 := hV2.trans hV3
  have hgl := hG.len
  rw [List.length_map] at hgl
  cases hc : cellP (sepB n) u2 with
  | none =>
    rw [hc] at hres
    obtain rfl := hres
    have e : rdFile (sepB n) (tEnd k) l = none := by rw [hrd, rdG_bad (by rw [rdCell_p, hc])]
    rw [e]
    (first | (refine H.wg ?_; clear H; intros; rename_i w H; constructor) | refine wk ?_)
    exact ⟨V3, 0, false, ⟨none, 0, 0⟩, ⟨none, 0, 0⟩, false, false, hV23, H.sx, rfl, rfl⟩
  | some y =>
    obtain ⟨⟨x, f⟩, t⟩ := y
    rw [hc] at hres
    obtain ⟨rfl, rfl, hcx, hqt⟩ := hres
    dsimp only at hcx hqt ⊢
    have hxt := cellP_len hc
    dsimp only at hxt
    have hrc : rdCell (sepB n) u2 = if t.head? = some 34 then none else some ((x, f), t) := by rw [rdCell_p, hc]
    have hsn := qn_snoc (s := sepB n) (c := (x, f)) (r := R.flatten ++ r) (k := 0)
    rw [List.append_assoc, Nat.zero_add, List.length_append] at hsn
    dsimp only at hsn
    have hql := qn_len (s := sepB n) (r := R.flatten ++ r) (k := 0)
    rw [List.length_append] at hql
    have hnl : (nz (qn (sepB n) 0 (R.flatten ++ r))).length = (qn (sepB n) 0 (R.flatten ++ r)).length := List.length_map _
    have hG2 : Pw BytR V3 (gs ++ [c]) ((r ++ [(x, f)]).map Prod.fst) := by rw [List.map_append]; exact (hG.up (fun _ _ _ _ k h => h.up k) hV3).snoc hcx
    have hP2 := hP.up bysR_up hV3
    have hqtn := hqt.len
    cases f with
    | false =>
      rw [Bool.false_and, if_neg (by decide), List.append_nil] at hsn
      rw [← hsn] at H
      (first | (refine H.wg ?_; clear H; intros; rename_i w H; constructor) | refine wk ?_)
      refine Rel.app1_1 (f := slC) (s := cs) (l := gs) (x := c) tabOk rfl rfl rfl rfl rfl (by decide) (fun _ => rfl) (by simp [Value.oneCell']) H (by show (gs.length + 1) * 24 ≤ _; omega) (by omega) ?_
      clear H
      intro cs2 w H
      have hG3 : Pw BytR V3 (gs ++ [c]) ((r ++ [(x, false)]).map Prod.fst) := hG2
      by_cases ht0 : t.length = 0
      · have ht : t = [] := List.eq_nil_of_length_eq_zero ht0
        have e : rdFile (sepB n) (tEnd k) l = some (R ++ [r ++ [(x, false)]], true) := by rw [hrd, rdG_end (by rw [hrc, ht]; rfl)]
        rw [e]
        have H1 := H.front_1
        clear H
        obtain ⟨V4, hV4, H, hcs⟩ := Rel.freezeF H1 (fun _ => rfl) (by decide)
        clear H1
        (first | (refine H.wh ?_; clear H; intros; rename_i w H; constructor) | refine wk ?_)
        ((first | refine Rel.nwD H ?_ | refine Rel.nw H ?_); clear H; intro w b64 H)
        (first | (refine H.wg ?_; clear H; intros; rename_i w H; constructor) | refine wk ?_)
        refine Rel.app1_1 (f := slC) (s := rs) (l := hh) (x := cs2) tabOk rfl rfl rfl rfl rfl (by decide) (fun _ => rfl) (by simp [Value.oneCell']) H (by show (hh.length + 1) * 24 ≤ _; omega) (by omega) ?_
        clear H
        intro rs2 w H
        (first | (refine H.wg ?_; clear H; intros; rename_i w H; constructor) | refine wk ?_)
        have H1 := H.front_1
        clear H
        obtain ⟨V5, hV5, H, hrs⟩ := Rel.freezeF H1 (fun _ => rfl) (by decide)
        have H2 := H.front_1
        clear H H1
        obtain ⟨V6, hV6, H, hqs⟩ := Rel.freezeF H2 (fun _ => rfl) (by decide)
        refine ⟨V6, n, k, rs2, qs, true, true, ((hV23.trans hV4).trans hV5).trans hV6, H.sx, rfl, rfl, rfl, rfl, rfl, ⟨hh ++ [cs2], hrs.up hV6, ?_⟩, ?_⟩
        · rw [tblOf_snoc]
          exact (hP2.up bysR_up ((hV4.trans hV5).trans hV6)).snoc ⟨gs ++ [c], hcs.up (hV5.trans hV6), hG3.up (fun _ _ _ _ k h => h.up k) ((hV4.trans hV5).trans hV6)⟩
        · rw [flat_snoc]
          exact hqs
      (first | (refine H.wg ?_; clear H; intros; rename_i w H; constructor) | refine wk ?_)
      ((first | refine draw_vc (id := 15) tabOk mixed [5] [0, 1, 2, 3, 4, 5, 6, 7, 8, 9, 10, 11] (by kernel_rfl) ?_ | refine draw_vc (id := 18) tabOk mixed [] [0, 1, 2, 3, 4, 5, 6, 7, 8, 9] (by kernel_rfl) ?_); intro w hdw; replace H := Rel.ext H hdw.ext)
      (first | (refine H.wg ?_; clear H; intros; rename_i w H; constructor) | refine wk ?_)
      refine (end_tbl H.data n k).use ?_
      rintro v w ⟨V4, er, hV4, K, rfl, her⟩
      (have hKb := K.base; replace H := Rel.call H K)
      simp only [List.nil_append] at H
      (first | (refine H.wg ?_; clear H; intros; rename_i w H; constructor) | refine wk ?_)
      refine (cutPrefix_spec H.data (hqt.up hV4) her).use ?_
      rintro v w ⟨⟨r13, rfl, hr13⟩, K⟩
      (have hKb := K.base; replace H := Rel.call H K)
      simp only [List.nil_append] at H
      have hel := tEnd_le k
      by_cases hpre : t.take (tEnd k).length = tEnd k
      · rw [decide_eq_true hpre]
        have htl := congrArg List.length hpre
        rw [List.length_take] at htl
        have h34 : t.head? ≠ some 34 := fun h => head_end h hpre
        have e : rdFile (sepB n) (tEnd k) l = rdT (sepB n) (tEnd k) (R ++ [r ++ [(x, false)]]) (t.drop (tEnd k).length) := by rw [hrd, rdG_line (tEnd_ne k) (by rw [hrc, if_neg h34]) hpre]
        have H1 := H.front_1
        clear H
        obtain ⟨V5, hV5, H, hcs⟩ := Rel.freezeF H1 (fun _ => rfl) (by decide)
        clear H1
        (first | (refine H.wh ?_; clear H; intros; rename_i w H; constructor) | refine wk ?_)
        ((first | refine Rel.nwD H ?_ | refine Rel.nw H ?_); clear H; intro w b83 H)
        (first | (refine H.wg ?_; clear H; intros; rename_i w H; constructor) | refine wk ?_)
        refine Rel.app1_1 (f := slC) (s := rs) (l := hh) (x := cs2) tabOk rfl rfl rfl rfl rfl (by decide) (fun _ => rfl) (by simp [Value.oneCell']) H (by show (hh.length + 1) * 24 ≤ _; omega) (by omega) ?_
        clear H
        intro rs2 w H
        (first | (refine H.wg ?_; clear H; intros; rename_i w H; constructor) | refine wk ?_)
        refine ⟨(by repeat (first | exact trivial | refine ⟨rfl, ?_⟩)), (r13, t.drop (tEnd k).length, R ++ [r ++ [(x, false)]], rs2, hh ++ [cs2], qs), ⟨?_, trivial⟩, ⟨e, ?_, ?_, V5, (hV23.trans hV4).trans hV5, (hr13 hpre).up hV5, ?_, ?_⟩, ?_⟩
        · show some (Value.int .i64 _) = some (.int .i64 _)
          congr 2
          simp only [flat_snoc, List.length_append, List.length_cons, List.length_nil]
          omega
        · simp only [List.length_append, List.length_cons, List.length_nil, List.length_drop]
          omega
        · simp only [flat_snoc, List.length_append, List.length_cons, List.length_nil, List.length_drop]
          omega
        · rw [tblOf_snoc]
          exact (hP2.up bysR_up (hV4.trans hV5)).snoc ⟨gs ++ [c], hcs, hG3.up (fun _ _ _ _ k h => h.up k) (hV4.trans hV5)⟩
        · dsimp only
          rw [flat_snoc]
          exact H
        · simp only [List.length_drop]
          omega
      rw [decide_eq_false hpre]
      obtain ⟨d, t2, rfl⟩ : ∃ d t2, t = d :: t2 := by
        cases t with
        | nil => exact absurd rfl ht0
        | cons d t2 => exact ⟨d, t2, rfl⟩
      rw [List.length_cons] at hqtn hxt
      obtain ⟨p1, c1⟩ := (hqt.up hV4).at1 (g := bv) (i := 0) (fun _ => rfl) (by simp)
      change V4.cell? _ = some (bv d) at c1
      have hgs := sep_get hn
      by_cases hd : d = sepB n
      · subst hd
        have hd34 : sepB n ≠ 34 := (sepB_lt n).2.1
        have e : rdFile (sepB n) (tEnd k) l = rdG (sepB n) (tEnd k) R (r ++ [(x, false)]) t2 := by rw [hrd, rdG_sep (tEnd_ne k) (by rw [hrc, if_neg (by rw [List.head?_cons]; simpa using hd34)]) hpre]
        have hcd := (sl_cut (hqt.up hV4) (i := 1) (by simp)).2
        rw [show List.drop 1 (sepB n :: t2) = t2 from rfl] at hcd
        (first | (refine H.wg ?_; clear H; intros; rename_i w H; constructor) | refine wk ?_)
        ((first | refine draw_vc (id := 15) tabOk mixed [5] [0, 1, 2, 3, 4, 5, 6, 7, 8, 9, 10, 11] (by kernel_rfl) ?_ | refine draw_vc (id := 18) tabOk mixed [] [0, 1, 2, 3, 4, 5, 6, 7, 8, 9] (by kernel_rfl) ?_); intro w hdw; replace H := Rel.ext H hdw.ext)
        (first | (refine H.wg ?_; clear H; intros; rename_i w H; constructor) | refine wk ?_)
        refine ⟨(by repeat (first | exact trivial | refine ⟨rfl, ?_⟩)), (⟨subA q2.a 1 q2.cap 1, q2.len - 1, q2.cap - 1⟩, t2, r ++ [(x, false)], cs2, gs ++ [c], qs), ⟨?_, rfl, trivial⟩, ⟨e, ?_, ?_, V4, hV23.trans hV4, hcd, hP2.up bysR_up hV4, hG3.up (fun _ _ _ _ k h => h.up k) hV4, H⟩, ?_⟩
        · show some (Value.int .i64 _) = some (.int .i64 _)
          congr 2
          simp only [List.length_append, List.length_cons, List.length_nil]
          omega
        · simp only
          omega
        · simp only [List.length_append, List.length_cons, List.length_nil]
          omega
        · simp only
          omega
      · have hdn : d.toNat ≠ (sepB n).toNat := fun h => hd (UInt8.toNat_inj.1 h)
        have e : rdFile (sepB n) (tEnd k) l = none := by
          rw [hrd]
          by_cases h34 : (d :: t2).head? = some 34
          · exact rdG_bad (by rw [hrc, if_pos h34])
          · exact rdG_stop (by rw [hrc, if_neg h34]) (by simp) hpre (by rw [List.head?_cons]; simpa using hd)
        rw [e]
        (first | (refine H.wg ?_; clear H; intros; rename_i w H; constructor) | refine wk ?_)
        ((first | refine draw_vc (id := 15) tabOk mixed [5] [0, 1, 2, 3, 4, 5, 6, 7, 8, 9, 10, 11] (by kernel_rfl) ?_ | refine draw_vc (id := 18) tabOk mixed [] [0, 1, 2, 3, 4, 5, 6, 7, 8, 9] (by kernel_rfl) ?_); intro w hdw; replace H := Rel.ext H hdw.ext)
        (first | (refine H.wg ?_; clear H; intros; rename_i w H; constructor) | refine wk ?_)
        exact ⟨V4, 0, false, ⟨none, 0, 0⟩, ⟨none, 0, 0⟩, false, false, hV23.trans hV4, H.sx, rfl, rfl⟩
    | true =>
      (first | (refine H.wg ?_; clear H; intros; rename_i w H; constructor) | refine wk ?_)
      refine (needs_tbl H.data (tabs_up' hT hV23) (hM.up hV23) hn k hcx (by omega)).use ?_
      rintro v w ⟨rfl, K⟩
      (have hKb := K.base; replace H := Rel.call H K)
      simp only [List.nil_append] at H
      cases hN : tNeeds (sepB n) x with
      | true =>
        rw [hN, Bool.not_true, Bool.and_false, if_neg (by decide), List.append_nil] at hsn
        rw [← hsn] at H
        (first | (refine H.wg ?_; clear H; intros; rename_i w H; constructor) | refine wk ?_)
        refine Rel.app1_1 (f := slC) (s := cs) (l := gs) (x := c) tabOk rfl rfl rfl rfl rfl (by decide) (fun _ => rfl) (by simp [Value.oneCell']) H (by show (gs.length + 1) * 24 ≤ _; omega) (by omega) ?_
        clear H
        intro cs2 w H
        have hG3 : Pw BytR V3 (gs ++ [c]) ((r ++ [(x, true)]).map Prod.fst) := hG2
        by_cases ht0 : t.length = 0
        · have ht : t = [] := List.eq_nil_of_length_eq_zero ht0
          have e : rdFile (sepB n) (tEnd k) l = some (R ++ [r ++ [(x, true)]], true) := by rw [hrd, rdG_end (by rw [hrc, ht]; rfl)]
          rw [e]
          have H1 := H.front_1
          clear H
          obtain ⟨V4, hV4, H, hcs⟩ := Rel.freezeF H1 (fun _ => rfl) (by decide)
          clear H1
          (first | (refine H.wh ?_; clear H; intros; rename_i w H; constructor) | refine wk ?_)
          ((first | refine Rel.nwD H ?_ | refine Rel.nw H ?_); clear H; intro w b64 H)
          (first | (refine H.wg ?_; clear H; intros; rename_i w H; constructor) | refine wk ?_)
          refine Rel.app1_1 (f := slC) (s := rs) (l := hh) (x := cs2) tabOk rfl rfl rfl rfl rfl (by decide) (fun _ => rfl) (by simp [Value.oneCell']) H (by show (hh.length + 1) * 24 ≤ _; omega) (by omega) ?_
          clear H
          intro rs2 w H
          (first | (refine H.wg ?_; clear H; intros; rename_i w H; constructor) | refine wk ?_)
          have H1 := H.front_1
          clear H
          obtain ⟨V5, hV5, H, hrs⟩ := Rel.freezeF H1 (fun _ => rfl) (by decide)
          have H2 := H.front_1
          clear H H1
          obtain ⟨V6, hV6, H, hqs⟩ := Rel.freezeF H2 (fun _ => rfl) (by decide)
          refine ⟨V6, n, k, rs2, qs, true, true, ((hV23.trans hV4).trans hV5).trans hV6, H.sx, rfl, rfl, rfl, rfl, rfl, ⟨hh ++ [cs2], hrs.up hV6, ?_⟩, ?_⟩
          · rw [tblOf_snoc]
            exact (hP2.up bysR_up ((hV4.trans hV5).trans hV6)).snoc ⟨gs ++ [c], hcs.up (hV5.trans hV6), hG3.up (fun _ _ _ _ k h => h.up k) ((hV4.trans hV5).trans hV6)⟩
          · rw [flat_snoc]
            exact hqs
        (first | (refine H.wg ?_; clear H; intros; rename_i w H; constructor) | refine wk ?_)
        ((first | refine draw_vc (id := 15) tabOk mixed [5] [0, 1, 2, 3, 4, 5, 6, 7, 8, 9, 10, 11] (by kernel_rfl) ?_ | refine draw_vc (id := 18) tabOk mixed [] [0, 1, 2, 3, 4, 5, 6, 7, 8, 9] (by kernel_rfl) ?_); intro w hdw; replace H := Rel.ext H hdw.ext)
        (first | (refine H.wg ?_; clear H; intros; rename_i w H; constructor) | refine wk ?_)
        refine (end_tbl H.data n k).use ?_
        rintro v w ⟨V4, er, hV4, K, rfl, her⟩
        (have hKb := K.base; replace H := Rel.call H K)
        simp only [List.nil_append] at H
        (first | (refine H.wg ?_; clear H; intros; rename_i w H; constructor) | refine wk ?_)
        refine (cutPrefix_spec H.data (hqt.up hV4) her).use ?_
        rintro v w ⟨⟨r13, rfl, hr13⟩, K⟩
        (have hKb := K.base; replace H := Rel.call H K)
        simp only [List.nil_append] at H
        have hel := tEnd_le k
        by_cases hpre : t.take (tEnd k).length = tEnd k
        · rw [decide_eq_true hpre]
          have htl := congrArg List.length hpre
          rw [List.length_take] at htl
          have h34 : t.head? ≠ some 34 := fun h => head_end h hpre
          have e : rdFile (sepB n) (tEnd k) l = rdT (sepB n) (tEnd k) (R ++ [r ++ [(x, true)]]) (t.drop (tEnd k).length) := by rw [hrd, rdG_line (tEnd_ne k) (by rw [hrc, if_neg h34]) hpre]
          have H1 := H.front_1
          clear H
          obtain ⟨V5, hV5, H, hcs⟩ := Rel.freezeF H1 (fun _ => rfl) (by decide)
          clear H1
          (first | (refine H.wh ?_; clear H; intros; rename_i w H; constructor) | refine wk ?_)
          ((first | refine Rel.nwD H ?_ | refine Rel.nw H ?_); clear H; intro w b83 H)
          (first | (refine H.wg ?_; clear H; intros; rename_i w H; constructor) | refine wk ?_)
          refine Rel.app1_1 (f := slC) (s := rs) (l := hh) (x := cs2) tabOk rfl rfl rfl rfl rfl (by decide) (fun _ => rfl) (by simp [Value.oneCell']) H (by show (hh.length + 1) * 24 ≤ _; omega) (by omega) ?_
          clear H
          intro rs2 w H
          (first | (refine H.wg ?_; clear H; intros; rename_i w H; constructor) | refine wk ?_)
          refine ⟨(by repeat (first | exact trivial | refine ⟨rfl, ?_⟩)), (r13, t.drop (tEnd k).length, R ++ [r ++ [(x, true)]], rs2, hh ++ [cs2], qs), ⟨?_, trivial⟩, ⟨e, ?_, ?_, V5, (hV23.trans hV4).trans hV5, (hr13 hpre).up hV5, ?_, ?_⟩, ?_⟩
          · show some (Value.int .i64 _) = some (.int .i64 _)
            congr 2
            simp only [flat_snoc, List.length_append, List.length_cons, List.length_nil]
            omega
          · simp only [List.length_append, List.length_cons, List.length_nil, List.length_drop]
            omega
          · simp only [flat_snoc, List.length_append, List.length_cons, List.length_nil, List.length_drop]
            omega
          · rw [tblOf_snoc]
            exact (hP2.up bysR_up (hV4.trans hV5)).snoc ⟨gs ++ [c], hcs, hG3.up (fun _ _ _ _ k h => h.up k) (hV4.trans hV5)⟩
          · dsimp only
            rw [flat_snoc]
            exact H
          · simp only [List.length_drop]
            omega
        rw [decide_eq_false hpre]
        obtain ⟨d, t2, rfl⟩ : ∃ d t2, t = d :: t2 := by
          cases t with
          | nil => exact absurd rfl ht0
          | cons d t2 => exact ⟨d, t2, rfl⟩
        rw [List.length_cons] at hqtn hxt
        obtain ⟨p1, c1⟩ := (hqt.up hV4).at1 (g := bv) (i := 0) (fun _ => rfl) (by simp)
        change V4.cell? _ = some (bv d) at c1
        have hgs := sep_get hn
        by_cases hd : d = sepB n
        · subst hd
          have hd34 : sepB n ≠ 34 := (sepB_lt n).2.1
          have e : rdFile (sepB n) (tEnd k) l = rdG (sepB n) (tEnd k) R (r ++ [(x, true)]) t2 := by rw [hrd, rdG_sep (tEnd_ne k) (by rw [hrc, if_neg (by rw [List.head?_cons]; simpa using hd34)]) hpre]
          have hcd := (sl_cut (hqt.up hV4) (i := 1) (by simp)).2
          rw [show List.drop 1 (sepB n :: t2) = t2 from rfl] at hcd
          (first | (refine H.wg ?_; clear H; intros; rename_i w H; constructor) | refine wk ?_)
          ((first | refine draw_vc (id := 15) tabOk mixed [5] [0, 1, 2, 3, 4, 5, 6, 7, 8, 9, 10, 11] (by kernel_rfl) ?_ | refine draw_vc (id := 18) tabOk mixed [] [0, 1, 2, 3, 4, 5, 6, 7, 8, 9] (by kernel_rfl) ?_); intro w hdw; replace H := Rel.ext H hdw.ext)
          (first | (refine H.wg ?_; clear H; intros; rename_i w H; constructor) | refine wk ?_)
          refine ⟨(by repeat (first | exact trivial | refine ⟨rfl, ?_⟩)), (⟨subA q2.a 1 q2.cap 1, q2.len - 1, q2.cap - 1⟩, t2, r ++ [(x, true)], cs2, gs ++ [c], qs), ⟨?_, rfl, trivial⟩, ⟨e, ?_, ?_, V4, hV23.trans hV4, hcd, hP2.up bysR_up hV4, hG3.up (fun _ _ _ _ k h => h.up k) hV4, H⟩, ?_⟩
          · show some (Value.int .i64 _) = some (.int .i64 _)
            congr 2
            simp only [List.length_append, List.length_cons, List.length_nil]
            omega
          · simp only
            omega
          · simp only [List.length_append, List.length_cons, List.length_nil]
            omega
          · simp only
            omega
        · have hdn : d.toNat ≠ (sepB n).toNat := fun h => hd (UInt8.toNat_inj.1 h)
          have e : rdFile (sepB n) (tEnd k) l = none := by
            rw [hrd]
            by_cases h34 : (d :: t2).head? = some 34
            · exact rdG_bad (by rw [hrc, if_pos h34])
            · exact rdG_stop (by rw [hrc, if_neg h34]) (by simp) hpre (by rw [List.head?_cons]; simpa using hd)
          rw [e]
          (first | (refine H.wg ?_; clear H; intros; rename_i w H; constructor) | refine wk ?_)
          ((first | refine draw_vc (id := 15) tabOk mixed [5] [0, 1, 2, 3, 4, 5, 6, 7, 8, 9, 10, 11] (by kernel_rfl) ?_ | refine draw_vc (id := 18) tabOk mixed [] [0, 1, 2, 3, 4, 5, 6, 7, 8, 9] (by kernel_rfl) ?_); intro w hdw; replace H := Rel.ext H hdw.ext)
          (first | (refine H.wg ?_; clear H; intros; rename_i w H; constructor) | refine wk ?_)
          exact ⟨V4, 0, false, ⟨none, 0, 0⟩, ⟨none, 0, 0⟩, false, false, hV23.trans hV4, H.sx, rfl, rfl⟩
      | false =>
        rw [hN, Bool.not_false, Bool.and_true, if_pos rfl] at hsn
        (first | (refine H.wh ?_; clear H; intros; rename_i w H; constructor) | refine wk ?_)
        ((first | refine Rel.nwD H ?_ | refine Rel.nw H ?_); clear H; intro w b46 H)
        (first | (refine H.wg ?_; clear H; intros; rename_i w H; constructor) | refine wk ?_)
        refine Rel.app1_3 (f := itC) (s := qs) (l := nz (qn (sepB n) 0 (R.flatten ++ r))) (x := ((R.flatten.length + r.length : Nat) : Int)) tabOk rfl rfl rfl rfl rfl (by decide) (fun _ => rfl) (by simp [Value.oneCell']) H (by rw [hnl]; show (_ + 1) * 8 ≤ _; omega) (by rw [hnl]; omega) ?_
        clear H
        intro qs2 w H
        rw [show nz (qn (sepB n) 0 (R.flatten ++ r)) ++ [((R.flatten.length + r.length : Nat) : Int)] = nz (qn (sepB n) 0 (R.flatten ++ (r ++ [(x, true)]))) by rw [hsn]; simp] at H
        (first | (refine H.wg ?_; clear H; intros; rename_i w H; constructor) | refine wk ?_)
        refine Rel.app1_1 (f := slC) (s := cs) (l := gs) (x := c) tabOk rfl rfl rfl rfl rfl (by decide) (fun _ => rfl) (by simp [Value.oneCell']) H (by show (gs.length + 1) * 24 ≤ _; omega) (by omega) ?_
        clear H
        intro cs2 w H
        have hG3 : Pw BytR V3 (gs ++ [c]) ((r ++ [(x, true)]).map Prod.fst) := hG2
        by_cases ht0 : t.length = 0
        · have ht : t = [] := List.eq_nil_of_length_eq_zero ht0
          have e : rdFile (sepB n) (tEnd k) l = some (R ++ [r ++ [(x, true)]], true) := by rw [hrd, rdG_end (by rw [hrc, ht]; rfl)]
          rw [e]
          have H1 := H.front_1
          clear H
          obtain ⟨V4, hV4, H, hcs⟩ := Rel.freezeF H1 (fun _ => rfl) (by decide)
          clear H1
          (first | (refine H.wh ?_; clear H; intros; rename_i w H; constructor) | refine wk ?_)
          ((first | refine Rel.nwD H ?_ | refine Rel.nw H ?_); clear H; intro w b64 H)
          (first | (refine H.wg ?_; clear H; intros; rename_i w H; constructor) | refine wk ?_)
          refine Rel.app1_1 (f := slC) (s := rs) (l := hh) (x := cs2) tabOk rfl rfl rfl rfl rfl (by decide) (fun _ => rfl) (by simp [Value.oneCell']) H (by show (hh.length + 1) * 24 ≤ _; omega) (by omega) ?_
          clear H
          intro rs2 w H
          (first | (refine H.wg ?_; clear H; intros; rename_i w H; constructor) | refine wk ?_)
          have H1 := H.front_1
          clear H
          obtain ⟨V5, hV5, H, hrs⟩ := Rel.freezeF H1 (fun _ => rfl) (by decide)
          have H2 := H.front_1
          clear H H1
          obtain ⟨V6, hV6, H, hqs⟩ := Rel.freezeF H2 (fun _ => rfl) (by decide)
          refine ⟨V6, n, k, rs2, qs2, true, true, ((hV23.trans hV4).trans hV5).trans hV6, H.sx, rfl, rfl, rfl, rfl, rfl, ⟨hh ++ [cs2], hrs.up hV6, ?_⟩, ?_⟩
          · rw [tblOf_snoc]
            exact (hP2.up bysR_up ((hV4.trans hV5).trans hV6)).snoc ⟨gs ++ [c], hcs.up (hV5.trans hV6), hG3.up (fun _ _ _ _ k h => h.up k) ((hV4.trans hV5).trans hV6)⟩
          · rw [flat_snoc]
            exact hqs
        (first | (refine H.wg ?_; clear H; intros; rename_i w H; constructor) | refine wk ?_)
        ((first | refine draw_vc (id := 15) tabOk mixed [5] [0, 1, 2, 3, 4, 5, 6, 7, 8, 9, 10, 11] (by kernel_rfl) ?_ | refine draw_vc (id := 18) tabOk mixed [] [0, 1, 2, 3, 4, 5, 6, 7, 8, 9] (by kernel_rfl) ?_); intro w hdw; replace H := Rel.ext H hdw.ext)
        (first | (refine H.wg ?_; clear H; intros; rename_i w H; constructor) | refine wk ?_)
        refine (end_tbl H.data n k).use ?_
        rintro v w ⟨V4, er, hV4, K, rfl, her⟩
        (have hKb := K.base; replace H := Rel.call H K)
        simp only [List.nil_append] at H
        (first | (refine H.wg ?_; clear H; intros; rename_i w H; constructor) | refine wk ?_)
        refine (cutPrefix_spec H.data (hqt.up hV4) her).use ?_
        rintro v w ⟨⟨r13, rfl, hr13⟩, K⟩
        (have hKb := K.base; replace H := Rel.call H K)
        simp only [List.nil_append] at H
        have hel := tEnd_le k
        by_cases hpre : t.take (tEnd k).length = tEnd k
        · rw [decide_eq_true hpre]
          have htl := congrArg List.length hpre
          rw [List.length_take] at htl
          have h34 : t.head? ≠ some 34 := fun h => head_end h hpre
          have e : rdFile (sepB n) (tEnd k) l = rdT (sepB n) (tEnd k) (R ++ [r ++ [(x, true)]]) (t.drop (tEnd k).length) := by rw [hrd, rdG_line (tEnd_ne k) (by rw [hrc, if_neg h34]) hpre]
          have H1 := H.front_1
          clear H
          obtain ⟨V5, hV5, H, hcs⟩ := Rel.freezeF H1 (fun _ => rfl) (by decide)
          clear H1
          (first | (refine H.wh ?_; clear H; intros; rename_i w H; constructor) | refine wk ?_)
          ((first | refine Rel.nwD H ?_ | refine Rel.nw H ?_); clear H; intro w b83 H)
          (first | (refine H.wg ?_; clear H; intros; rename_i w H; constructor) | refine wk ?_)
          refine Rel.app1_1 (f := slC) (s := rs) (l := hh) (x := cs2) tabOk rfl rfl rfl rfl rfl (by decide) (fun _ => rfl) (by simp [Value.oneCell']) H (by show (hh.length + 1) * 24 ≤ _; omega) (by omega) ?_
          clear H
          intro rs2 w H
          (first | (refine H.wg ?_; clear H; intros; rename_i w H; constructor) | refine wk ?_)
          refine ⟨(by repeat (first | exact trivial | refine ⟨rfl, ?_⟩)), (r13, t.drop (tEnd k).length, R ++ [r ++ [(x, true)]], rs2, hh ++ [cs2], qs2), ⟨?_, trivial⟩, ⟨e, ?_, ?_, V5, (hV23.trans hV4).trans hV5, (hr13 hpre).up hV5, ?_, ?_⟩, ?_⟩
          · show some (Value.int .i64 _) = some (.int .i64 _)
            congr 2
            simp only [flat_snoc, List.length_append, List.length_cons, List.length_nil]
            omega
          · simp only [List.length_append, List.length_cons, List.length_nil, List.length_drop]
            omega
          · simp only [flat_snoc, List.length_append, List.length_cons, List.length_nil, List.length_drop]
            omega
          · rw [tblOf_snoc]
            exact (hP2.up bysR_up (hV4.trans hV5)).snoc ⟨gs ++ [c], hcs, hG3.up (fun _ _ _ _ k h => h.up k) (hV4.trans hV5)⟩
          · dsimp only
            rw [flat_snoc]
            exact H
          · simp only [List.length_drop]
            omega
        rw [decide_eq_false hpre]
        obtain ⟨d, t2, rfl⟩ : ∃ d t2, t = d :: t2 := by
          cases t with
          | nil => exact absurd rfl ht0
          | cons d t2 => exact ⟨d, t2, rfl⟩
        rw [List.length_cons] at hqtn hxt
        obtain ⟨p1, c1⟩ := (hqt.up hV4).at1 (g := bv) (i := 0) (fun _ => rfl) (by simp)
        change V4.cell? _ = some (bv d) at c1
        have hgs := sep_get hn
        by_cases hd : d = sepB n
        · subst hd
          have hd34 : sepB n ≠ 34 := (sepB_lt n).2.1
          have e : rdFile (sepB n) (tEnd k) l = rdG (sepB n) (tEnd k) R (r ++ [(x, true)]) t2 := by rw [hrd, rdG_sep (tEnd_ne k) (by rw [hrc, if_neg (by rw [List.head?_cons]; simpa using hd34)]) hpre]
          have hcd := (sl_cut (hqt.up hV4) (i := 1) (by simp)).2
          rw [show List.drop 1 (sepB n :: t2) = t2 from rfl] at hcd
          (first | (refine H.wg ?_; clear H; intros; rename_i w H; constructor) | refine wk ?_)
          ((first | refine draw_vc (id := 15) tabOk mixed [5] [0, 1, 2, 3, 4, 5, 6, 7, 8, 9, 10, 11] (by kernel_rfl) ?_ | refine draw_vc (id := 18) tabOk mixed [] [0, 1, 2, 3, 4, 5, 6, 7, 8, 9] (by kernel_rfl) ?_); intro w hdw; replace H := Rel.ext H hdw.ext)
          (first | (refine H.wg ?_; clear H; intros; rename_i w H; constructor) | refine wk ?_)
          refine ⟨(by repeat (first | exact trivial | refine ⟨rfl, ?_⟩)), (⟨subA q2.a 1 q2.cap 1, q2.len - 1, q2.cap - 1⟩, t2, r ++ [(x, true)], cs2, gs ++ [c], qs2), ⟨?_, rfl, trivial⟩, ⟨e, ?_, ?_, V4, hV23.trans hV4, hcd, hP2.up bysR_up hV4, hG3.up (fun _ _ _ _ k h => h.up k) hV4, H⟩, ?_⟩
          · show some (Value.int .i64 _) = some (.int .i64 _)
            congr 2
            simp only [List.length_append, List.length_cons, List.length_nil]
            omega
          · simp only
            omega
          · simp only [List.length_append, List.length_cons, List.length_nil]
            omega
          · simp only
            omega
        · have hdn : d.toNat ≠ (sepB n).toNat := fun h => hd (UInt8.toNat_inj.1 h)
          have e : rdFile (sepB n) (tEnd k) l = none := by
            rw [hrd]
            by_cases h34 : (d :: t2).head? = some 34
            · exact rdG_bad (by rw [hrc, if_pos h34])
            · exact rdG_stop (by rw [hrc, if_neg h34]) (by simp) hpre (by rw [List.head?_cons]; simpa using hd)
          rw [e]
          (first | (refine H.wg ?_; clear H; intros; rename_i w H; constructor) | refine wk ?_)
          ((first | refine draw_vc (id := 15) tabOk mixed [5] [0, 1, 2, 3, 4, 5, 6, 7, 8, 9, 10, 11] (by kernel_rfl) ?_ | refine draw_vc (id := 18) tabOk mixed [] [0, 1, 2, 3, 4, 5, 6, 7, 8, 9] (by kernel_rfl) ?_); intro w hdw; replace H := Rel.ext H hdw.ext)
          (first | (refine H.wg ?_; clear H; intros; rename_i w H; constructor) | refine wk ?_)
          exact ⟨V4, 0, false, ⟨none, 0, 0⟩, ⟨none, 0, 0⟩, false, false, hV23.trans hV4, H.sx, rfl, rfl⟩
end
end Go.Proofs.YtkfcdjomkcmkeaaGreatDoor
