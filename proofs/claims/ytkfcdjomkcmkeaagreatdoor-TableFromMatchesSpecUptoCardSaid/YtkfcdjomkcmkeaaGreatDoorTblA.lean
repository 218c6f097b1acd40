/-
  Files of tables: layouts; how a cell is read.
-/
import Derived.Test.YtkfcdjomkcmkeaaGreatDoorLibH
import Derived.Test.YtkfcdjomkcmkeaaGreatDoorLibB
import Derived.Test.YtkfcdjomkcmkeaaGreatDoorTblR
import Derived.Test.YtkfcdjomkcmkeaaGreatDoorCnvL
namespace Go.Proofs.YtkfcdjomkcmkeaaGreatDoor
open Go Go.RowKit

abbrev lyC (n : Nat) (k : Bool) : List Value := [iv (n : Nat), .bool k]
/-- a cell as the program reads it -/
def cellP (s : UInt8) (l : List UInt8) : Option (Cel × List UInt8) := if l.head? = some 34 then (match rdQ l.tail with
    | none => none
    | some p => some ((p.1, true), p.2)) else some (((tkU s l).1, false), (tkU s l).2)
theorem rdCell_p (s : UInt8) (l : List UInt8) : rdCell s l = match cellP s l with
    | none => none
    | some (c, t) => if t.head? = some 34 then none else some (c, t) := by
  unfold rdCell cellP
  split
  · cases h : rdQ l.tail with
    | none => rfl
    | some p =>
      simp only
      rw [if_neg (rdQ_some (x := p.1) (t := p.2) h).2]
  · rfl
def preQ (x : List UInt8) (o : Option (List UInt8 × List UInt8)) : Option (List UInt8 × List UInt8) := o.map fun p => (x ++ p.1, p.2)
theorem preQ_nil (o : Option (List UInt8 × List UInt8)) : preQ [] o = o := by cases o <;> rfl
theorem preQ_pre (x y : List UInt8) (o : Option (List UInt8 × List UInt8)) : preQ x (preQ y o) = preQ (x ++ y) o := by cases o <;> simp [preQ]
theorem rdQ_cons {c d : UInt8} {t : List UInt8} (h : c ≠ 34) : rdQ (c :: d :: t) = preQ [c] (rdQ (d :: t)) := by
  rw [rdQ, if_neg h]
  cases rdQ (d :: t) <;> rfl
theorem rdQ_no : ∀ {t : List UInt8}, t.count 34 = 0 → rdQ t = none
  | [], _ => rfl
  | [c], h => by
    unfold rdQ
    rw [if_neg]
    rintro rfl
    simp at h
  | c :: d :: t, h => by
    rw [List.count_cons] at h
    have hc : c ≠ 34 := by rintro rfl; simp at h
    rw [rdQ_cons hc, rdQ_no (by omega)]
    rfl
theorem rdQ_end {a r : List UInt8} (h : a.count 34 = 0) (hr : r.head? ≠ some 34) : rdQ (a ++ 34 :: r) = some (a, r) := by
  have := rdQ_out a hr
  rwa [esc_none h] at this
theorem rdQ_go : ∀ {a r : List UInt8}, a.count 34 = 0 → rdQ (a ++ 34 :: 34 :: r) = preQ (a ++ [34]) (rdQ r)
  | [], r, _ => by
    show rdQ (34 :: 34 :: r) = _
    rw [rdQ, if_pos rfl, if_pos rfl]
    cases rdQ r <;> rfl
  | [c], r, h => by
    have hc : c ≠ 34 := by rintro rfl; simp at h
    show rdQ (c :: 34 :: 34 :: r) = _
    rw [rdQ_cons hc]
    have := rdQ_go (a := []) (r := r) rfl
    rw [List.nil_append] at this
    rw [this, preQ_pre]
    rfl
  | c :: d :: a, r, h => by
    rw [List.count_cons] at h
    have hc : c ≠ 34 := by rintro rfl; simp at h
    show rdQ (c :: d :: (a ++ 34 :: 34 :: r)) = _
    rw [rdQ_cons hc]
    have := rdQ_go (a := d :: a) (r := r) (by omega)
    rw [List.cons_append] at this
    rw [this, preQ_pre]
    rfl
theorem tkU_ix (s : UInt8) (l : List UInt8) : (ixA s l = -1 ∧ (tkU s l) = (l, [])) ∨ ∃ i : Nat, i < l.length ∧ ixA s l = i ∧ tkU s l = (l.take i, l.drop i) := by
  have h1 := (tkU_eq s l).1
  unfold ixA
  generalize tkU s l = p at h1 ⊢
  obtain ⟨u, v⟩ := p
  dsimp only at h1 ⊢
  by_cases hv : v = []
  · rw [if_pos hv]
    rw [hv, List.append_nil] at h1
    exact .inl ⟨rfl, by rw [hv, h1]⟩
  · rw [if_neg hv]
    have hp := List.length_pos_iff.2 hv
    subst h1
    exact .inr ⟨u.length, by rw [List.length_append]; omega, rfl, by simp⟩
theorem sepB_lt (n : Nat) : (sepB n).toNat < 128 ∧ sepB n ≠ 34 ∧ sepB n ≠ 13 ∧ sepB n ≠ 10 := by
  unfold sepB
  split
  · decide
  · split <;> decide
theorem sep_str {n : Nat} (hn : n < 3) : ([34, 13, 10] : List UInt8).length = 3 ∧ ([44, 59, 9] : List UInt8).length = 3 ∧ (List.drop ((n : Nat) : Int).toNat (List.take (((n : Nat) : Int) + 1).toNat ([44, 59, 9] : List UInt8))).length = 1 ∧ ([34, 13, 10] : List UInt8) ++ List.drop ((n : Nat) : Int).toNat (List.take (((n : Nat) : Int) + 1).toNat ([44, 59, 9] : List UInt8)) = [34, 13, 10, sepB n] := by
  match n, hn with
  | 0, _ => exact ⟨rfl, rfl, rfl, rfl⟩
  | 1, _ => exact ⟨rfl, rfl, rfl, rfl⟩
  | 2, _ => exact ⟨rfl, rfl, rfl, rfl⟩
section
variable {V W : World}
theorem fault_tbl (hV : Sub V W) (c i : Int) : Ret Tryz.prog 16 [iv c, iv i].toArray W fun v w' => v = faultV c i ∧ Rel W V [] V w' := by
  have H := Rel.start hV
  refine cal_of_vc tabOk Tryz.func16 rfl (by kernel_rfl) 8 rfl (by simp) [0, 1, 4] ?_
  (first | (refine H.wg ?_; clear H; intros; rename_i w H; constructor) | refine wk ?_)
  first | exact H.sx | exact ⟨rfl, H.sx⟩
theorem end_tbl (hV : Sub V W) (n : Nat) (k : Bool) : Ret Tryz.prog 53 [.agg (lyC n k).toArray].toArray W fun v w' => ∃ (V' : World) (r : Sl), Sub V V' ∧ Rel W V [] V' w' ∧ v = r.v ∧ Byt V' r (tEnd k) := by
  have H := Rel.start hV
  refine cal_of_vc tabOk Tryz.func53 rfl (by kernel_rfl) 9 rfl (by simp) [0, 1, 2, 4] ?_
  cases k with
  | true =>
    (first | (refine H.wh ?_; clear H; intros; rename_i w H; constructor) | refine wk ?_)
    ((first | refine Rel.nwD H ?_ | refine Rel.nw H ?_); clear H; intro w b1 H)
    (first | (refine H.wh ?_; clear H; intros; rename_i w H; constructor) | refine wk ?_)
    ((first | refine Rel.nwD H ?_ | refine Rel.nw H ?_); clear H; intro w b2 H)
    replace H := H.blkEq (c' := ([13, 10] : List UInt8).flatMap byC) rfl
    (first | (refine H.wg ?_; clear H; intros; rename_i w H; constructor) | refine wk ?_)
    refine Rel.convBB (b := b2) (l := [13, 10]) Tryz.underlying22 Tryz.underlying5 H rfl ?_
    clear H
    intro V2 w hV2 hx H
    (first | (refine H.wg ?_; clear H; intros; rename_i w H; constructor) | refine wk ?_)
    exact ⟨V2, _, hV2, H.sx, rfl, hx⟩
  | false =>
    (first | (refine H.wh ?_; clear H; intros; rename_i w H; constructor) | refine wk ?_)
    ((first | refine Rel.nwD H ?_ | refine Rel.nw H ?_); clear H; intro w b1 H)
    (first | (refine H.wh ?_; clear H; intros; rename_i w H; constructor) | refine wk ?_)
    ((first | refine Rel.nwD H ?_ | refine Rel.nw H ?_); clear H; intro w b2 H)
    replace H := H.blkEq (c' := ([10] : List UInt8).flatMap byC) rfl
    (first | (refine H.wg ?_; clear H; intros; rename_i w H; constructor) | refine wk ?_)
    refine Rel.convBB (b := b2) (l := [10]) Tryz.underlying22 Tryz.underlying5 H rfl ?_
    clear H
    intro V2 w hV2 hx H
    (first | (refine H.wg ?_; clear H; intros; rename_i w H; constructor) | refine wk ?_)
    exact ⟨V2, _, hV2, H.sx, rfl, hx⟩
set_option maxRecDepth 100000 in
theorem needs_tbl (hV : Sub V W) (hT : Tabs V) (hM : MaxB V) {n : Nat} (hn : n < 3) (k : Bool) {s : Sl} {l : List UInt8} (hs : Byt V s l) (hl : l.length ≤ 100000000) : Ret Tryz.prog 49 [.agg (lyC n k).toArray, s.v].toArray W fun v w' => v = .bool (tNeeds (sepB n) l) ∧ Rel W V [] V w' := by
  have H := Rel.start hV
  obtain ⟨h1l, h3l, hcut, hstr⟩ := sep_str hn
  refine cal_of_vc tabOk Tryz.func49 rfl (by kernel_rfl) 14 rfl (by simp) [0, 1, 2, 4] ?_
  (first | (refine H.wh ?_; clear H; intros; rename_i w H; constructor) | refine wk ?_)
  ((first | refine Rel.nwD H ?_ | refine Rel.nw H ?_); clear H; intro w b1 H)
  (first | (refine H.wg ?_; clear H; intros; rename_i w H; constructor) | refine wk ?_)
  rw [hstr]
  refine (containsAny_spec H.data hT hM hs hl (sepB_lt n).1).use ?_
  rintro v w ⟨rfl, K⟩
  (have hKb := K.base; replace H := H.call0 K)
  (first | (refine H.wg ?_; clear H; intros; rename_i w H; constructor) | refine wk ?_)
  first | exact H.sx | exact ⟨rfl, H.sx⟩
/-- what reader.cell returns -/
structure CellH (w0 V0 : World) (own : List Res) (b n : Nat) (k : Bool) (V : World) (o : Option (Cel × List UInt8)) (v : Value) (w' : World) : Prop where
  ex : ∃ (V' : World) (c q : Sl) (f g : Bool), Sub V V' ∧ Rel w0 V0 (.blk b [iv (n : Nat), .bool k, q.v] 101 :: own) V' w' ∧ v = .tuple #[c.v, .bool f, .bool g] ∧ (match o with
    | none => g = false
    | some x => g = true ∧ f = x.1.2 ∧ Byt V' c x.1.1 ∧ Byt V' q x.2)
theorem sl_cut {V : World} {s : Sl} {l : List UInt8} (h : Byt V s l) {i : Nat} (hi : i ≤ l.length) : Byt V ⟨subA s.a 0 s.cap 1, i - 0, s.cap - 0⟩ (l.take i) ∧ Byt V ⟨subA s.a i s.cap 1, s.len - i, s.cap - i⟩ (l.drop i) := by
  have h1 := h.sub (n := 1) (fun _ => rfl) (a := 0) (b := i) (Nat.zero_le _) hi
  have h2 := h.sub (n := 1) (fun _ => rfl) (a := i) (b := l.length) hi (Nat.le_refl _)
  rw [List.take_length, ← h.len] at h2
  rw [List.drop_zero] at h1
  exact ⟨h1, h2⟩
set_option maxRecDepth 100000 in
set_option maxHeartbeats 2000000 in
theorem cell_spec {w0 V0 : World} {own : List Res} {b n : Nat} {k : Bool} {q : Sl} {l : List UInt8} (H : Rel w0 V0 (.blk b [iv (n : Nat), .bool k, q.v] 101 :: own) V W) (hT : Tabs V) (hM : MaxB V) (hn : n < 3) (hq : Byt V q l) (hl : l.length ≤ 100000) :
    Ret Tryz.prog 60 [.pointer (some ⟨b, 0, none⟩)].toArray W (CellH w0 V0 own b n k V (cellP (sepB n) l)) := by
  generalize hw0 : W = wz at H
  subst hw0
  have hqn := hq.len
  have hqc := hq.cap
  obtain ⟨h1l, h3l, hcut, hstr⟩ := sep_str hn
  refine cal_of_vc tabOk Tryz.func60 rfl (by kernel_rfl) 102 rfl (by simp) [0, 2, 3, 4, 5, 6, 7, 22, 31, 49, 79] ?_
  by_cases hh : l.head? = some 34
  · obtain ⟨t, rfl⟩ : ∃ t, l = 34 :: t := by
      cases l with
      | nil => cases hh
      | cons c t => cases hh; exact ⟨t, rfl⟩
    obtain ⟨p0, c0⟩ := hq.at1 (g := bv) (i := 0) (fun _ => rfl) (by simp)
    change V.cell? _ = some (bv 34) at c0
    have e0 : cellP (sepB n) (34 :: t) = match rdQ t with
      | none => none
      | some p => some ((p.1, true), p.2) := by unfold cellP; rw [if_pos List.head?_cons]; rfl
    rw [e0]
    rw [List.length_cons] at hqn hl
    have ht1 := (sl_cut hq (i := 1) (by simp)).2
    rw [show List.drop 1 (34 :: t) = t from rfl] at ht1
    (first | (refine H.wg ?_; clear H; intros; rename_i w H; constructor) | refine wk ?_)
    replace H := H.rowNil 5 1
    refine loop_inv (S := Sl × List UInt8 × Sl × List UInt8) tabOk [0, 7, 22, 79] (fun z => [(2, z.1.v), (5, z.2.2.1.v)]) (fun z w' => rdQ t = preQ z.2.1 (rdQ z.2.2.2) ∧ Byt V z.2.2.1 z.2.2.2 ∧ z.2.1.length + z.2.2.2.length ≤ t.length ∧ Rel w0 V0 (.row z.1 5 1 (z.2.1.flatMap byC) :: .blk b [iv (n : Nat), .bool k, q.v] 101 :: own) V w') (fun z _ => z.2.2.2.length) (⟨none, 0, 0⟩, [], ⟨subA q.a 1 q.cap 1, q.len - 1, q.cap - 1⟩, t) ?_
    (conv => whnf)
    refine ⟨(by repeat (first | exact trivial | refine ⟨rfl, ?_⟩)), ⟨(preQ_nil _).symm, ht1, by simp, H⟩, ?_⟩
    clear H
    rintro ⟨cs, x, r, u⟩ w ⟨hrd, hr, hxl, H⟩
    dsimp only at hrd hr hxl H ⊢
    have hrn := hr.len
    have hrc := hr.cap
    (first | (refine H.wg ?_; clear H; intros; rename_i w H; constructor) | refine wk ?_)
    refine (indexByte_b H.data hr 34).use ?_
    rintro v w ⟨rfl, K⟩
    (have hKb := K.base; replace H := Rel.call H K)
    simp only [List.nil_append] at H
    by_cases h0 : u.count 34 = 0
    · have hno : ¬ 0 ≤ Lib.indexByte u 34 := fun h => by
        rw [idxB_in] at h
        have := List.count_pos_iff.2 h
        omega
      rw [hrd, rdQ_no h0]
      generalize Lib.indexByte u 34 = z at hno
      (first | (refine H.wg ?_; clear H; intros; rename_i w H; constructor) | refine wk ?_)
      exact ⟨V, ⟨none, 0, 0⟩, q, true, false, Sub.refl _, H.sx, rfl, rfl⟩
    obtain ⟨a, r2, hu, ha, hix⟩ := idx_split 34 (l := u) (by omega)
    rw [hix]
    have hul := congrArg List.length hu
    rw [List.length_append, List.length_cons] at hul
    have hca := (sl_cut hr (i := a.length) (by omega)).1
    have hcb := (sl_cut hr (i := a.length + 1) (by omega)).2
    rw [show u.take a.length = a by rw [hu]; simp] at hca
    rw [show u.drop (a.length + 1) = r2 by rw [hu]; simp] at hcb
    have hcbn := hcb.len
    have hcbc := hcb.cap
    dsimp only at hcbn hcbc
    (first | (refine H.wg ?_; clear H; intros; rename_i w H; constructor) | refine wk ?_)
    ((first | refine draw_vc (id := 6) tabOk mixed [] [0, 1, 2, 3, 5, 6, 7, 8, 4, 9, 10] (by kernel_rfl) ?_ | refine draw_vc (id := 10) tabOk mixed [] [0, 3, 4, 1, 2, 5, 6] (by kernel_rfl) ?_ | refine draw_vc (id := 11) tabOk mixed [] [0, 1, 2, 3, 4, 5, 6, 7, 8, 9, 10, 11, 12, 13, 14, 15, 16, 17, 18] (by kernel_rfl) ?_ | refine draw_vc (id := 14) tabOk mixed [] [0, 1, 2, 3, 4, 5, 6, 7, 8, 9, 10, 11, 12, 13, 14, 15, 16] (by kernel_rfl) ?_); intro w hdw; replace H := Rel.ext H hdw.ext)
    (first | (refine H.wg ?_; clear H; intros; rename_i w H; constructor) | refine wk ?_)
    refine Rel.appD H (i := 0) rfl hca (by omega) ?_
    clear H
    intro cs2 w H
    simp only [List.set_cons_zero] at H
    by_cases he : r2.head? = some 34
    · obtain ⟨r3, rfl⟩ : ∃ t, r2 = 34 :: t := by
        cases r2 with
        | nil => cases he
        | cons c t => cases he; exact ⟨t, rfl⟩
      rw [List.length_cons] at hul hcbn
      obtain ⟨p1, c1⟩ := hcb.at1 (g := bv) (i := 0) (fun _ => rfl) (by simp)
      change V.cell? _ = some (bv 34) at c1
      have hcd := (sl_cut hcb (i := 1) (by simp)).2
      rw [show List.drop 1 (34 :: r3) = r3 from rfl] at hcd
      (first | (refine H.wg ?_; clear H; intros; rename_i w H; constructor) | refine wk ?_)
      ((first | refine draw_vc (id := 6) tabOk mixed [] [0, 1, 2, 3, 5, 6, 7, 8, 4, 9, 10] (by kernel_rfl) ?_ | refine draw_vc (id := 10) tabOk mixed [] [0, 3, 4, 1, 2, 5, 6] (by kernel_rfl) ?_ | refine draw_vc (id := 11) tabOk mixed [] [0, 1, 2, 3, 4, 5, 6, 7, 8, 9, 10, 11, 12, 13, 14, 15, 16, 17, 18] (by kernel_rfl) ?_ | refine draw_vc (id := 14) tabOk mixed [] [0, 1, 2, 3, 4, 5, 6, 7, 8, 9, 10, 11, 12, 13, 14, 15, 16] (by kernel_rfl) ?_); intro w hdw; replace H := Rel.ext H hdw.ext)
      (first | (refine H.wg ?_; clear H; intros; rename_i w H; constructor) | refine wk ?_)
      refine Rel.app1_0 (f := byC) (s := cs2) (l := x ++ a) (x := 34) tabOk rfl rfl rfl rfl rfl (by decide) (fun _ => rfl) (by simp [Value.oneCell']) H (by show ((x ++ a).length + 1) * 1 ≤ _; rw [List.length_append]; omega) (by rw [List.length_append]; omega) ?_
      clear H
      intro cs3 w H
      (first | (refine H.wg ?_; clear H; intros; rename_i w H; constructor) | refine wk ?_)
      refine ⟨(by repeat (first | exact trivial | refine ⟨rfl, ?_⟩)), (cs3, x ++ a ++ [34], ⟨subA (subA r.a (a.length + 1) r.cap 1) 1 (r.cap - (a.length + 1)) 1, r.len - (a.length + 1) - 1, r.cap - (a.length + 1) - 1⟩, r3), (by repeat (first | exact trivial | refine ⟨rfl, ?_⟩)), ⟨?_, hcd, ?_, H.sx⟩, ?_⟩
      · rw [hrd, hu, rdQ_go ha, preQ_pre, ← List.append_assoc]
      · simp only [List.length_append, List.length_cons, List.length_nil]
        omega
      · dsimp only
        omega
    · have hfin : rdQ t = some (x ++ a, r2) := by rw [hrd, hu, rdQ_end ha he]; rfl
      rw [hfin]
      cases r2 with
      | nil =>
        rw [List.length_nil] at hul hcbn
        (first | (refine H.wg ?_; clear H; intros; rename_i w H; constructor) | refine wk ?_)
        obtain ⟨V2, hV2, H, hr1⟩ := Rel.freezeF H (fun _ => rfl) (by decide)
        (first | (refine H.wg ?_; clear H; intros; rename_i w H; constructor) | refine wk ?_)
        exact ⟨V2, cs2, _, true, true, hV2, H, rfl, rfl, rfl, hr1, hcb.up hV2⟩
      | cons d r3 =>
        rw [List.length_cons] at hul hcbn
        obtain ⟨p1, c1⟩ := hcb.at1 (g := bv) (i := 0) (fun _ => rfl) (by simp)
        change V.cell? _ = some (bv d) at c1
        have hd : d.toNat ≠ 34 := fun h => he (by rw [List.head?_cons]; congr 1; exact UInt8.toNat_inj.1 h)
        (first | (refine H.wg ?_; clear H; intros; rename_i w H; constructor) | refine wk ?_)
        obtain ⟨V2, hV2, H, hr1⟩ := Rel.freezeF H (fun _ => rfl) (by decide)
        (first | (refine H.wg ?_; clear H; intros; rename_i w H; constructor) | refine wk ?_)
        exact ⟨V2, cs2, _, true, true, hV2, H, rfl, rfl, rfl, hr1, hcb.up hV2⟩
  · have e0 : cellP (sepB n) l = some (((tkU (sepB n) l).1, false), (tkU (sepB n) l).2) := by unfold cellP; rw [if_neg hh]
    rw [e0]
    obtain ⟨i, hi, hixA, htk⟩ : ∃ i : Nat, i ≤ l.length ∧ (ixA (sepB n) l = i ∧ i < l.length ∨ ixA (sepB n) l = -1 ∧ i = l.length) ∧ tkU (sepB n) l = (l.take i, l.drop i) := by
      rcases tkU_ix (sepB n) l with ⟨h1, h2⟩ | ⟨i, h1, h2, h3⟩
      · exact ⟨l.length, Nat.le_refl _, .inr ⟨h1, rfl⟩, by rw [h2, List.take_length, List.drop_length]⟩
      · exact ⟨i, by omega, .inl ⟨h2, h1⟩, h3⟩
    rw [htk]
    obtain ⟨hca, hcb⟩ := sl_cut hq hi
    have hiq : i ≤ q.len := by rw [hqn]; exact hi
    generalize hza : ixA (sepB n) l = za at hixA
    cases l with
    | nil =>
      have hq0 : q.len = 0 := hqn
      (first | (refine H.wg ?_; clear H; intros; rename_i w H; constructor) | refine wk ?_)
      ((first | refine draw_vc (id := 6) tabOk mixed [] [0, 1, 2, 3, 5, 6, 7, 8, 4, 9, 10] (by kernel_rfl) ?_ | refine draw_vc (id := 10) tabOk mixed [] [0, 3, 4, 1, 2, 5, 6] (by kernel_rfl) ?_ | refine draw_vc (id := 11) tabOk mixed [] [0, 1, 2, 3, 4, 5, 6, 7, 8, 9, 10, 11, 12, 13, 14, 15, 16, 17, 18] (by kernel_rfl) ?_ | refine draw_vc (id := 14) tabOk mixed [] [0, 1, 2, 3, 4, 5, 6, 7, 8, 9, 10, 11, 12, 13, 14, 15, 16] (by kernel_rfl) ?_); intro w hdw; replace H := Rel.ext H hdw.ext)
      (first | (refine H.wg ?_; clear H; intros; rename_i w H; constructor) | refine wk ?_)
      rw [hstr]
      refine (indexAny_spec H.data hT hM hq (by omega) (sepB_lt n).1).use ?_
      rintro v w ⟨rfl, K⟩
      (have hKb := K.base; replace H := Rel.call H K)
      simp only [List.nil_append] at H
      rw [hza]
      rcases hixA with ⟨rfl, hil⟩ | ⟨rfl, hil⟩
      · (first | (refine H.wg ?_; clear H; intros; rename_i w H; constructor) | refine wk ?_)
        (first | (refine H.wg ?_; clear H; intros; rename_i w H; constructor) | refine wk ?_)
        ((first | refine draw_vc (id := 6) tabOk mixed [] [0, 1, 2, 3, 5, 6, 7, 8, 4, 9, 10] (by kernel_rfl) ?_ | refine draw_vc (id := 10) tabOk mixed [] [0, 3, 4, 1, 2, 5, 6] (by kernel_rfl) ?_ | refine draw_vc (id := 11) tabOk mixed [] [0, 1, 2, 3, 4, 5, 6, 7, 8, 9, 10, 11, 12, 13, 14, 15, 16, 17, 18] (by kernel_rfl) ?_ | refine draw_vc (id := 14) tabOk mixed [] [0, 1, 2, 3, 4, 5, 6, 7, 8, 9, 10, 11, 12, 13, 14, 15, 16] (by kernel_rfl) ?_); intro w hdw; replace H := Rel.ext H hdw.ext)
        (first | (refine H.wg ?_; clear H; intros; rename_i w H; constructor) | refine wk ?_)
        refine (clone_b H.data hca (by rw [List.length_take]; omega)).use ?_
        rintro v w ⟨r, rfl, K⟩
        (have hKb := K.base; replace H := Rel.call H K)
        simp only [List.cons_append, List.nil_append] at H
        obtain ⟨V2, hV2, H, hr1⟩ := Rel.freezeF H (fun _ => rfl) (by decide)
        (first | (refine H.wg ?_; clear H; intros; rename_i w H; constructor) | refine wk ?_)
        exact ⟨V2, r, _, false, true, hV2, H, rfl, rfl, rfl, hr1, hcb.up hV2⟩
      · obtain rfl : i = q.len := by first | omega | (rw [hil, hqn]; rfl)
        (first | (refine H.wg ?_; clear H; intros; rename_i w H; constructor) | refine wk ?_)
        (first | (refine H.wg ?_; clear H; intros; rename_i w H; constructor) | refine wk ?_)
        ((first | refine draw_vc (id := 6) tabOk mixed [] [0, 1, 2, 3, 5, 6, 7, 8, 4, 9, 10] (by kernel_rfl) ?_ | refine draw_vc (id := 10) tabOk mixed [] [0, 3, 4, 1, 2, 5, 6] (by kernel_rfl) ?_ | refine draw_vc (id := 11) tabOk mixed [] [0, 1, 2, 3, 4, 5, 6, 7, 8, 9, 10, 11, 12, 13, 14, 15, 16, 17, 18] (by kernel_rfl) ?_ | refine draw_vc (id := 14) tabOk mixed [] [0, 1, 2, 3, 4, 5, 6, 7, 8, 9, 10, 11, 12, 13, 14, 15, 16] (by kernel_rfl) ?_); intro w hdw; replace H := Rel.ext H hdw.ext)
        (first | (refine H.wg ?_; clear H; intros; rename_i w H; constructor) | refine wk ?_)
        refine (clone_b H.data hca (by rw [List.length_take]; omega)).use ?_
        rintro v w ⟨r, rfl, K⟩
        (have hKb := K.base; replace H := Rel.call H K)
        simp only [List.cons_append, List.nil_append] at H
        obtain ⟨V2, hV2, H, hr1⟩ := Rel.freezeF H (fun _ => rfl) (by decide)
        (first | (refine H.wg ?_; clear H; intros; rename_i w H; constructor) | refine wk ?_)
        exact ⟨V2, r, _, false, true, hV2, H, rfl, rfl, rfl, hr1, hcb.up hV2⟩
    | cons d t =>
      obtain ⟨p0, c0⟩ := hq.at1 (g := bv) (i := 0) (fun _ => rfl) (by simp)
      change V.cell? _ = some (bv d) at c0
      have hd : d.toNat ≠ 34 := fun h => hh (by rw [List.head?_cons]; congr 1; exact UInt8.toNat_inj.1 h)
      rw [List.length_cons] at hqn
      (first | (refine H.wg ?_; clear H; intros; rename_i w H; constructor) | refine wk ?_)
      ((first | refine draw_vc (id := 6) tabOk mixed [] [0, 1, 2, 3, 5, 6, 7, 8, 4, 9, 10] (by kernel_rfl) ?_ | refine draw_vc (id := 10) tabOk mixed [] [0, 3, 4, 1, 2, 5, 6] (by kernel_rfl) ?_ | refine draw_vc (id := 11) tabOk mixed [] [0, 1, 2, 3, 4, 5, 6, 7, 8, 9, 10, 11, 12, 13, 14, 15, 16, 17, 18] (by kernel_rfl) ?_ | refine draw_vc (id := 14) tabOk mixed [] [0, 1, 2, 3, 4, 5, 6, 7, 8, 9, 10, 11, 12, 13, 14, 15, 16] (by kernel_rfl) ?_); intro w hdw; replace H := Rel.ext H hdw.ext)
      (first | (refine H.wg ?_; clear H; intros; rename_i w H; constructor) | refine wk ?_)
      rw [hstr]
      refine (indexAny_spec H.data hT hM hq (by omega) (sepB_lt n).1).use ?_
      rintro v w ⟨rfl, K⟩
      (have hKb := K.base; replace H := Rel.call H K)
      simp only [List.nil_append] at H
      rw [hza]
      rcases hixA with ⟨rfl, hil⟩ | ⟨rfl, hil⟩
      · (first | (refine H.wg ?_; clear H; intros; rename_i w H; constructor) | refine wk ?_)
        (first | (refine H.wg ?_; clear H; intros; rename_i w H; constructor) | refine wk ?_)
        ((first | refine draw_vc (id := 6) tabOk mixed [] [0, 1, 2, 3, 5, 6, 7, 8, 4, 9, 10] (by kernel_rfl) ?_ | refine draw_vc (id := 10) tabOk mixed [] [0, 3, 4, 1, 2, 5, 6] (by kernel_rfl) ?_ | refine draw_vc (id := 11) tabOk mixed [] [0, 1, 2, 3, 4, 5, 6, 7, 8, 9, 10, 11, 12, 13, 14, 15, 16, 17, 18] (by kernel_rfl) ?_ | refine draw_vc (id := 14) tabOk mixed [] [0, 1, 2, 3, 4, 5, 6, 7, 8, 9, 10, 11, 12, 13, 14, 15, 16] (by kernel_rfl) ?_); intro w hdw; replace H := Rel.ext H hdw.ext)
        (first | (refine H.wg ?_; clear H; intros; rename_i w H; constructor) | refine wk ?_)
        refine (clone_b H.data hca (by rw [List.length_take]; omega)).use ?_
        rintro v w ⟨r, rfl, K⟩
        (have hKb := K.base; replace H := Rel.call H K)
        simp only [List.cons_append, List.nil_append] at H
        obtain ⟨V2, hV2, H, hr1⟩ := Rel.freezeF H (fun _ => rfl) (by decide)
        (first | (refine H.wg ?_; clear H; intros; rename_i w H; constructor) | refine wk ?_)
        exact ⟨V2, r, _, false, true, hV2, H, rfl, rfl, rfl, hr1, hcb.up hV2⟩
      · obtain rfl : i = q.len := by first | omega | (rw [hil, hqn]; rfl)
        (first | (refine H.wg ?_; clear H; intros; rename_i w H; constructor) | refine wk ?_)
        (first | (refine H.wg ?_; clear H; intros; rename_i w H; constructor) | refine wk ?_)
        ((first | refine draw_vc (id := 6) tabOk mixed [] [0, 1, 2, 3, 5, 6, 7, 8, 4, 9, 10] (by kernel_rfl) ?_ | refine draw_vc (id := 10) tabOk mixed [] [0, 3, 4, 1, 2, 5, 6] (by kernel_rfl) ?_ | refine draw_vc (id := 11) tabOk mixed [] [0, 1, 2, 3, 4, 5, 6, 7, 8, 9, 10, 11, 12, 13, 14, 15, 16, 17, 18] (by kernel_rfl) ?_ | refine draw_vc (id := 14) tabOk mixed [] [0, 1, 2, 3, 4, 5, 6, 7, 8, 9, 10, 11, 12, 13, 14, 15, 16] (by kernel_rfl) ?_); intro w hdw; replace H := Rel.ext H hdw.ext)
        (first | (refine H.wg ?_; clear H; intros; rename_i w H; constructor) | refine wk ?_)
        refine (clone_b H.data hca (by rw [List.length_take]; omega)).use ?_
        rintro v w ⟨r, rfl, K⟩
        (have hKb := K.base; replace H := Rel.call H K)
        simp only [List.cons_append, List.nil_append] at H
        obtain ⟨V2, hV2, H, hr1⟩ := Rel.freezeF H (fun _ => rfl) (by decide)
        (first | (refine H.wg ?_; clear H; intros; rename_i w H; constructor) | refine wk ?_)
        exact ⟨V2, r, _, false, true, hV2, H, rfl, rfl, rfl, hr1, hcb.up hV2⟩
end
end Go.Proofs.YtkfcdjomkcmkeaaGreatDoor
