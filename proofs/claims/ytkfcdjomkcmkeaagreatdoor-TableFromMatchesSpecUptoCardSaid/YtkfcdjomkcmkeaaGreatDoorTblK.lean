/-
  Files of tables, the reference: TableTo (as in TblJ), TableShape, TableFile.
-/
import Derived.Test.YtkfcdjomkcmkeaaGreatDoorTblI
import Derived.Test.YtkfcdjomkcmkeaaGreatDoorTblE
import Derived.Test.YtkfcdjomkcmkeaaGreatDoorTblF
import Derived.Deep.AppendSrc
namespace Go.Proofs.YtkfcdjomkcmkeaaGreatDoor
open Go Go.RowKit

section
variable {V W : World}
theorem suitT_cons {k : Bool} {r : List Cel} {R : List (List Cel)} {o : Bool} : suitT k (r :: R) o = (decide (2 ≤ r.length) && (!k || decide (1 < R.length + 1) || !o)) := by
  unfold suitT
  rw [List.length_cons, decide_eq_true (Nat.succ_pos _), Bool.true_and]
  rfl
theorem tblTo_no {l : List UInt8} (h : ∀ j, j < 6 → tblOne j l = none) : tblTo l = none := by
  have e : tblFind l = none := tblFrom_no (Nat.le_refl _) fun j _ h2 => h j h2
  unfold tblTo
  rw [e]
theorem tblTo_hit {l : List UInt8} {i : Nat} {R : List (List Cel)} {o : Bool} (hi : i < 6) (h : ∀ j, j < i → tblOne j l = none) (h2 : tblOne i l = some (R, o)) : tblTo l = tblAns i R o := by
  have e : tblFind l = some (i, R, o) := tblFrom_hit (Nat.le_refl _) (by omega) hi (fun j _ h3 => h j h3) h2
  unfold tblTo
  rw [e]
set_option maxRecDepth 100000 in
set_option maxHeartbeats 4000000 in
theorem tblTo_ref (hV : Sub V W) {s : Sl} {l : List UInt8} (hs : Byt V s l) (hl : l.length ≤ 1000) : Ret Tryz.prog 9 [s.v].toArray W (ToG W V (tblTo l)) := by
  have H := Rel.start hV
  have hlen := hs.len
  refine cal_of_vc tabOk Tryz.func9 rfl (by kernel_rfl) 80 rfl (by simp) [0, 2, 3, 4, 5, 6, 7, 8, 9, 11, 55, 62, 71] ?_
  (first | (refine H.wh ?_; clear H; intros; rename_i w H; constructor) | refine wk ?_)
  ((first | refine Rel.nwD H ?_ | refine Rel.nw H ?_); clear H; intro w b2 H)
  (first | (refine H.wg ?_; clear H; intros; rename_i w H; constructor) | refine wk ?_)
  refine loop_inv (S := Nat) tabOk [0, 2] (fun n => [(5, iv n)]) (fun n w' => n ≤ 6 ∧ (∀ g, g < n → tblOne g l = none) ∧ ∃ V2, Sub V V2 ∧ Rel W V [.blk b2 (valC zeroH) 27] V2 w') (fun n _ => 6 - n) 0 ?_
  (conv => whnf)
  refine ⟨(by repeat (first | exact trivial | refine ⟨rfl, ?_⟩)), ⟨by omega, fun g hg => by omega, V, Sub.refl _, H⟩, ?_⟩
  clear H
  rintro n w ⟨hn6, hno, V2, hV2, H⟩
  by_cases hn : n < 6
  rotate_left
  · obtain rfl : n = 6 := by omega
    rw [tblTo_no hno]
    (first | (refine H.wg ?_; clear H; intros; rename_i w H; constructor) | refine wk ?_)
    exact ⟨V2, zeroH, ⟨none, 0, 0⟩, zeroV, [], hV2, H.sx, valAt_zero _, SlF.nil _ _, rfl⟩
  (first | (refine H.wg ?_; clear H; intros; rename_i w H; constructor) | refine wk ?_)
  rw [show ((n : Nat) : Int) / 2 = ((n / 2 : Nat) : Int) by omega]
  refine (separatorAt_ref H.data (n := n / 2) (by omega)).use ?_
  rintro v w ⟨rfl, K⟩
  (have hKb := K.base; replace H := H.call0 K)
  (first | (refine H.wg ?_; clear H; intros; rename_i w H; constructor) | refine wk ?_)
  rw [show decide (((n : Nat) : Int) % 2 = 1) = crT n from decide_eq_decide.2 (by omega)]
  refine (sheet_ref H.data (n := n / 2) (crT n) (hs.up hV2) hl).use ?_
  rintro v w ⟨V3, rs, qs, o, g, hV3, K, rfl, hres⟩
  (have hKb := K.base; replace H := Rel.call H K)
  simp only [List.cons_append, List.nil_append] at H
  have hV23 := hV2.trans hV3
  (first | (refine H.wh ?_; clear H; intros; rename_i w H; constructor) | refine wk ?_)
  ((first | refine Rel.nwD H ?_ | refine Rel.nw H ?_); clear H; intro w b6 H)
  cases hr : rdFile (sepB (n / 2)) (tEnd (crT n)) l with
  | none =>
    rw [hr] at hres
    dsimp only at hres
    subst hres
    have hone : tblOne n l = none := by unfold tblOne; rw [hr]
    (first | (refine H.wg ?_; clear H; intros; rename_i w H; constructor) | refine wk ?_)
    exact ⟨(by repeat (first | exact trivial | refine ⟨rfl, ?_⟩)), n + 1, (by repeat (first | exact trivial | refine ⟨rfl, ?_⟩)), ⟨by omega, fun g hg => by
      by_cases e : g = n
      · rw [e]; exact hone
      · exact hno g (by omega), V3, hV23, H.sx⟩, by omega⟩
  | some y =>
    obtain ⟨R, op⟩ := y
    rw [hr] at hres
    obtain ⟨rfl, hop, hrs, hqs⟩ := hres
    dsimp only at hop hrs hqs
    have hbad : suitT (crT n) R op = false → tblOne n l = none := fun h => by unfold tblOne; rw [hr]; simp only; rw [if_neg (by rw [h]; decide)]
    have hrl := hrs.len
    rw [List.length_map] at hrl
    obtain ⟨q1, q2, q3⟩ := fileB_len (s := sepB (n / 2)) (tEnd_ne (crT n)) op R
    rw [← (rdFile_some hr).1] at q1 q3
    cases R with
    | nil =>
      have hone := hbad (by unfold suitT; simp)
      rw [List.length_nil] at hrl
      (first | (refine H.wg ?_; clear H; intros; rename_i w H; constructor) | refine wk ?_)
      exact ⟨(by repeat (first | exact trivial | refine ⟨rfl, ?_⟩)), n + 1, (by repeat (first | exact trivial | refine ⟨rfl, ?_⟩)), ⟨by omega, fun g hg => by
        by_cases e : g = n
        · rw [e]; exact hone
        · exact hno g (by omega), V3, hV23, H.sx⟩, by omega⟩
    | cons r0 R =>
      obtain rfl : o = op := hop (by simp)
      rw [List.length_cons] at hrl
      obtain ⟨xs, h1, h2⟩ := id hrs
      have hxl := h1.len
      obtain ⟨p0, c0⟩ := h1.at1 (g := fun x : Sl => x.v) (fun _ => rfl) (i := 0) (by omega)
      obtain ⟨x, hx⟩ : ∃ x, x = xs[0]'(by omega) := ⟨_, rfl⟩
      have hx0 := h2.all 0 (xs[0]'(by omega)) (r0.map Prod.fst) (List.getElem?_eq_getElem _) rfl
      rw [← hx] at c0 hx0
      obtain ⟨gs, g1, g2⟩ := hx0
      have hx0l := g1.len
      rw [g2.len, List.length_map] at hx0l
      have hrl2 : rs.len = R.length + 1 := hrl
      by_cases hr2 : 2 ≤ r0.length
      rotate_left
      · have hone := hbad (by rw [suitT_cons, decide_eq_false hr2, Bool.false_and])
        (first | (refine H.wg ?_; clear H; intros; rename_i w H; constructor) | refine wk ?_)
        exact ⟨(by repeat (first | exact trivial | refine ⟨rfl, ?_⟩)), n + 1, (by repeat (first | exact trivial | refine ⟨rfl, ?_⟩)), ⟨by omega, fun g hg => by
          by_cases e : g = n
          · rw [e]; exact hone
          · exact hno g (by omega), V3, hV23, H.sx⟩, by omega⟩
      rw [List.length_cons] at q3
      have hrows : ∀ r ∈ tblOf (r0 :: R), r.length ≤ 100000 := fun r hr => by
        obtain ⟨x, hx, rfl⟩ := List.mem_map.1 hr
        have := mem_flat_len hx
        rw [List.length_map]
        omega
      have hVB : VB 1048576 (tblVal (tblOf (r0 :: R))) := vb_tbl (by rw [List.length_map, List.length_cons]; omega) fun a ha => ⟨Nat.le_trans (hrows a ha) (by decide), fun y hy => by
        obtain ⟨x, hx, rfl⟩ := List.mem_map.1 ha
        obtain ⟨c, hc, rfl⟩ := List.mem_map.1 hy
        have := q2 x hx c hc
        rw [← (rdFile_some hr).1] at this
        omega⟩
      have hqf := qn_file (s := sepB (n / 2)) (e := tEnd (crT n)) o (r0 :: R) 0
      rw [← (rdFile_some hr).1] at hqf
      have hok := okT_qn (s := sepB (n / 2)) (cs := (r0 :: R).flatten) (by omega)
      have hqn : ∀ m ∈ qn (sepB (n / 2)) 0 (r0 :: R).flatten, m ≤ 1000 := fun m hm => by
        have := hok.1 (m : Int) (List.mem_map.2 ⟨m, hm, rfl⟩)
        omega
      have hql : (qn (sepB (n / 2)) 0 (r0 :: R).flatten).length ≤ 1000 := by omega
      clear q1 q2 hqf hok
      by_cases hk : n % 2 = 1
      · have hcr : crT n = true := decide_eq_true hk
        cases o with
        | true =>
          by_cases hR1 : R.length = 0
          · have hone := hbad (by rw [suitT_cons, decide_eq_false (show ¬ 1 < R.length + 1 by omega), hcr]; simp)
            (first | (refine H.wg ?_; clear H; intros; rename_i w H; constructor) | refine wk ?_)
            exact ⟨(by repeat (first | exact trivial | refine ⟨rfl, ?_⟩)), n + 1, (by repeat (first | exact trivial | refine ⟨rfl, ?_⟩)), ⟨by omega, fun g hg => by
              by_cases e : g = n
              · rw [e]; exact hone
              · exact hno g (by omega), V3, hV23, H.sx⟩, by omega⟩
          · have hsu : suitT (crT n) (r0 :: R) true = true := by rw [suitT_cons, decide_eq_true hr2, decide_eq_true (show 1 < R.length + 1 by omega)]; simp
            have hone : tblOne n l = some (r0 :: R, true) := by unfold tblOne; rw [hr]; simp only; rw [if_pos hsu]
            rw [tblTo_hit hn hno hone]
            clear hone hsu
            unfold tblAns
            (first | (refine H.wg ?_; clear H; intros; rename_i w H; constructor) | refine wk ?_)
            refine (plainTable_ref H.data hrs (by rw [List.length_map, List.length_cons]; omega) hrows).use ?_
            rintro v w ⟨V4, h, hV4, K, rfl, hv⟩
            (have hKb := K.base; replace H := Rel.call H K)
            simp only [List.cons_append, List.nil_append] at H
            (first | (refine H.wh ?_; clear H; intros; rename_i w H; constructor) | refine wk ?_)
            ((first | refine Rel.nwD H ?_ | refine Rel.nw H ?_); clear H; intro w b8 H)
            (first | (refine H.wg ?_; clear H; intros; rename_i w H; constructor) | refine wk ?_)
            refine (valueFault_ref H.data hv hVB).use ?_
            rintro v w ⟨rfl, K⟩
            (have hKb := K.base; replace H := Rel.call H K)
            simp only [List.cons_append, List.nil_append] at H
            have hV24 := hV23.trans hV4
            by_cases hvf : (vfault (tblVal (tblOf (r0 :: R)))).1 = 0
            rotate_left
            · rw [if_neg hvf]
              (first | (refine H.wg ?_; clear H; intros; rename_i w H; constructor) | refine wk ?_)
              exact ⟨V4, zeroH, ⟨none, 0, 0⟩, zeroV, [], hV24, H.sx, valAt_zero _, SlF.nil _ _, rfl⟩
            rw [if_pos hvf]
            (first | (refine H.wg ?_; clear H; intros; rename_i w H; constructor) | refine wk ?_)
            ((first | refine draw_vc (id := 12) tabOk mixed [4] [0, 1, 2, 3, 4, 5, 6, 7] (by kernel_rfl) ?_); intro w hdw; replace H := Rel.ext H hdw.ext)
            (first | (refine H.wg ?_; clear H; intros; rename_i w H; constructor) | refine wk ?_)
            rw [show ((n : Int) / 2 + 3 * ((n : Int) % 2) + 6) = ((tFlags (n / 2) (crT n) true : Nat) : Int) by unfold tFlags; rw [hcr]; simp only [Bool.false_eq_true, if_true, if_false]; omega]
            have hfl := (tFlags_lt (show n / 2 < 3 by omega) (crT n) true).1
            refine (tableResidue_ref (fl := tFlags (n / 2) (crT n) true) H.data (by omega) (hqs.up hV4) hql hqn).use ?_
            rintro v w ⟨V9, r9, hV9, K, rfl, hr9⟩
            (have hKb := K.base; replace H := H.call0 K)
            (first | (refine H.wg ?_; clear H; intros; rename_i w H; constructor) | refine wk ?_)
            exact ⟨V9, h, r9, _, _, hV24.trans hV9, H.sx, hv.up hV9, hr9, rfl, rfl⟩
        | false =>
          have hsu : suitT (crT n) (r0 :: R) false = true := by rw [suitT_cons, decide_eq_true hr2]; simp
          have hone : tblOne n l = some (r0 :: R, false) := by unfold tblOne; rw [hr]; simp only; rw [if_pos hsu]
          rw [tblTo_hit hn hno hone]
          clear hone hsu
          unfold tblAns
          (first | (refine H.wg ?_; clear H; intros; rename_i w H; constructor) | refine wk ?_)
          refine (plainTable_ref H.data hrs (by rw [List.length_map, List.length_cons]; omega) hrows).use ?_
          rintro v w ⟨V4, h, hV4, K, rfl, hv⟩
          (have hKb := K.base; replace H := Rel.call H K)
          simp only [List.cons_append, List.nil_append] at H
          (first | (refine H.wh ?_; clear H; intros; rename_i w H; constructor) | refine wk ?_)
          ((first | refine Rel.nwD H ?_ | refine Rel.nw H ?_); clear H; intro w b8 H)
          (first | (refine H.wg ?_; clear H; intros; rename_i w H; constructor) | refine wk ?_)
          refine (valueFault_ref H.data hv hVB).use ?_
          rintro v w ⟨rfl, K⟩
          (have hKb := K.base; replace H := Rel.call H K)
          simp only [List.cons_append, List.nil_append] at H
          have hV24 := hV23.trans hV4
          by_cases hvf : (vfault (tblVal (tblOf (r0 :: R)))).1 = 0
          rotate_left
          · rw [if_neg hvf]
            (first | (refine H.wg ?_; clear H; intros; rename_i w H; constructor) | refine wk ?_)
            exact ⟨V4, zeroH, ⟨none, 0, 0⟩, zeroV, [], hV24, H.sx, valAt_zero _, SlF.nil _ _, rfl⟩
          rw [if_pos hvf]
          (first | (refine H.wg ?_; clear H; intros; rename_i w H; constructor) | refine wk ?_)
          ((first | refine draw_vc (id := 12) tabOk mixed [4] [0, 1, 2, 3, 4, 5, 6, 7] (by kernel_rfl) ?_); intro w hdw; replace H := Rel.ext H hdw.ext)
          (first | (refine H.wg ?_; clear H; intros; rename_i w H; constructor) | refine wk ?_)
          rw [show ((n : Int) / 2 + 3 * ((n : Int) % 2)) = ((tFlags (n / 2) (crT n) false : Nat) : Int) by unfold tFlags; rw [hcr]; simp only [Bool.false_eq_true, if_true, if_false]; omega]
          have hfl := (tFlags_lt (show n / 2 < 3 by omega) (crT n) false).1
          refine (tableResidue_ref (fl := tFlags (n / 2) (crT n) false) H.data (by omega) (hqs.up hV4) hql hqn).use ?_
          rintro v w ⟨V9, r9, hV9, K, rfl, hr9⟩
          (have hKb := K.base; replace H := H.call0 K)
          (first | (refine H.wg ?_; clear H; intros; rename_i w H; constructor) | refine wk ?_)
          exact ⟨V9, h, r9, _, _, hV24.trans hV9, H.sx, hv.up hV9, hr9, rfl, rfl⟩
      · have hcr : crT n = false := decide_eq_false hk
        cases o with
        | true =>
          have hsu : suitT (crT n) (r0 :: R) true = true := by rw [suitT_cons, decide_eq_true hr2, hcr]; simp
          have hone : tblOne n l = some (r0 :: R, true) := by unfold tblOne; rw [hr]; simp only; rw [if_pos hsu]
          rw [tblTo_hit hn hno hone]
          clear hone hsu
          unfold tblAns
          (first | (refine H.wg ?_; clear H; intros; rename_i w H; constructor) | refine wk ?_)
          refine (plainTable_ref H.data hrs (by rw [List.length_map, List.length_cons]; omega) hrows).use ?_
          rintro v w ⟨V4, h, hV4, K, rfl, hv⟩
          (have hKb := K.base; replace H := Rel.call H K)
          simp only [List.cons_append, List.nil_append] at H
          (first | (refine H.wh ?_; clear H; intros; rename_i w H; constructor) | refine wk ?_)
          ((first | refine Rel.nwD H ?_ | refine Rel.nw H ?_); clear H; intro w b8 H)
          (first | (refine H.wg ?_; clear H; intros; rename_i w H; constructor) | refine wk ?_)
          refine (valueFault_ref H.data hv hVB).use ?_
          rintro v w ⟨rfl, K⟩
          (have hKb := K.base; replace H := Rel.call H K)
          simp only [List.cons_append, List.nil_append] at H
          have hV24 := hV23.trans hV4
          by_cases hvf : (vfault (tblVal (tblOf (r0 :: R)))).1 = 0
          rotate_left
          · rw [if_neg hvf]
            (first | (refine H.wg ?_; clear H; intros; rename_i w H; constructor) | refine wk ?_)
            exact ⟨V4, zeroH, ⟨none, 0, 0⟩, zeroV, [], hV24, H.sx, valAt_zero _, SlF.nil _ _, rfl⟩
          rw [if_pos hvf]
          (first | (refine H.wg ?_; clear H; intros; rename_i w H; constructor) | refine wk ?_)
          ((first | refine draw_vc (id := 12) tabOk mixed [4] [0, 1, 2, 3, 4, 5, 6, 7] (by kernel_rfl) ?_); intro w hdw; replace H := Rel.ext H hdw.ext)
          (first | (refine H.wg ?_; clear H; intros; rename_i w H; constructor) | refine wk ?_)
          rw [show ((n : Int) / 2 + 3 * ((n : Int) % 2) + 6) = ((tFlags (n / 2) (crT n) true : Nat) : Int) by unfold tFlags; rw [hcr]; simp only [Bool.false_eq_true, if_true, if_false]; omega]
          have hfl := (tFlags_lt (show n / 2 < 3 by omega) (crT n) true).1
          refine (tableResidue_ref (fl := tFlags (n / 2) (crT n) true) H.data (by omega) (hqs.up hV4) hql hqn).use ?_
          rintro v w ⟨V9, r9, hV9, K, rfl, hr9⟩
          (have hKb := K.base; replace H := H.call0 K)
          (first | (refine H.wg ?_; clear H; intros; rename_i w H; constructor) | refine wk ?_)
          exact ⟨V9, h, r9, _, _, hV24.trans hV9, H.sx, hv.up hV9, hr9, rfl, rfl⟩
        | false =>
          have hsu : suitT (crT n) (r0 :: R) false = true := by rw [suitT_cons, decide_eq_true hr2, hcr]; simp
          have hone : tblOne n l = some (r0 :: R, false) := by unfold tblOne; rw [hr]; simp only; rw [if_pos hsu]
          rw [tblTo_hit hn hno hone]
          clear hone hsu
          unfold tblAns
          (first | (refine H.wg ?_; clear H; intros; rename_i w H; constructor) | refine wk ?_)
          refine (plainTable_ref H.data hrs (by rw [List.length_map, List.length_cons]; omega) hrows).use ?_
          rintro v w ⟨V4, h, hV4, K, rfl, hv⟩
          (have hKb := K.base; replace H := Rel.call H K)
          simp only [List.cons_append, List.nil_append] at H
          (first | (refine H.wh ?_; clear H; intros; rename_i w H; constructor) | refine wk ?_)
          ((first | refine Rel.nwD H ?_ | refine Rel.nw H ?_); clear H; intro w b8 H)
          (first | (refine H.wg ?_; clear H; intros; rename_i w H; constructor) | refine wk ?_)
          refine (valueFault_ref H.data hv hVB).use ?_
          rintro v w ⟨rfl, K⟩
          (have hKb := K.base; replace H := Rel.call H K)
          simp only [List.cons_append, List.nil_append] at H
          have hV24 := hV23.trans hV4
          by_cases hvf : (vfault (tblVal (tblOf (r0 :: R)))).1 = 0
          rotate_left
          · rw [if_neg hvf]
            (first | (refine H.wg ?_; clear H; intros; rename_i w H; constructor) | refine wk ?_)
            exact ⟨V4, zeroH, ⟨none, 0, 0⟩, zeroV, [], hV24, H.sx, valAt_zero _, SlF.nil _ _, rfl⟩
          rw [if_pos hvf]
          (first | (refine H.wg ?_; clear H; intros; rename_i w H; constructor) | refine wk ?_)
          ((first | refine draw_vc (id := 12) tabOk mixed [4] [0, 1, 2, 3, 4, 5, 6, 7] (by kernel_rfl) ?_); intro w hdw; replace H := Rel.ext H hdw.ext)
          (first | (refine H.wg ?_; clear H; intros; rename_i w H; constructor) | refine wk ?_)
          rw [show ((n : Int) / 2 + 3 * ((n : Int) % 2)) = ((tFlags (n / 2) (crT n) false : Nat) : Int) by unfold tFlags; rw [hcr]; simp only [Bool.false_eq_true, if_true, if_false]; omega]
          have hfl := (tFlags_lt (show n / 2 < 3 by omega) (crT n) false).1
          refine (tableResidue_ref (fl := tFlags (n / 2) (crT n) false) H.data (by omega) (hqs.up hV4) hql hqn).use ?_
          rintro v w ⟨V9, r9, hV9, K, rfl, hr9⟩
          (have hKb := K.base; replace H := H.call0 K)
          (first | (refine H.wg ?_; clear H; intros; rename_i w H; constructor) | refine wk ?_)
          exact ⟨V9, h, r9, _, _, hV24.trans hV9, H.sx, hv.up hV9, hr9, rfl, rfl⟩
end
theorem strCells_flat (l : List UInt8) : byteCells ⟨l.toArray⟩ = l.flatMap byC := by
  rw [byC_map]
  rfl
theorem app_rowS {P : Program} {T : List TD} (hT : TabOk P T) {t tx ty e : TypeId} {d de : TD} (hd : T[t]? = some d) (hu : d.under = .slice e) (hde : T[e]? = some de) {z : Value} (hz : de.zero = some z) (hzs : z.cells.size = 1) (hsz : de.size = 1) (hby : de.bytes = 1) (hs : P.underlying tx = some .string)
    {w : World} {s : Sl} {xs : List Value} {l : List UInt8} (hr : Row w s e 1 xs) (hb : s.len + l.length ≤ 1099511627776) (hl : 0 < l.length)
    {k : Value → World → Prop} (hk : ∀ s' w', Row w' s' e 1 (xs ++ l.flatMap byC) → s'.len = s.len + l.length → Grew w s w' s' → k s'.v w') : SemOk P (Builtin.append_ #[t, tx] ty #[s.v, str l]) w k := by
  have hd' := hT t d hd
  have hde' := hT e de hde
  obtain ⟨i, hi, hi1, hi2, hi3⟩ := hde'.info
  have ht : P.underlying t = some (.slice e) := by
    obtain ⟨d0, q1, q2⟩ := hd'.under
    rw [hu] at q2
    cases d0 <;> first | (simp_all [undOf]; done) | (simp only [undOf] at q2; split at q2 <;> cases q2)
  have hsize : i.size = 1 := hi1.trans hsz
  have hbytes : i.bytes = 1 := hi2.trans hby
  have hyl : (l.flatMap byC).length = l.length := by rw [byC_map, List.length_map]
  have hsrc : Src P i.size tx (str l) l.length (l.flatMap byC) w := by
    rw [hsize, ← strCells_flat]
    exact Src.ofString w hs ⟨l.toArray⟩
  have hcap : ∀ old, grownCap w (s.len + l.length) old e ≤ maxLen := fun old => grownCap_le_maxLen w _ old e (by simp only [maxLen]; omega)
  have hge : ∀ old, s.len + l.length ≤ grownCap w (s.len + l.length) old e := fun old => grownCap_ge w _ old e
  have hrl := hr.len
  rw [Nat.mul_one] at hrl
  have hlen : (xs ++ l.flatMap byC).length = (s.len + l.length) * 1 := by rw [List.length_append, hrl, hyl, Nat.mul_one]
  have fresh : ∀ old, k (.slice (some ⟨w.heap.size, 0, none⟩) (s.len + l.length) (grownCap w (s.len + l.length) old e))
      (w.drew.alloc (.cells ((xs ++ l.flatMap byC).toArray ++ Builtin.zeroCells z.cells (grownCap w (s.len + l.length) old e - (s.len + l.length))) e)) := by
    intro old
    refine hk ⟨some ⟨w.heap.size, 0, none⟩, s.len + l.length, grownCap w (s.len + l.length) old e⟩ _ ⟨hlen, .inr ⟨w.heap.size, _, rfl, ⟨(0, 0), heap_alloc_new w.drew _, .zero _⟩, hge old, hcap old, ?_, ?_⟩⟩ rfl
      ⟨rfl, rfl, rfl, by simp, fun c hc _ => by first | exact heap_alloc_old w.drew _ c hc | exact heap_alloc_old w.drew _ hc, .inr (.inr (Nat.le_refl _))⟩
    · have := hge old
      simp only [Array.size_append, List.size_toArray, size_zeroCells, hzs]
      rw [hlen]
      omega
    · simp only [Array.toList_append]
      rw [← hlen]
      exact List.take_left
  rcases hr.at_ with ⟨h1', h2, h3⟩ | ⟨b, cur, h1', h2, h3, h4, h5, h6⟩
  · have hxs : xs = [] := List.eq_nil_of_length_eq_zero (by rw [hrl, h2])
    have hse : s.v = .slice none 0 0 := by show Value.slice s.a s.len s.cap = _; rw [h1', h2, h3]
    have hrun := run_append_grow_src (P := P) (w := w) t tx ty e i z ht hi (hi3.trans hz) none 0 0 [] (run_firstCells_none w.drew i.size 0 0 0) (str l) l.length (l.flatMap byC) hsrc (by omega) (by omega) (growslice_fits (by omega) (by rw [hbytes]; omega))
    have hf := fresh 0
    simp only [h2, Nat.zero_add, hxs] at hf hrun
    rw [hse]
    exact .of hrun hf
  · have hse : s.v = .slice (some ⟨b, 0, none⟩) s.len s.cap := by show Value.slice s.a s.len s.cap = _; rw [h1']
    rw [hse]
    by_cases hroom : s.len + l.length ≤ s.cap
    · obtain ⟨fz, h2, hok⟩ := h2
      have hfit : s.len + (l.flatMap byC).length ≤ cur.size := by rw [hyl]; omega
      have hst := run_storeCells_ok P b s.len e fz (l.flatMap byC) 0 cur w h2 hok (by simpa using hfit) hsrc.one
      simp only [Nat.add_zero] at hst
      have hrun : (Builtin.append_ #[t, tx] ty #[.slice (some ⟨b, 0, none⟩) s.len s.cap, str l]).run P w =
          .ok (.slice (some ⟨b, 0, none⟩) (s.len + l.length) s.cap) (w.setRow b (cur.toList.take s.len ++ l.flatMap byC ++ cur.toList.drop (s.len + (l.flatMap byC).length)).toArray) := by
        have q1 := hsrc.len
        have q2 := hsrc.cells
        rw [hsize] at q2
        simp [Builtin.append_, run_underlying ht, run_underlying hs, sizeOf, typeInfo, hi, hsize, q1, hroom, q2, Addr.add_lit, hst]
      refine .of hrun (hk ⟨some ⟨b, 0, none⟩, s.len + l.length, s.cap⟩ _ ⟨hlen, .inr ⟨b, _, rfl, ⟨fz, setRow_heap w b cur _ e _ h2, ?_⟩, hroom, h4, ?_, ?_⟩⟩ rfl ⟨rfl, rfl, rfl, by simp, fun c _ hc => setRow_other w b c _ ?_, .inr (.inl ⟨by rw [h1']; simp, by rw [h1']⟩)⟩)
      · intro j hj
        refine hok j ?_
        simp only [List.size_toArray, List.length_append, List.length_take, List.length_drop, Array.length_toList] at hj
        omega
      · simp only [List.size_toArray, List.length_append, List.length_take, List.length_drop, Array.length_toList]
        omega
      · rw [Nat.mul_one] at h6
        rw [h6, ← hlen]
        exact List.take_left
      · rcases hc with hc | hc
        · rw [h1'] at hc; cases hc
        · rw [h1'] at hc; exact hc
    · have holds : ∀ j v, xs[j]? = some v → w.cell? ((⟨b, 0, none⟩ : Addr).add j) = some v := fun j v hj => by
        have := hr.cells.2 j v hj
        rw [h1'] at this
        rw [addr_add]; exact this
      have hrun := run_append_grow_src (P := P) (w := w) t tx ty e i z ht hi (hi3.trans hz) (some ⟨b, 0, none⟩) s.len s.cap xs (by
        rw [hsize]
        exact run_firstCells_some w.drew 1 s.len ⟨b, 0, none⟩ s.len s.cap xs (by omega) (by simpa using holds)) (str l) l.length (l.flatMap byC) hsrc (by omega) (by omega) (growslice_fits (by omega) (by rw [hbytes]; omega))
      exact .of hrun (fresh s.cap)
section
variable {w0 V0 V w : World} {own : List Res}
/-- an owned row of bytes grows by a string -/
theorem Rel.appStr {i : Nat} {s : Sl} {xs l : List UInt8} (H : Rel w0 V0 own V w) (hi : own[i]? = some (.row s 5 1 (xs.flatMap byC))) (hl : 0 < l.length) (hb : xs.length + l.length ≤ 1099511627776) {ty : TypeId} {k : Value → World → Prop}
    (hk : ∀ s' w', Rel w0 V0 (own.set i (.row s' 5 1 ((xs ++ l).flatMap byC))) V w' → k s'.v w') : SemOk Tryz.prog (Builtin.append_ #[22, 9] ty #[s.v, str l]) w k := by
  have hsl := H.rowLen hi (fun _ => rfl) (by decide)
  refine app_rowS tabOk rfl rfl rfl rfl rfl rfl rfl Tryz.underlying9 (H.rowAt hi) (by rw [hsl]; exact hb) hl fun s' w' hr _ hg => hk s' w' ?_
  have hra := (H.rowAt hi).at_
  rw [List.flatMap_append]
  refine H.put hi hg.os hg.tape hg.output hg.size (fun c hc hne => hg.block c hc ?_) hr fun b hb => ?_
  · cases hs : s.a with
    | none => exact .inl rfl
    | some p => refine .inr fun e => hne ?_; rw [e]; simp [Res.at_, hs, ablk]
  · simp only [Res.at_, Option.map_eq_some_iff] at hb ⊢
    obtain ⟨p, hp, rfl⟩ := hb
    rcases hg.own with h | ⟨h, h'⟩ | h
    · rw [hp] at h; cases h
    · cases hs : s.a with
      | none => exact absurd hs h
      | some q => rw [hp, hs] at h'; exact .inl ⟨q, rfl, h'.symm⟩
    · rw [hp] at h; exact .inr h
end
section
variable {V W : World}
set_option maxRecDepth 100000 in
set_option maxHeartbeats 1000000 in
theorem tblShape_ref (hV : Sub V W) {h : VH} {v : Val} (hv : ValAt V h v) (hB : VB 1048576 v) (_hf : (vfault v).1 = 0) : Ret Tryz.prog 13 [valV h].toArray W fun q w' => q = .bool (tblShape v).isSome ∧ Rel W V [] V w' := by
  have H := Rel.start hV
  have hv0 := hv
  have e1 := hv.kind
  have hpl := hv.plen
  have hcnt := hB.parts
  obtain ⟨k, n, bs, ss, pl⟩ := h
  dsimp only at e1 hpl
  subst e1
  change Ret Tryz.prog 13 [.agg [iv v.kind, iv n, bs.v, ss.v, pl.v].toArray].toArray W _
  refine cal_of_vc tabOk Tryz.func13 rfl (by kernel_rfl) 50 rfl (by simp) [0, 1, 2, 3, 4, 5, 14, 19, 35, 40, 49] ?_
  (first | (refine H.wh ?_; clear H; intros; rename_i w H; constructor) | refine wk ?_)
  ((first | refine Rel.nwD H ?_ | refine Rel.nw H ?_); clear H; intro w b1 H)
  by_cases h3 : v.kind = 3
  rotate_left
  · rw [show tblShape v = none by unfold tblShape; rw [if_neg (fun h => h3 h.1)]]
    (first | (refine H.wg ?_; clear H; intros; rename_i w H; constructor) | refine wk ?_)
    first | exact H.sx | exact ⟨rfl, H.sx⟩
  by_cases h30 : v.parts.length = 0
  · rw [show tblShape v = none by unfold tblShape; rw [if_neg (fun h => h.2 (List.eq_nil_of_length_eq_zero h30))]]
    (first | (refine H.wg ?_; clear H; intros; rename_i w H; constructor) | refine wk ?_)
    first | exact H.sx | exact ⟨rfl, H.sx⟩
  have hsh : tblShape v = allM rowOfV v.parts := by unfold tblShape; rw [if_pos ⟨h3, fun h => h30 (by rw [h]; rfl)⟩]
  (first | (refine H.wg ?_; clear H; intros; rename_i w H; constructor) | refine wk ?_)
  refine loop_inv (S := Nat × Tbl) tabOk [0, 1, 14] (fun q => [(3, iv q.1)]) (fun q w' => q.1 ≤ v.parts.length ∧ allM rowOfV (v.parts.take q.1) = some q.2 ∧ Rel W V [.blk b1 [iv v.kind, iv n, bs.v, ss.v, pl.v] 27] V w') (fun q _ => v.parts.length - q.1) (0, []) ?_
  (conv => whnf)
  refine ⟨(by repeat (first | exact trivial | refine ⟨rfl, ?_⟩)), ⟨by omega, rfl, H⟩, ?_⟩
  clear H
  rintro ⟨i, T⟩ w ⟨hi, hall, H⟩
  dsimp only at hi hall H ⊢
  by_cases hlt : i < v.parts.length
  rotate_left
  · obtain rfl : i = v.parts.length := by omega
    rw [List.take_length] at hall
    rw [hsh, hall]
    (first | (refine H.wg ?_; clear H; intros; rename_i w H; constructor) | refine wk ?_)
    first | exact H.sx | exact ⟨rfl, H.sx⟩
  obtain ⟨hp0, x, hx, a0, a1, a2, a3, a4⟩ := hv0.part5 (i := i) hlt
  obtain ⟨r, hr⟩ : ∃ r, r = v.parts[i] := ⟨_, rfl⟩
  rw [← hr] at hx
  have hmem : r ∈ v.parts := by rw [hr]; exact List.getElem_mem hlt
  have hno : rowOfV r = none → (tblShape v).isSome = false := fun h => by rw [hsh, allM_none hmem h]; rfl
  have hrB := hB.part r hmem
  have hrc := hrB.parts
  have k1 := hx.kind
  have hrl := hx.plen
  have hx0 := hx
  obtain ⟨xk, xn, xb, xs, xp⟩ := x
  dsimp only at k1 hrl a0 a1 a2 a3 a4
  subst k1
  (first | (refine H.wh ?_; clear H; intros; rename_i w H; constructor) | refine wk ?_)
  ((first | refine Rel.nwD H ?_ | refine Rel.nw H ?_); clear H; intro w b4 H)
  by_cases h4 : r.kind = 3
  rotate_left
  · rw [hno (by unfold rowOfV; rw [if_neg (fun h => h4 h.1)])]
    (first | (refine H.wg ?_; clear H; intros; rename_i w H; constructor) | refine wk ?_)
    first | exact H.sx | exact ⟨rfl, H.sx⟩
  by_cases h40 : r.parts.length = 0
  · rw [hno (by unfold rowOfV; rw [if_neg (fun h => h.2 (List.eq_nil_of_length_eq_zero h40))])]
    (first | (refine H.wg ?_; clear H; intros; rename_i w H; constructor) | refine wk ?_)
    first | exact H.sx | exact ⟨rfl, H.sx⟩
  have hrow : rowOfV r = allM cellOf r.parts := by unfold rowOfV; rw [if_pos ⟨h4, fun h => h40 (by rw [h]; rfl)⟩]
  (first | (refine H.wg ?_; clear H; intros; rename_i w H; constructor) | refine wk ?_)
  refine loop_inv (S := Nat × List (List UInt8)) tabOk [0, 1, 3, 4, 14, 19, 35] (fun q => [(5, iv q.1)]) (fun q w' => q.1 ≤ r.parts.length ∧ allM cellOf (r.parts.take q.1) = some q.2 ∧ Rel W V [.blk b4 [iv r.kind, iv xn, xb.v, xs.v, xp.v] 27, .blk b1 [iv v.kind, iv n, bs.v, ss.v, pl.v] 27] V w') (fun q _ => r.parts.length - q.1) (0, []) ?_
  (conv => whnf)
  refine ⟨(by repeat (first | exact trivial | refine ⟨rfl, ?_⟩)), ⟨by omega, rfl, H⟩, ?_⟩
  clear H
  rintro ⟨j, cc⟩ w ⟨hj, hal2, H⟩
  dsimp only at hj hal2 H ⊢
  by_cases hjl : j < r.parts.length
  · obtain ⟨_, y, hy, b0, b1', b2, b3, b4⟩ := hx0.part5 (i := j) hjl
    obtain ⟨c, hc⟩ : ∃ c, c = r.parts[j] := ⟨_, rfl⟩
    rw [← hc] at hy
    have hcm : c ∈ r.parts := by rw [hc]; exact List.getElem_mem hjl
    have ky := hy.kind
    obtain ⟨yk, yn, yb, ys, yp⟩ := y
    dsimp only at ky b0 b1' b2 b3 b4
    subst ky
    by_cases h2 : c.kind = 2
    rotate_left
    · rw [hno (by rw [hrow]; exact allM_none hcm (by unfold cellOf; rw [if_neg h2]))]
      (first | (refine H.wg ?_; clear H; intros; rename_i w H; constructor) | refine wk ?_)
      first | exact H.sx | exact ⟨rfl, H.sx⟩
    have hce : cellOf c = some c.bytes := by unfold cellOf; rw [if_pos h2]
    have hal3 := allM_step hjl hal2 (by rw [← hc]; exact hce)
    (first | (refine H.wg ?_; clear H; intros; rename_i w H; constructor) | refine wk ?_)
    exact ⟨(by repeat (first | exact trivial | refine ⟨rfl, ?_⟩)), (j + 1, cc ++ [c.bytes]), (by repeat (first | exact trivial | refine ⟨rfl, ?_⟩)), ⟨by dsimp only; omega, hal3, H.sx⟩, by dsimp only; omega⟩
  · obtain rfl : j = r.parts.length := by omega
    rw [List.take_length] at hal2
    have hall2 := allM_step hlt hall (by rw [← hr, hrow]; exact hal2)
    (first | (refine H.wg ?_; clear H; intros; rename_i w H; constructor) | refine wk ?_)
    exact ⟨(by repeat (first | exact trivial | refine ⟨rfl, ?_⟩)), (i + 1, T ++ [cc]), (by repeat (first | exact trivial | refine ⟨rfl, ?_⟩)), ⟨by dsimp only; omega, hall2, H.sx⟩, by dsimp only; omega⟩
set_option maxRecDepth 100000 in
theorem has_ref (hV : Sub V W) {s : Sl} {z : List Int} (hs : SlF itC V s z) (hl : z.length ≤ 100000) (n : Int) : Ret Tryz.prog 36 [s.v, iv n].toArray W fun q w' => q = .bool (decide (n ∈ z)) ∧ Rel W V [] V w' := by
  have H := Rel.start hV
  have hlen := hs.len
  refine cal_of_vc tabOk Tryz.func36 rfl (by kernel_rfl) 18 rfl (by simp) [0, 1, 4, 5, 9, 17] ?_
  (first | (refine H.wg ?_; clear H; intros; rename_i w H; constructor) | refine wk ?_)
  refine loop_inv (S := Nat) tabOk [0, 1] (fun j => [(5, iv j)]) (fun j w' => j ≤ z.length ∧ n ∉ z.take j ∧ Rel W V [] V w') (fun j _ => z.length - j) 0 ?_
  (conv => whnf)
  refine ⟨(by repeat (first | exact trivial | refine ⟨rfl, ?_⟩)), ⟨by omega, by simp, H⟩, ?_⟩
  clear H
  rintro j w ⟨hj, hno, H⟩
  by_cases hjl : j < z.length
  rotate_left
  · rw [List.take_of_length_le (by omega)] at hno
    rw [decide_eq_false hno]
    (first | (refine H.wg ?_; clear H; intros; rename_i w H; constructor) | refine wk ?_)
    first | exact H.sx | exact ⟨rfl, H.sx⟩
  obtain ⟨p0, c0⟩ := hs.at1 (g := iv) (fun _ => rfl) hjl
  obtain ⟨x, hx⟩ : ∃ x, x = z[j] := ⟨_, rfl⟩
  rw [← hx] at c0
  by_cases e : x = n
  · rw [decide_eq_true (by rw [← e, hx]; exact List.getElem_mem hjl)]
    (first | (refine H.wg ?_; clear H; intros; rename_i w H; constructor) | refine wk ?_)
    first | exact H.sx | exact ⟨rfl, H.sx⟩
  · (first | (refine H.wg ?_; clear H; intros; rename_i w H; constructor) | refine wk ?_)
    exact ⟨(by repeat (first | exact trivial | refine ⟨rfl, ?_⟩)), j + 1, (by repeat (first | exact trivial | refine ⟨rfl, ?_⟩)), ⟨by omega, by rw [List.take_succ_eq_append_getElem hjl, ← hx]; simp [hno, Ne.symm e], H.sx⟩, by omega⟩
theorem esc_snoc (c : UInt8) : ∀ (l : List UInt8), esc (l ++ [c]) = esc l ++ (if c = 34 then [34, 34] else [c])
  | [] => by
    show esc [c] = _
    unfold esc
    split <;> rfl
  | d :: l => by
    have ih := esc_snoc c l
    show esc (d :: (l ++ [c])) = esc (d :: l) ++ _
    unfold esc
    rw [ih]
    split <;> simp
theorem rowOfV_some {r : Val} {y : List (List UInt8)} (h : rowOfV r = some y) : y.length = r.parts.length ∧ ∀ (j : Nat) (h1 : j < r.parts.length) (h2 : j < y.length), (r.parts[j]).bytes = y[j] := by
  unfold rowOfV at h
  split at h
  · obtain ⟨h1, h2⟩ := allM_some h
    refine ⟨h1, fun j h3 h4 => ?_⟩
    have := h2 j _ _ (List.getElem?_eq_getElem h3) (List.getElem?_eq_getElem h4)
    unfold cellOf at this
    split at this
    · exact Option.some.inj this
    · cases this
  · cases h
theorem tblShape_some {v : Val} {T : Tbl} (h : tblShape v = some T) : T.length = v.parts.length ∧ ∀ (i : Nat) (h1 : i < v.parts.length) (h2 : i < T.length), rowOfV v.parts[i] = some T[i] := by
  unfold tblShape at h
  split at h
  · obtain ⟨h1, h2⟩ := allM_some h
    exact ⟨h1, fun i h3 h4 => h2 i _ _ (List.getElem?_eq_getElem h3) (List.getElem?_eq_getElem h4)⟩
  · cases h
/- one byte behind the row -/
set_option maxRecDepth 100000 in
set_option maxHeartbeats 4000000 in
theorem tblFile_g (hV : Sub V W) {h : VH} {v : Val} (hv : ValAt V h v) (hB : VB 1048576 v) (hvf : (vfault v).1 = 0) (hsh : (tblShape v).isSome = true) {s : Sl} {b : List UInt8} (hs : Byt V s b) (hl : b.length ≤ 1099511620000) : Ret Tryz.prog 14 [valV h, s.v].toArray W (FrG W V (tblMake v b)) := by
  have H := Rel.start hV
  have hlen := hs.len
  have hv0 := hv
  have hpl := hv.plen
  obtain ⟨T, hS⟩ := Option.isSome_iff_exists.1 hsh
  obtain ⟨hTl, hrl⟩ := shape_small hB hvf hS
  obtain ⟨hTp, hrow⟩ := tblShape_some hS
  obtain ⟨kd, nn, bs, ss, pl⟩ := h
  dsimp only at hpl
  change Ret Tryz.prog 14 [.agg [iv kd, iv nn, bs.v, ss.v, pl.v].toArray, s.v].toArray W _
  refine cal_of_sem tabOk Tryz.func14 rfl (by kernel_rfl) 148 rfl (by simp) [0, 1, 2, 4, 5, 6, 7, 8, 9, 10, 11, 12, 13, 14, 15, 16, 17, 18, 21, 24, 37, 42, 53, 57, 81, 91, 98, 123, 129] ?_
  refine SemC.seqGo tabOk ?_
  (first | (refine H.wh ?_; clear H; intros; rename_i w H; constructor) | refine wk ?_)
  ((first | refine Rel.nwD H ?_ | refine Rel.nw H ?_); clear H; intro w b2 H)
  (first | (refine H.wg ?_; clear H; intros; rename_i w H; constructor) | refine wk ?_)
  refine SemC.seqGo tabOk ?_
  (first | (refine H.wg ?_; clear H; intros; rename_i w H; constructor) | refine wk ?_)
  refine (tblGood_g H.data hs hl).use ?_
  rintro q w ⟨rfl, K⟩
  (have hKb := K.base; replace H := Rel.call H K)
  simp only [List.nil_append] at H
  cases hrd : tblRd b with
  | none =>
    rw [tblMake_bad hS hrd, show (tblLoss b).isSome = false by simp [tblLoss, hrd]]
    (first | (refine H.wg ?_; clear H; intros; rename_i w H; constructor) | refine wk ?_)
    exact ⟨V, ⟨none, 0, 0⟩, [], false, Sub.refl _, H.sx, rfl, SlF.nil _ _, rfl⟩
  | some x =>
  obtain ⟨fl, Z⟩ := x
  obtain ⟨hf, hZl, hZ, _⟩ := tblRd_some hrd
  rw [show (tblLoss b).isSome = true by simp [tblLoss, hrd]]
  (first | (refine H.wg ?_; clear H; intros; rename_i w H; constructor) | refine wk ?_)
  refine SemC.seqGo tabOk ?_
  (first | (refine H.wg ?_; clear H; intros; rename_i w H; constructor) | refine wk ?_)
  refine SemC.seqGo tabOk ?_
  (first | (refine H.wg ?_; clear H; intros; rename_i w H; constructor) | refine wk ?_)
  refine SemC.seqCut tabOk (fun q : Sl => [(1, s.v), (2, .pointer (some ⟨b2, 0, none⟩)), (4, .slice none 0 0), (5, .bool false), (6, iv (fl : Int)), (7, q.v)]) (fun q w' => ∃ V4, Sub V V4 ∧ SlF itC V4 q (nz Z) ∧ Rel W V [.blk b2 [iv kd, iv nn, bs.v, ss.v, pl.v] 27] V4 w') ?_ ?_
  · by_cases hb0 : b.length = 0
    · have hbn : b = [] := List.eq_nil_of_length_eq_zero hb0
      rw [hbn, tblRd_nil] at hrd
      cases hrd
      (first | (refine H.wg ?_; clear H; intros; rename_i w H; constructor) | refine wk ?_)
      exact ⟨⟨none, 0, 0⟩, (by repeat (first | exact trivial | refine ⟨rfl, ?_⟩)), V, Sub.refl _, SlF.nil _ _, H.sx⟩
    · have hraw := tblRd_raw (fun h => hb0 (by rw [h]; rfl)) hrd
      (first | (refine H.wg ?_; clear H; intros; rename_i w H; constructor) | refine wk ?_)
      refine (numbersOf_ref H.data hs (by omega)).use ?_
      rintro q w ⟨V4, rz, c, z, kf, hV4, K, rfl, hI, hrz, hz1, hres⟩
      (have hKb := K.base; replace H := Rel.call H K)
      simp only [List.nil_append] at H
      rw [hraw] at hres
      obtain ⟨rfl, hres⟩ := hres
      cases hres
      (first | (refine H.wg ?_; clear H; intros; rename_i w H; constructor) | refine wk ?_)
      exact ⟨rz, (by repeat (first | exact trivial | refine ⟨rfl, ?_⟩)), V4, hV4, hrz, H.sx⟩
  clear H
  rintro q0 w ⟨V4, hV4, hq0, H⟩
  obtain ⟨n, hn⟩ : ∃ n, n = fl % 3 := ⟨_, rfl⟩
  obtain ⟨k, hk⟩ : ∃ k, k = decide (fl / 3 % 2 = 1) := ⟨_, rfl⟩
  obtain ⟨o, ho⟩ : ∃ o, o = decide (6 ≤ fl) := ⟨_, rfl⟩
  obtain ⟨R, hR⟩ : ∃ R, R = markF (sepB n) Z 0 T := ⟨_, rfl⟩
  have hRl : R.length = T.length := by rw [hR, markF_len]
  have hout : tblOut fl Z T = fileB (sepB n) (tEnd k) o R := by unfold tblOut; rw [hR, hn, hk, ho]
  have hel := tEnd_le k
  refine SemC.seqGo tabOk ?_
  (first | (refine H.wg ?_; clear H; intros; rename_i w H; constructor) | refine wk ?_)
  rw [show ((fl : Nat) : Int) % 3 = ((n : Nat) : Int) by omega]
  refine (separatorAt_ref H.data (n := n) (by omega)).use ?_
  rintro v w ⟨rfl, K⟩
  (have hKb := K.base; replace H := H.call0 K)
  (first | (refine H.wg ?_; clear H; intros; rename_i w H; constructor) | refine wk ?_)
  refine SemC.seqGo tabOk ?_
  (first | (refine H.wg ?_; clear H; intros; rename_i w H; constructor) | refine wk ?_)
  refine SemC.seqCut tabOk (fun _ : Unit => [(1, s.v), (2, .pointer (some ⟨b2, 0, none⟩)), (4, .slice none 0 0), (5, .bool false), (6, iv (fl : Int)), (7, q0.v), (8, bv (sepB n)), (9, str (tEnd k))]) (fun _ w' => Rel W V [.blk b2 [iv kd, iv nn, bs.v, ss.v, pl.v] 27] V4 w') ?_ ?_
  · cases k with
    | true =>
      have hk1 := of_decide_eq_true hk.symm
      (first | (refine H.wg ?_; clear H; intros; rename_i w H; constructor) | refine wk ?_)
      exact ⟨(), (by repeat (first | exact trivial | refine ⟨rfl, ?_⟩)), H.sx⟩
    | false =>
      have hk1 := of_decide_eq_false hk.symm
      (first | (refine H.wg ?_; clear H; intros; rename_i w H; constructor) | refine wk ?_)
      exact ⟨(), (by repeat (first | exact trivial | refine ⟨rfl, ?_⟩)), H.sx⟩
  clear H
  rintro _ w H
  refine SemC.seqGo tabOk ?_
  (first | (refine H.wg ?_; clear H; intros; rename_i w H; constructor) | refine wk ?_)
  refine SemC.seqGo tabOk ?_
  (first | (refine H.wg ?_; clear H; intros; rename_i w H; constructor) | refine wk ?_)
  refine SemC.seqGo tabOk ?_
  (first | (refine H.wg ?_; clear H; intros; rename_i w H; constructor) | refine wk ?_)
  have hv4 := hv0.up hV4
  replace H := H.rowNil 5 1
  refine loop_inv (S := Nat × Sl × List UInt8) tabOk [0, 1, 2, 4, 5, 6, 7, 8, 9, 16, 17, 18, 21, 24, 37, 129] (fun z => [(10, z.2.1.v), (11, iv ((T.take z.1).flatten.length : Nat)), (12, iv z.1)]) (fun z w' => z.1 ≤ T.length ∧ z.2.2 = (if z.1 < T.length then (R.take z.1).flatMap (fun r => outR (sepB n) r ++ tEnd k) else fileB (sepB n) (tEnd k) o R) ∧ z.2.2.length ≤ z.1 * 1300000000 ∧ Rel W V [.row z.2.1 5 1 (z.2.2.flatMap byC), .blk b2 [iv kd, iv nn, bs.v, ss.v, pl.v] 27] V4 w') (fun z _ => T.length - z.1) (0, ⟨none, 0, 0⟩, []) ?_
  (conv => whnf)
  refine ⟨(by repeat (first | exact trivial | refine ⟨rfl, ?_⟩)), ⟨by omega, ?_, by simp, H⟩, ?_⟩
  · dsimp only
    split
    · rfl
    · have : R = [] := List.eq_nil_of_length_eq_zero (by omega)
      rw [this]
      rfl
  clear H
  rintro ⟨i, dr, acc⟩ w ⟨hi, hacc, hal, H⟩
  dsimp only at hi hacc hal H ⊢
  have hmi : i * 1300000000 ≤ 600 * 1300000000 := Nat.mul_le_mul_right _ (by omega)
  by_cases hlt : i < T.length
  rotate_left
  · rw [if_neg hlt, ← hout] at hacc
    obtain ⟨O, hOe⟩ : ∃ O, O = tblOut fl Z T := ⟨_, rfl⟩
    rw [← hOe] at hacc
    subst hacc
    obtain ⟨V20, hV20, H, hO⟩ := Rel.freezeF H (fun _ => rfl) (by decide)
    have hOl := hO.len
    have hV020 := hV4.trans hV20
    (first | (refine H.wg ?_; clear H; intros; rename_i w H; constructor) | refine wk ?_)
    refine SemC.seqGo tabOk ?_
    by_cases hbig : 1000 < acc.length
    · rw [tblMake_no hS hrd (by rw [← hOe]; intro h; omega)]
      (first | (refine H.wg ?_; clear H; intros; rename_i w H; constructor) | refine wk ?_)
      exact ⟨V20, ⟨none, 0, 0⟩, [], false, hV020, H.sx, rfl, SlF.nil _ _, rfl⟩
    (first | (refine H.wg ?_; clear H; intros; rename_i w H; constructor) | refine wk ?_)
    refine SemC.seqGo tabOk ?_
    (first | (refine H.wg ?_; clear H; intros; rename_i w H; constructor) | refine wk ?_)
    refine (tblTo_ref H.data hO (by omega)).use ?_
    rintro q w ⟨V9, h3, r3, v3, b3, hV209, K, hv3, hr3, hto⟩
    (have hKb := K.base; replace H := H.call0 K)
    have hV9 := hV020.trans hV209
    obtain ⟨O, hOO⟩ : ∃ O, O = acc := ⟨_, rfl⟩
    rw [← hOO] at hOe hO hOl hbig hto
    cases ht : tblTo O with
    | none =>
      rw [ht] at hto
      dsimp only at hto
      subst hto
      (first | (refine H.wh ?_; clear H; intros; rename_i w H; constructor) | refine wk ?_)
      ((first | refine Rel.nwD H ?_ | refine Rel.nw H ?_); clear H; intro w b16 H)
      (first | (refine H.wg ?_; clear H; intros; rename_i w H; constructor) | refine wk ?_)
      refine SemC.seqGo tabOk ?_
      rw [(tblMake_no hS hrd fun _ => by rw [← hOe, ht]; simp)]
      (first | (refine H.wg ?_; clear H; intros; rename_i w H; constructor) | refine wk ?_)
      refine SemC.go tabOk ?_
      (first | (refine H.wg ?_; clear H; intros; rename_i w H; constructor) | refine wk ?_)
      exact ⟨V9, dr, O, false, hV9, H.sx, rfl, hO.up hV209, rfl⟩
    | some y =>
      obtain ⟨vv, rr⟩ := y
      rw [ht] at hto
      obtain ⟨rfl, hto⟩ := hto
      have z1 : vv = v3 := congrArg Prod.fst hto
      have z2 : rr = b3 := congrArg Prod.snd hto
      subst z1 z2
      obtain ⟨hVB, _⟩ := tbl_valid (by omega) ht
      (first | (refine H.wh ?_; clear H; intros; rename_i w H; constructor) | refine wk ?_)
      ((first | refine Rel.nwD H ?_ | refine Rel.nw H ?_); clear H; intro w b16 H)
      (first | (refine H.wg ?_; clear H; intros; rename_i w H; constructor) | refine wk ?_)
      refine SemC.seqGo tabOk ?_
      (first | (refine H.wg ?_; clear H; intros; rename_i w H; constructor) | refine wk ?_)
      refine (same_value (SizeOf.sizeOf (vv : Val) + 1) H.data (Nat.lt_succ_self _) hv3 (hv0.up hV9) (vb_big hVB)).use ?_
      rintro q w ⟨r0, rfl, hsame, K⟩
      (have hKb := K.base; replace H := Rel.call H K)
      simp only [List.cons_append, List.nil_append] at H
      by_cases hvv : vv = v
      rotate_left
      · obtain rfl : r0 = false := by
          cases r0 with
          | false => rfl
          | true => exact absurd (hsame.1 rfl) hvv
        rw [(tblMake_no hS hrd fun _ h => by rw [← hOe, ht] at h; cases h; exact hvv rfl)]
        (first | (refine H.wg ?_; clear H; intros; rename_i w H; constructor) | refine wk ?_)
        refine SemC.go tabOk ?_
        (first | (refine H.wg ?_; clear H; intros; rename_i w H; constructor) | refine wk ?_)
        exact ⟨V9, dr, O, false, hV9, H.sx, rfl, hO.up hV209, rfl⟩
      obtain rfl := hsame.2 hvv
      (first | (refine H.wg ?_; clear H; intros; rename_i w H; constructor) | refine wk ?_)
      refine (bytes_ref H.data hr3 (hs.up hV9)).use ?_
      rintro q w ⟨rfl, K⟩
      (have hKb := K.base; replace H := Rel.call H K)
      simp only [List.cons_append, List.nil_append] at H
      by_cases hbb : rr = b
      rotate_left
      · rw [decide_eq_false hbb]
        rw [(tblMake_no hS hrd fun _ h => by rw [← hOe, ht] at h; cases h; exact hbb rfl)]
        (first | (refine H.wg ?_; clear H; intros; rename_i w H; constructor) | refine wk ?_)
        refine SemC.go tabOk ?_
        (first | (refine H.wg ?_; clear H; intros; rename_i w H; constructor) | refine wk ?_)
        exact ⟨V9, dr, O, false, hV9, H.sx, rfl, hO.up hV209, rfl⟩
      rw [decide_eq_true hbb, tblMake_yes hS hrd (by rw [← hOe]; omega) (by rw [← hOe, ht, hvv, hbb]), ← hOe]
      (first | (refine H.wg ?_; clear H; intros; rename_i w H; constructor) | refine wk ?_)
      refine SemC.go tabOk ?_
      (first | (refine H.wg ?_; clear H; intros; rename_i w H; constructor) | refine wk ?_)
      exact ⟨V9, dr, O, true, hV9, H.sx, rfl, hO.up hV209, rfl, rfl⟩
  rw [if_pos hlt] at hacc
  obtain ⟨hp0, x, hx, a0, a1, a2, a3, a4⟩ := hv4.part5 (i := i) (by omega)
  have hri := hrow i (by omega) hlt
  obtain ⟨hrp, hrb⟩ := rowOfV_some hri
  have hTt := List.take_succ_eq_append_getElem hlt
  have hRg := markF_get (sepB n) Z (R := T) (k := 0) hlt
  rw [← hR, Nat.zero_add] at hRg
  obtain ⟨hr1, hr2⟩ := hrl T[i] (List.getElem_mem hlt)
  obtain ⟨r, hr⟩ : ∃ r, r = T[i] := ⟨_, rfl⟩
  rw [← hr] at hTt hRg hrp hr1 hr2
  have hrb2 : ∀ (j : Nat) (h1 : j < (v.parts[i]'(by omega)).parts.length) (h2 : j < r.length), ((v.parts[i]'(by omega)).parts[j]).bytes = r[j] := fun j h1 h2 => by subst hr; exact hrb j h1 h2
  obtain ⟨u, hu⟩ : ∃ u, u = v.parts[i]'(by omega) := ⟨_, rfl⟩
  rw [← hu] at hx hrp
  have hrb3 : ∀ (j : Nat) (h1 : j < u.parts.length) (h2 : j < r.length), (u.parts[j]).bytes = r[j] := fun j h1 h2 => by subst hu; exact hrb2 j h1 h2
  clear hrb hrb2 hri
  have hxl := hx.plen
  have hx0 := hx
  obtain ⟨xk, xn, xb, xs, xp⟩ := x
  dsimp only at hxl a0 a1 a2 a3 a4
  obtain ⟨N, hN⟩ : ∃ N, N = (T.take i).flatten.length := ⟨_, rfl⟩
  have hNb : N ≤ 360000 := by
    have := flatten_le (m := 600) (L := T.take i) fun r hr => (hrl r (List.mem_of_mem_take hr)).1
    rw [List.length_take] at this
    omega
  rw [← hN] at hRg ⊢
  obtain ⟨rm, hrm⟩ : ∃ rm, rm = markR (sepB n) Z N r := ⟨_, rfl⟩
  rw [← hrm] at hRg
  have hrml : rm.length = r.length := by rw [hrm, markR_len]
  (first | (refine H.wg ?_; clear H; intros; rename_i w H; constructor) | refine wk ?_)
  refine loop_inv (S := Nat × Sl × List UInt8) tabOk [0, 1, 2, 4, 5, 6, 7, 8, 9, 12, 16, 17, 18, 21, 24, 37, 42, 123, 129] (fun z => [(10, z.2.1.v), (11, iv ((N + z.1 : Nat) : Int)), (13, iv z.1)]) (fun z w' => z.1 ≤ r.length ∧ z.2.2 = acc ++ outR (sepB n) (rm.take z.1) ∧ z.2.2.length ≤ acc.length + z.1 * 2097155 ∧ Rel W V [.row z.2.1 5 1 (z.2.2.flatMap byC), .blk b2 [iv kd, iv nn, bs.v, ss.v, pl.v] 27] V4 w') (fun z _ => r.length - z.1) (0, dr, acc) ?_
  (conv => whnf)
  refine ⟨(by repeat (first | exact trivial | refine ⟨rfl, ?_⟩)), ⟨by omega, ?_, by simp, H⟩, ?_⟩
  · show acc = acc ++ outR (sepB n) []
    simp [outR]
  clear H
  rintro ⟨j, o2, acc2⟩ w ⟨hj, hacc2, hal2, H⟩
  dsimp only at hj hacc2 hal2 H ⊢
  have hmj : j * 2097155 ≤ 600 * 2097155 := Nat.mul_le_mul_right _ (by omega)
  by_cases hjl : j < r.length
  rotate_left
  · obtain rfl : j = r.length := by omega
    rw [List.take_of_length_le (by omega)] at hacc2
    have hnum : (T.take (i + 1)).flatten.length = N + r.length := by rw [hTt, List.flatten_append, List.length_append, ← hN]; simp
    have hRt : R.take (i + 1) = R.take i ++ [rm] := by
      obtain ⟨q1, q2⟩ := List.getElem?_eq_some_iff.1 hRg
      rw [List.take_succ_eq_append_getElem q1, q2]
    have hml : (i + 1) * 1300000000 = i * 1300000000 + 1300000000 := Nat.succ_mul _ _
    by_cases hlast : i + 1 < T.length
    · (first | (refine H.wg ?_; clear H; intros; rename_i w H; constructor) | refine wk ?_)
      refine Rel.appStr H (i := 0) (l := tEnd k) rfl hel.1 (by omega) ?_
      clear H
      intro o5 w H
      simp only [List.set_cons_zero] at H
      (first | (refine H.wg ?_; clear H; intros; rename_i w H; constructor) | refine wk ?_)
      refine ⟨(by repeat (first | exact trivial | refine ⟨rfl, ?_⟩)), (i + 1, o5, acc2 ++ tEnd k), ⟨rfl, ?_, rfl, trivial⟩, ⟨by dsimp only; omega, ?_, ?_, H⟩, by dsimp only; omega⟩
      · show some (Value.int .i64 _) = some (.int .i64 _)
        dsimp only
        rw [hnum]
      · dsimp only
        rw [if_pos hlast, hRt, List.flatMap_append, hacc2, hacc]; simp
      · dsimp only
        rw [List.length_append]
        omega
    · have hfl := fileB_last (sepB n) (tEnd k) o (R := R) (i := i) (r := rm) (by omega) hRg
      cases o with
      | false =>
        have h6 := of_decide_eq_false ho.symm
        rw [if_neg (by decide)] at hfl
        (first | (refine H.wg ?_; clear H; intros; rename_i w H; constructor) | refine wk ?_)
        refine Rel.appStr H (i := 0) (l := tEnd k) rfl hel.1 (by omega) ?_
        clear H
        intro o5 w H
        simp only [List.set_cons_zero] at H
        (first | (refine H.wg ?_; clear H; intros; rename_i w H; constructor) | refine wk ?_)
        refine ⟨(by repeat (first | exact trivial | refine ⟨rfl, ?_⟩)), (i + 1, o5, acc2 ++ tEnd k), ⟨rfl, ?_, rfl, trivial⟩, ⟨by dsimp only; omega, ?_, ?_, H⟩, by dsimp only; omega⟩
        · show some (Value.int .i64 _) = some (.int .i64 _)
          dsimp only
          rw [hnum]
        · dsimp only
          rw [if_neg hlast, hfl, hacc2, hacc]
        · dsimp only
          rw [List.length_append]
          omega
      | true =>
        have h6 := of_decide_eq_true ho.symm
        rw [if_pos rfl, List.append_nil] at hfl
        (first | (refine H.wg ?_; clear H; intros; rename_i w H; constructor) | refine wk ?_)
        refine ⟨(by repeat (first | exact trivial | refine ⟨rfl, ?_⟩)), (i + 1, o2, acc2), ⟨rfl, ?_, rfl, trivial⟩, ⟨by dsimp only; omega, ?_, ?_, H⟩, by dsimp only; omega⟩
        · show some (Value.int .i64 _) = some (.int .i64 _)
          dsimp only
          rw [hnum]
        · dsimp only
          rw [if_neg hlast, hfl, hacc2, hacc]
        · dsimp only
          omega
  obtain ⟨hp1, yv, hyv, d0, d1, d2, d3, d4⟩ := hx0.part5 (i := j) (by omega)
  have hy := hyv.bytes
  rw [hrb3 j (by omega) hjl] at hy
  have hmg := markR_get (sepB n) Z (r := r) (k := N) hjl
  rw [← hrm] at hmg
  obtain ⟨yk, yn, yb, ys, yp⟩ := yv
  dsimp only at hy d0 d1 d2 d3 d4
  obtain ⟨y, hye⟩ : ∃ y, y = r[j] := ⟨_, rfl⟩
  have hyl := hr2 y (by rw [hye]; exact List.getElem_mem hjl)
  rw [← hye] at hy hmg
  have hyn := hy.len
  have hyl2 : y.length ≤ 1099511627776 := Nat.le_trans hyl (by decide)
  have hrt : rm.take (j + 1) = rm.take j ++ [wrC (sepB n) Z (N + j) y] := by
    obtain ⟨q1, q2⟩ := List.getElem?_eq_some_iff.1 hmg
    rw [List.take_succ_eq_append_getElem q1, q2]
  have hesl := esc_cnt y
  have hecl : y.count 34 ≤ y.length := List.count_le_length
  by_cases hj0 : j = 0
  · have hstep : acc ++ outR (sepB n) (rm.take (j + 1)) = acc2 ++ outC (wrC (sepB n) Z (N + j) y) := by
      rw [hrt, hacc2, hj0]
      simp [outR]
    (first | (refine H.wg ?_; clear H; intros; rename_i w H; constructor) | refine wk ?_)
    refine (needsQuotes_ref H.data hy hyl2 (sepB n)).use ?_
    rintro v w ⟨rfl, K⟩
    (have hKb := K.base; replace H := Rel.call H K)
    simp only [List.nil_append] at H
    cases hN : tNeeds (sepB n) y with
    | true =>
      have hq : (tNeeds (sepB n) y || Z.contains (N + j)) = true := by rw [hN]; rfl
      have hout : outC (wrC (sepB n) Z (N + j) y) = 34 :: (esc y ++ [34]) := by unfold wrC outC; rw [hq]; rfl
      (first | (refine H.wh ?_; clear H; intros; rename_i w H; constructor) | refine wk ?_)
      ((first | refine Rel.nwD H ?_ | refine Rel.nw H ?_); clear H; intro w b86 H)
      (first | (refine H.wg ?_; clear H; intros; rename_i w H; constructor) | refine wk ?_)
      refine Rel.app1_0 (f := byC) (s := o2) (l := (acc2)) (x := 34) tabOk rfl rfl rfl rfl rfl (by decide) (fun _ => rfl) (by simp [Value.oneCell']) H (by show (_ + 1) * 1 ≤ _; first | omega | (simp only [List.length_append, List.length_cons, List.length_nil]; omega)) (by first | omega | (simp only [List.length_append, List.length_cons, List.length_nil]; omega)) ?_
      clear H
      intro o3 w H
      (first | (refine H.wg ?_; clear H; intros; rename_i w H; constructor) | refine wk ?_)
      refine loop_inv (S := Nat × Sl) tabOk [0, 1, 2, 4, 5, 6, 7, 8, 9, 11, 12, 13, 14, 16, 17, 18, 21, 24, 37, 42, 53, 57, 81, 123, 129] (fun z => [(10, z.2.v), (15, iv z.1)]) (fun z w' => z.1 ≤ y.length ∧ (esc (y.take z.1)).length ≤ 2 * z.1 ∧ Rel W V [.row z.2 5 1 (((acc2) ++ [34] ++ esc (y.take z.1)).flatMap byC), .blk b2 [iv kd, iv nn, bs.v, ss.v, pl.v] 27] V4 w') (fun z _ => y.length - z.1) (0, o3) ?_
      (conv => whnf)
      refine ⟨(by repeat (first | exact trivial | refine ⟨rfl, ?_⟩)), ⟨by omega, by simp [esc], by dsimp only; rw [List.take_zero, show esc [] = [] from rfl, List.append_nil]; exact H⟩, ?_⟩
      clear H
      rintro ⟨m, o4⟩ w ⟨hm, hel, H⟩
      dsimp only at hm hel H ⊢
      by_cases hml : m < y.length
      · obtain ⟨p3, c3⟩ := hy.at1 (g := bv) (fun _ => rfl) hml
        obtain ⟨x, hx⟩ : ∃ x, x = y[m] := ⟨_, rfl⟩
        rw [← hx] at c3
        have hsn := esc_snoc x (y.take m)
        rw [hx, ← List.take_succ_eq_append_getElem hml, ← hx] at hsn
        by_cases e34 : x.toNat = 34
        · obtain rfl : x = 34 := UInt8.toNat_inj.1 (by rw [e34]; rfl)
          change V4.cell? _ = some (bv 34) at c3
          rw [if_pos rfl] at hsn
          (first | (refine H.wh ?_; clear H; intros; rename_i w H; constructor) | refine wk ?_)
          ((first | refine Rel.nwD H ?_ | refine Rel.nw H ?_); clear H; intro w b100 H)
          (first | (refine H.wg ?_; clear H; intros; rename_i w H; constructor) | refine wk ?_)
          refine Rel.app1_0 (f := byC) (s := o4) (l := ((acc2) ++ [34] ++ esc (y.take m))) (x := 34) tabOk rfl rfl rfl rfl rfl (by decide) (fun _ => rfl) (by simp [Value.oneCell']) H (by show (_ + 1) * 1 ≤ _; first | omega | (simp only [List.length_append, List.length_cons, List.length_nil]; omega)) (by first | omega | (simp only [List.length_append, List.length_cons, List.length_nil]; omega)) ?_
          clear H
          intro o5 w H
          (first | (refine H.wh ?_; clear H; intros; rename_i w H; constructor) | refine wk ?_)
          ((first | refine Rel.nwD H ?_ | refine Rel.nw H ?_); clear H; intro w b107 H)
          (first | (refine H.wg ?_; clear H; intros; rename_i w H; constructor) | refine wk ?_)
          refine Rel.app1_0 (f := byC) (s := o5) (l := ((acc2) ++ [34] ++ esc (y.take m) ++ [34])) (x := 34) tabOk rfl rfl rfl rfl rfl (by decide) (fun _ => rfl) (by simp [Value.oneCell']) H (by show (_ + 1) * 1 ≤ _; first | omega | (simp only [List.length_append, List.length_cons, List.length_nil]; omega)) (by first | omega | (simp only [List.length_append, List.length_cons, List.length_nil]; omega)) ?_
          clear H
          intro o6 w H
          (first | (refine H.wg ?_; clear H; intros; rename_i w H; constructor) | refine wk ?_)
          refine ⟨(by repeat (first | exact trivial | refine ⟨rfl, ?_⟩)), (m + 1, o6), (by repeat (first | exact trivial | refine ⟨rfl, ?_⟩)), ⟨by dsimp only; omega, ?_, ?_⟩, by dsimp only; omega⟩
          · dsimp only
            rw [hsn]
            simp only [List.length_append, List.length_cons, List.length_nil]
            omega
          · dsimp only
            rw [hsn]
            have e : (acc2) ++ [34] ++ (esc (y.take m) ++ [34, 34]) = (acc2) ++ [34] ++ esc (y.take m) ++ [34] ++ [34] := by simp
            rw [e]
            exact H
        · rw [if_neg (fun h => e34 (by rw [h]; rfl))] at hsn
          (first | (refine H.wh ?_; clear H; intros; rename_i w H; constructor) | refine wk ?_)
          ((first | refine Rel.nwD H ?_ | refine Rel.nw H ?_); clear H; intro w b107 H)
          (first | (refine H.wg ?_; clear H; intros; rename_i w H; constructor) | refine wk ?_)
          refine Rel.app1_0 (f := byC) (s := o4) (l := ((acc2) ++ [34] ++ esc (y.take m))) (x := x) tabOk rfl rfl rfl rfl rfl (by decide) (fun _ => rfl) (by simp [Value.oneCell']) H (by show (_ + 1) * 1 ≤ _; first | omega | (simp only [List.length_append, List.length_cons, List.length_nil]; omega)) (by first | omega | (simp only [List.length_append, List.length_cons, List.length_nil]; omega)) ?_
          clear H
          intro o6 w H
          (first | (refine H.wg ?_; clear H; intros; rename_i w H; constructor) | refine wk ?_)
          refine ⟨(by repeat (first | exact trivial | refine ⟨rfl, ?_⟩)), (m + 1, o6), (by repeat (first | exact trivial | refine ⟨rfl, ?_⟩)), ⟨by dsimp only; omega, ?_, ?_⟩, by dsimp only; omega⟩
          · dsimp only
            rw [hsn]
            simp only [List.length_append, List.length_cons, List.length_nil]
            omega
          · dsimp only
            rw [hsn, ← List.append_assoc]
            exact H
      · rw [List.take_of_length_le (by omega)] at hel H
        (first | (refine H.wh ?_; clear H; intros; rename_i w H; constructor) | refine wk ?_)
        ((first | refine Rel.nwD H ?_ | refine Rel.nw H ?_); clear H; intro w b110 H)
        (first | (refine H.wg ?_; clear H; intros; rename_i w H; constructor) | refine wk ?_)
        refine Rel.app1_0 (f := byC) (s := o4) (l := ((acc2) ++ [34] ++ esc y)) (x := 34) tabOk rfl rfl rfl rfl rfl (by decide) (fun _ => rfl) (by simp [Value.oneCell']) H (by show (_ + 1) * 1 ≤ _; first | omega | (simp only [List.length_append, List.length_cons, List.length_nil]; omega)) (by first | omega | (simp only [List.length_append, List.length_cons, List.length_nil]; omega)) ?_
        clear H
        intro o5 w H
        (first | (refine H.wg ?_; clear H; intros; rename_i w H; constructor) | refine wk ?_)
        rw [show (acc2) ++ [34] ++ esc y ++ [34] = (acc2) ++ (34 :: (esc y ++ [34])) by simp] at H
        refine ⟨(by repeat (first | exact trivial | refine ⟨rfl, ?_⟩)), (j + 1, o5, (acc2) ++ (34 :: (esc y ++ [34]))), ⟨rfl, ?_, rfl, trivial⟩, ⟨by dsimp only; omega, ?_, ?_, H.sx⟩, by dsimp only; omega⟩
        · show some (Value.int .i64 _) = some (.int .i64 _)
          congr 2
        · dsimp only
          rw [hstep, hout]
        · dsimp only
          first | omega | (simp only [List.length_append, List.length_cons, List.length_nil]; omega)
    | false =>
      (first | (refine H.wg ?_; clear H; intros; rename_i w H; constructor) | refine wk ?_)
      refine (has_ref H.data hq0 (by rw [List.length_map]; omega) ((N + j : Nat) : Int)).use ?_
      rintro v w ⟨rfl, K⟩
      (have hKb := K.base; replace H := Rel.call H K)
      simp only [List.nil_append] at H
      rw [nz_mem]
      cases hZ : Z.contains (N + j) with
      | true =>
        have hq : (tNeeds (sepB n) y || Z.contains (N + j)) = true := by rw [hZ, Bool.or_true]
        have hout : outC (wrC (sepB n) Z (N + j) y) = 34 :: (esc y ++ [34]) := by unfold wrC outC; rw [hq]; rfl
        (first | (refine H.wh ?_; clear H; intros; rename_i w H; constructor) | refine wk ?_)
        ((first | refine Rel.nwD H ?_ | refine Rel.nw H ?_); clear H; intro w b86 H)
        (first | (refine H.wg ?_; clear H; intros; rename_i w H; constructor) | refine wk ?_)
        refine Rel.app1_0 (f := byC) (s := o2) (l := (acc2)) (x := 34) tabOk rfl rfl rfl rfl rfl (by decide) (fun _ => rfl) (by simp [Value.oneCell']) H (by show (_ + 1) * 1 ≤ _; first | omega | (simp only [List.length_append, List.length_cons, List.length_nil]; omega)) (by first | omega | (simp only [List.length_append, List.length_cons, List.length_nil]; omega)) ?_
        clear H
        intro o3 w H
        (first | (refine H.wg ?_; clear H; intros; rename_i w H; constructor) | refine wk ?_)
        refine loop_inv (S := Nat × Sl) tabOk [0, 1, 2, 4, 5, 6, 7, 8, 9, 11, 12, 13, 14, 16, 17, 18, 21, 24, 37, 42, 53, 57, 81, 123, 129] (fun z => [(10, z.2.v), (15, iv z.1)]) (fun z w' => z.1 ≤ y.length ∧ (esc (y.take z.1)).length ≤ 2 * z.1 ∧ Rel W V [.row z.2 5 1 (((acc2) ++ [34] ++ esc (y.take z.1)).flatMap byC), .blk b2 [iv kd, iv nn, bs.v, ss.v, pl.v] 27] V4 w') (fun z _ => y.length - z.1) (0, o3) ?_
        (conv => whnf)
        refine ⟨(by repeat (first | exact trivial | refine ⟨rfl, ?_⟩)), ⟨by omega, by simp [esc], by dsimp only; rw [List.take_zero, show esc [] = [] from rfl, List.append_nil]; exact H⟩, ?_⟩
        clear H
        rintro ⟨m, o4⟩ w ⟨hm, hel, H⟩
        dsimp only at hm hel H ⊢
        by_cases hml : m < y.length
        · obtain ⟨p3, c3⟩ := hy.at1 (g := bv) (fun _ => rfl) hml
          obtain ⟨x, hx⟩ : ∃ x, x = y[m] := ⟨_, rfl⟩
          rw [← hx] at c3
          have hsn := esc_snoc x (y.take m)
          rw [hx, ← List.take_succ_eq_append_getElem hml, ← hx] at hsn
          by_cases e34 : x.toNat = 34
          · obtain rfl : x = 34 := UInt8.toNat_inj.1 (by rw [e34]; rfl)
            change V4.cell? _ = some (bv 34) at c3
            rw [if_pos rfl] at hsn
            (first | (refine H.wh ?_; clear H; intros; rename_i w H; constructor) | refine wk ?_)
            ((first | refine Rel.nwD H ?_ | refine Rel.nw H ?_); clear H; intro w b100 H)
            (first | (refine H.wg ?_; clear H; intros; rename_i w H; constructor) | refine wk ?_)
            refine Rel.app1_0 (f := byC) (s := o4) (l := ((acc2) ++ [34] ++ esc (y.take m))) (x := 34) tabOk rfl rfl rfl rfl rfl (by decide) (fun _ => rfl) (by simp [Value.oneCell']) H (by show (_ + 1) * 1 ≤ _; first | omega | (simp only [List.length_append, List.length_cons, List.length_nil]; omega)) (by first | omega | (simp only [List.length_append, List.length_cons, List.length_nil]; omega)) ?_
            clear H
            intro o5 w H
            (first | (refine H.wh ?_; clear H; intros; rename_i w H; constructor) | refine wk ?_)
            ((first | refine Rel.nwD H ?_ | refine Rel.nw H ?_); clear H; intro w b107 H)
            (first | (refine H.wg ?_; clear H; intros; rename_i w H; constructor) | refine wk ?_)
            refine Rel.app1_0 (f := byC) (s := o5) (l := ((acc2) ++ [34] ++ esc (y.take m) ++ [34])) (x := 34) tabOk rfl rfl rfl rfl rfl (by decide) (fun _ => rfl) (by simp [Value.oneCell']) H (by show (_ + 1) * 1 ≤ _; first | omega | (simp only [List.length_append, List.length_cons, List.length_nil]; omega)) (by first | omega | (simp only [List.length_append, List.length_cons, List.length_nil]; omega)) ?_
            clear H
            intro o6 w H
            (first | (refine H.wg ?_; clear H; intros; rename_i w H; constructor) | refine wk ?_)
            refine ⟨(by repeat (first | exact trivial | refine ⟨rfl, ?_⟩)), (m + 1, o6), (by repeat (first | exact trivial | refine ⟨rfl, ?_⟩)), ⟨by dsimp only; omega, ?_, ?_⟩, by dsimp only; omega⟩
            · dsimp only
              rw [hsn]
              simp only [List.length_append, List.length_cons, List.length_nil]
              omega
            · dsimp only
              rw [hsn]
              have e : (acc2) ++ [34] ++ (esc (y.take m) ++ [34, 34]) = (acc2) ++ [34] ++ esc (y.take m) ++ [34] ++ [34] := by simp
              rw [e]
              exact H
          · rw [if_neg (fun h => e34 (by rw [h]; rfl))] at hsn
            (first | (refine H.wh ?_; clear H; intros; rename_i w H; constructor) | refine wk ?_)
            ((first | refine Rel.nwD H ?_ | refine Rel.nw H ?_); clear H; intro w b107 H)
            (first | (refine H.wg ?_; clear H; intros; rename_i w H; constructor) | refine wk ?_)
            refine Rel.app1_0 (f := byC) (s := o4) (l := ((acc2) ++ [34] ++ esc (y.take m))) (x := x) tabOk rfl rfl rfl rfl rfl (by decide) (fun _ => rfl) (by simp [Value.oneCell']) H (by show (_ + 1) * 1 ≤ _; first | omega | (simp only [List.length_append, List.length_cons, List.length_nil]; omega)) (by first | omega | (simp only [List.length_append, List.length_cons, List.length_nil]; omega)) ?_
            clear H
            intro o6 w H
            (first | (refine H.wg ?_; clear H; intros; rename_i w H; constructor) | refine wk ?_)
            refine ⟨(by repeat (first | exact trivial | refine ⟨rfl, ?_⟩)), (m + 1, o6), (by repeat (first | exact trivial | refine ⟨rfl, ?_⟩)), ⟨by dsimp only; omega, ?_, ?_⟩, by dsimp only; omega⟩
            · dsimp only
              rw [hsn]
              simp only [List.length_append, List.length_cons, List.length_nil]
              omega
            · dsimp only
              rw [hsn, ← List.append_assoc]
              exact H
        · rw [List.take_of_length_le (by omega)] at hel H
          (first | (refine H.wh ?_; clear H; intros; rename_i w H; constructor) | refine wk ?_)
          ((first | refine Rel.nwD H ?_ | refine Rel.nw H ?_); clear H; intro w b110 H)
          (first | (refine H.wg ?_; clear H; intros; rename_i w H; constructor) | refine wk ?_)
          refine Rel.app1_0 (f := byC) (s := o4) (l := ((acc2) ++ [34] ++ esc y)) (x := 34) tabOk rfl rfl rfl rfl rfl (by decide) (fun _ => rfl) (by simp [Value.oneCell']) H (by show (_ + 1) * 1 ≤ _; first | omega | (simp only [List.length_append, List.length_cons, List.length_nil]; omega)) (by first | omega | (simp only [List.length_append, List.length_cons, List.length_nil]; omega)) ?_
          clear H
          intro o5 w H
          (first | (refine H.wg ?_; clear H; intros; rename_i w H; constructor) | refine wk ?_)
          rw [show (acc2) ++ [34] ++ esc y ++ [34] = (acc2) ++ (34 :: (esc y ++ [34])) by simp] at H
          refine ⟨(by repeat (first | exact trivial | refine ⟨rfl, ?_⟩)), (j + 1, o5, (acc2) ++ (34 :: (esc y ++ [34]))), ⟨rfl, ?_, rfl, trivial⟩, ⟨by dsimp only; omega, ?_, ?_, H.sx⟩, by dsimp only; omega⟩
          · show some (Value.int .i64 _) = some (.int .i64 _)
            congr 2
          · dsimp only
            rw [hstep, hout]
          · dsimp only
            first | omega | (simp only [List.length_append, List.length_cons, List.length_nil]; omega)
      | false =>
        have hout : outC (wrC (sepB n) Z (N + j) y) = y := by unfold wrC outC; rw [hN, hZ]; rfl
        (first | (refine H.wg ?_; clear H; intros; rename_i w H; constructor) | refine wk ?_)
        refine Rel.appD H (i := 0) rfl hy (by first | omega | (simp only [List.length_append, List.length_cons, List.length_nil]; omega)) ?_
        clear H
        intro o4 w H
        simp only [List.set_cons_zero] at H
        (first | (refine H.wg ?_; clear H; intros; rename_i w H; constructor) | refine wk ?_)
        refine ⟨(by repeat (first | exact trivial | refine ⟨rfl, ?_⟩)), (j + 1, o4, (acc2) ++ y), ⟨rfl, ?_, rfl, trivial⟩, ⟨by dsimp only; omega, ?_, ?_, H.sx⟩, by dsimp only; omega⟩
        · show some (Value.int .i64 _) = some (.int .i64 _)
          congr 2
        · dsimp only
          rw [hstep, hout]
        · dsimp only
          first | omega | (simp only [List.length_append, List.length_cons, List.length_nil]; omega)
  · have hstep : acc ++ outR (sepB n) (rm.take (j + 1)) = (acc2 ++ [sepB n]) ++ outC (wrC (sepB n) Z (N + j) y) := by
      rw [hrt, hacc2, outR_snoc _ _ (List.ne_nil_of_length_pos (by rw [List.length_take]; omega))]
      simp
    (first | (refine H.wh ?_; clear H; intros; rename_i w H; constructor) | refine wk ?_)
    ((first | refine Rel.nwD H ?_ | refine Rel.nw H ?_); clear H; intro w b60 H)
    (first | (refine H.wg ?_; clear H; intros; rename_i w H; constructor) | refine wk ?_)
    refine Rel.app1_0 (f := byC) (s := o2) (l := acc2) (x := (sepB n)) tabOk rfl rfl rfl rfl rfl (by decide) (fun _ => rfl) (by simp [Value.oneCell']) H (by show (_ + 1) * 1 ≤ _; first | omega | (simp only [List.length_append, List.length_cons, List.length_nil]; omega)) (by first | omega | (simp only [List.length_append, List.length_cons, List.length_nil]; omega)) ?_
    clear H
    intro o1 w H
    (first | (refine H.wg ?_; clear H; intros; rename_i w H; constructor) | refine wk ?_)
    refine (needsQuotes_ref H.data hy hyl2 (sepB n)).use ?_
    rintro v w ⟨rfl, K⟩
    (have hKb := K.base; replace H := Rel.call H K)
    simp only [List.nil_append] at H
    cases hN : tNeeds (sepB n) y with
    | true =>
      have hq : (tNeeds (sepB n) y || Z.contains (N + j)) = true := by rw [hN]; rfl
      have hout : outC (wrC (sepB n) Z (N + j) y) = 34 :: (esc y ++ [34]) := by unfold wrC outC; rw [hq]; rfl
      (first | (refine H.wh ?_; clear H; intros; rename_i w H; constructor) | refine wk ?_)
      ((first | refine Rel.nwD H ?_ | refine Rel.nw H ?_); clear H; intro w b86 H)
      (first | (refine H.wg ?_; clear H; intros; rename_i w H; constructor) | refine wk ?_)
      refine Rel.app1_0 (f := byC) (s := o1) (l := (acc2 ++ [sepB n])) (x := 34) tabOk rfl rfl rfl rfl rfl (by decide) (fun _ => rfl) (by simp [Value.oneCell']) H (by show (_ + 1) * 1 ≤ _; first | omega | (simp only [List.length_append, List.length_cons, List.length_nil]; omega)) (by first | omega | (simp only [List.length_append, List.length_cons, List.length_nil]; omega)) ?_
      clear H
      intro o3 w H
      (first | (refine H.wg ?_; clear H; intros; rename_i w H; constructor) | refine wk ?_)
      refine loop_inv (S := Nat × Sl) tabOk [0, 1, 2, 4, 5, 6, 7, 8, 9, 11, 12, 13, 14, 16, 17, 18, 21, 24, 37, 42, 53, 57, 81, 123, 129] (fun z => [(10, z.2.v), (15, iv z.1)]) (fun z w' => z.1 ≤ y.length ∧ (esc (y.take z.1)).length ≤ 2 * z.1 ∧ Rel W V [.row z.2 5 1 (((acc2 ++ [sepB n]) ++ [34] ++ esc (y.take z.1)).flatMap byC), .blk b2 [iv kd, iv nn, bs.v, ss.v, pl.v] 27] V4 w') (fun z _ => y.length - z.1) (0, o3) ?_
      (conv => whnf)
      refine ⟨(by repeat (first | exact trivial | refine ⟨rfl, ?_⟩)), ⟨by omega, by simp [esc], by dsimp only; rw [List.take_zero, show esc [] = [] from rfl, List.append_nil]; exact H⟩, ?_⟩
      clear H
      rintro ⟨m, o4⟩ w ⟨hm, hel, H⟩
      dsimp only at hm hel H ⊢
      by_cases hml : m < y.length
      · obtain ⟨p3, c3⟩ := hy.at1 (g := bv) (fun _ => rfl) hml
        obtain ⟨x, hx⟩ : ∃ x, x = y[m] := ⟨_, rfl⟩
        rw [← hx] at c3
        have hsn := esc_snoc x (y.take m)
        rw [hx, ← List.take_succ_eq_append_getElem hml, ← hx] at hsn
        by_cases e34 : x.toNat = 34
        · obtain rfl : x = 34 := UInt8.toNat_inj.1 (by rw [e34]; rfl)
          change V4.cell? _ = some (bv 34) at c3
          rw [if_pos rfl] at hsn
          (first | (refine H.wh ?_; clear H; intros; rename_i w H; constructor) | refine wk ?_)
          ((first | refine Rel.nwD H ?_ | refine Rel.nw H ?_); clear H; intro w b100 H)
          (first | (refine H.wg ?_; clear H; intros; rename_i w H; constructor) | refine wk ?_)
          refine Rel.app1_0 (f := byC) (s := o4) (l := ((acc2 ++ [sepB n]) ++ [34] ++ esc (y.take m))) (x := 34) tabOk rfl rfl rfl rfl rfl (by decide) (fun _ => rfl) (by simp [Value.oneCell']) H (by show (_ + 1) * 1 ≤ _; first | omega | (simp only [List.length_append, List.length_cons, List.length_nil]; omega)) (by first | omega | (simp only [List.length_append, List.length_cons, List.length_nil]; omega)) ?_
          clear H
          intro o5 w H
          (first | (refine H.wh ?_; clear H; intros; rename_i w H; constructor) | refine wk ?_)
          ((first | refine Rel.nwD H ?_ | refine Rel.nw H ?_); clear H; intro w b107 H)
          (first | (refine H.wg ?_; clear H; intros; rename_i w H; constructor) | refine wk ?_)
          refine Rel.app1_0 (f := byC) (s := o5) (l := ((acc2 ++ [sepB n]) ++ [34] ++ esc (y.take m) ++ [34])) (x := 34) tabOk rfl rfl rfl rfl rfl (by decide) (fun _ => rfl) (by simp [Value.oneCell']) H (by show (_ + 1) * 1 ≤ _; first | omega | (simp only [List.length_append, List.length_cons, List.length_nil]; omega)) (by first | omega | (simp only [List.length_append, List.length_cons, List.length_nil]; omega)) ?_
          clear H
          intro o6 w H
          (first | (refine H.wg ?_; clear H; intros; rename_i w H; constructor) | refine wk ?_)
          refine ⟨(by repeat (first | exact trivial | refine ⟨rfl, ?_⟩)), (m + 1, o6), (by repeat (first | exact trivial | refine ⟨rfl, ?_⟩)), ⟨by dsimp only; omega, ?_, ?_⟩, by dsimp only; omega⟩
          · dsimp only
            rw [hsn]
            simp only [List.length_append, List.length_cons, List.length_nil]
            omega
          · dsimp only
            rw [hsn]
            have e : (acc2 ++ [sepB n]) ++ [34] ++ (esc (y.take m) ++ [34, 34]) = (acc2 ++ [sepB n]) ++ [34] ++ esc (y.take m) ++ [34] ++ [34] := by simp
            rw [e]
            exact H
        · rw [if_neg (fun h => e34 (by rw [h]; rfl))] at hsn
          (first | (refine H.wh ?_; clear H; intros; rename_i w H; constructor) | refine wk ?_)
          ((first | refine Rel.nwD H ?_ | refine Rel.nw H ?_); clear H; intro w b107 H)
          (first | (refine H.wg ?_; clear H; intros; rename_i w H; constructor) | refine wk ?_)
          refine Rel.app1_0 (f := byC) (s := o4) (l := ((acc2 ++ [sepB n]) ++ [34] ++ esc (y.take m))) (x := x) tabOk rfl rfl rfl rfl rfl (by decide) (fun _ => rfl) (by simp [Value.oneCell']) H (by show (_ + 1) * 1 ≤ _; first | omega | (simp only [List.length_append, List.length_cons, List.length_nil]; omega)) (by first | omega | (simp only [List.length_append, List.length_cons, List.length_nil]; omega)) ?_
          clear H
          intro o6 w H
          (first | (refine H.wg ?_; clear H; intros; rename_i w H; constructor) | refine wk ?_)
          refine ⟨(by repeat (first | exact trivial | refine ⟨rfl, ?_⟩)), (m + 1, o6), (by repeat (first | exact trivial | refine ⟨rfl, ?_⟩)), ⟨by dsimp only; omega, ?_, ?_⟩, by dsimp only; omega⟩
          · dsimp only
            rw [hsn]
            simp only [List.length_append, List.length_cons, List.length_nil]
            omega
          · dsimp only
            rw [hsn, ← List.append_assoc]
            exact H
      · rw [List.take_of_length_le (by omega)] at hel H
        (first | (refine H.wh ?_; clear H; intros; rename_i w H; constructor) | refine wk ?_)
        ((first | refine Rel.nwD H ?_ | refine Rel.nw H ?_); clear H; intro w b110 H)
        (first | (refine H.wg ?_; clear H; intros; rename_i w H; constructor) | refine wk ?_)
        refine Rel.app1_0 (f := byC) (s := o4) (l := ((acc2 ++ [sepB n]) ++ [34] ++ esc y)) (x := 34) tabOk rfl rfl rfl rfl rfl (by decide) (fun _ => rfl) (by simp [Value.oneCell']) H (by show (_ + 1) * 1 ≤ _; first | omega | (simp only [List.length_append, List.length_cons, List.length_nil]; omega)) (by first | omega | (simp only [List.length_append, List.length_cons, List.length_nil]; omega)) ?_
        clear H
        intro o5 w H
        (first | (refine H.wg ?_; clear H; intros; rename_i w H; constructor) | refine wk ?_)
        rw [show (acc2 ++ [sepB n]) ++ [34] ++ esc y ++ [34] = (acc2 ++ [sepB n]) ++ (34 :: (esc y ++ [34])) by simp] at H
        refine ⟨(by repeat (first | exact trivial | refine ⟨rfl, ?_⟩)), (j + 1, o5, (acc2 ++ [sepB n]) ++ (34 :: (esc y ++ [34]))), ⟨rfl, ?_, rfl, trivial⟩, ⟨by dsimp only; omega, ?_, ?_, H.sx⟩, by dsimp only; omega⟩
        · show some (Value.int .i64 _) = some (.int .i64 _)
          congr 2
        · dsimp only
          rw [hstep, hout]
        · dsimp only
          first | omega | (simp only [List.length_append, List.length_cons, List.length_nil]; omega)
    | false =>
      (first | (refine H.wg ?_; clear H; intros; rename_i w H; constructor) | refine wk ?_)
      refine (has_ref H.data hq0 (by rw [List.length_map]; omega) ((N + j : Nat) : Int)).use ?_
      rintro v w ⟨rfl, K⟩
      (have hKb := K.base; replace H := Rel.call H K)
      simp only [List.nil_append] at H
      rw [nz_mem]
      cases hZ : Z.contains (N + j) with
      | true =>
        have hq : (tNeeds (sepB n) y || Z.contains (N + j)) = true := by rw [hZ, Bool.or_true]
        have hout : outC (wrC (sepB n) Z (N + j) y) = 34 :: (esc y ++ [34]) := by unfold wrC outC; rw [hq]; rfl
        (first | (refine H.wh ?_; clear H; intros; rename_i w H; constructor) | refine wk ?_)
        ((first | refine Rel.nwD H ?_ | refine Rel.nw H ?_); clear H; intro w b86 H)
        (first | (refine H.wg ?_; clear H; intros; rename_i w H; constructor) | refine wk ?_)
        refine Rel.app1_0 (f := byC) (s := o1) (l := (acc2 ++ [sepB n])) (x := 34) tabOk rfl rfl rfl rfl rfl (by decide) (fun _ => rfl) (by simp [Value.oneCell']) H (by show (_ + 1) * 1 ≤ _; first | omega | (simp only [List.length_append, List.length_cons, List.length_nil]; omega)) (by first | omega | (simp only [List.length_append, List.length_cons, List.length_nil]; omega)) ?_
        clear H
        intro o3 w H
        (first | (refine H.wg ?_; clear H; intros; rename_i w H; constructor) | refine wk ?_)
        refine loop_inv (S := Nat × Sl) tabOk [0, 1, 2, 4, 5, 6, 7, 8, 9, 11, 12, 13, 14, 16, 17, 18, 21, 24, 37, 42, 53, 57, 81, 123, 129] (fun z => [(10, z.2.v), (15, iv z.1)]) (fun z w' => z.1 ≤ y.length ∧ (esc (y.take z.1)).length ≤ 2 * z.1 ∧ Rel W V [.row z.2 5 1 (((acc2 ++ [sepB n]) ++ [34] ++ esc (y.take z.1)).flatMap byC), .blk b2 [iv kd, iv nn, bs.v, ss.v, pl.v] 27] V4 w') (fun z _ => y.length - z.1) (0, o3) ?_
        (conv => whnf)
        refine ⟨(by repeat (first | exact trivial | refine ⟨rfl, ?_⟩)), ⟨by omega, by simp [esc], by dsimp only; rw [List.take_zero, show esc [] = [] from rfl, List.append_nil]; exact H⟩, ?_⟩
        clear H
        rintro ⟨m, o4⟩ w ⟨hm, hel, H⟩
        dsimp only at hm hel H ⊢
        by_cases hml : m < y.length
        · obtain ⟨p3, c3⟩ := hy.at1 (g := bv) (fun _ => rfl) hml
          obtain ⟨x, hx⟩ : ∃ x, x = y[m] := ⟨_, rfl⟩
          rw [← hx] at c3
          have hsn := esc_snoc x (y.take m)
          rw [hx, ← List.take_succ_eq_append_getElem hml, ← hx] at hsn
          by_cases e34 : x.toNat = 34
          · obtain rfl : x = 34 := UInt8.toNat_inj.1 (by rw [e34]; rfl)
            change V4.cell? _ = some (bv 34) at c3
            rw [if_pos rfl] at hsn
            (first | (refine H.wh ?_; clear H; intros; rename_i w H; constructor) | refine wk ?_)
            ((first | refine Rel.nwD H ?_ | refine Rel.nw H ?_); clear H; intro w b100 H)
            (first | (refine H.wg ?_; clear H; intros; rename_i w H; constructor) | refine wk ?_)
            refine Rel.app1_0 (f := byC) (s := o4) (l := ((acc2 ++ [sepB n]) ++ [34] ++ esc (y.take m))) (x := 34) tabOk rfl rfl rfl rfl rfl (by decide) (fun _ => rfl) (by simp [Value.oneCell']) H (by show (_ + 1) * 1 ≤ _; first | omega | (simp only [List.length_append, List.length_cons, List.length_nil]; omega)) (by first | omega | (simp only [List.length_append, List.length_cons, List.length_nil]; omega)) ?_
            clear H
            intro o5 w H
            (first | (refine H.wh ?_; clear H; intros; rename_i w H; constructor) | refine wk ?_)
            ((first | refine Rel.nwD H ?_ | refine Rel.nw H ?_); clear H; intro w b107 H)
            (first | (refine H.wg ?_; clear H; intros; rename_i w H; constructor) | refine wk ?_)
            refine Rel.app1_0 (f := byC) (s := o5) (l := ((acc2 ++ [sepB n]) ++ [34] ++ esc (y.take m) ++ [34])) (x := 34) tabOk rfl rfl rfl rfl rfl (by decide) (fun _ => rfl) (by simp [Value.oneCell']) H (by show (_ + 1) * 1 ≤ _; first | omega | (simp only [List.length_append, List.length_cons, List.length_nil]; omega)) (by first | omega | (simp only [List.length_append, List.length_cons, List.length_nil]; omega)) ?_
            clear H
            intro o6 w H
            (first | (refine H.wg ?_; clear H; intros; rename_i w H; constructor) | refine wk ?_)
            refine ⟨(by repeat (first | exact trivial | refine ⟨rfl, ?_⟩)), (m + 1, o6), (by repeat (first | exact trivial | refine ⟨rfl, ?_⟩)), ⟨by dsimp only; omega, ?_, ?_⟩, by dsimp only; omega⟩
            · dsimp only
              rw [hsn]
              simp only [List.length_append, List.length_cons, List.length_nil]
              omega
            · dsimp only
              rw [hsn]
              have e : (acc2 ++ [sepB n]) ++ [34] ++ (esc (y.take m) ++ [34, 34]) = (acc2 ++ [sepB n]) ++ [34] ++ esc (y.take m) ++ [34] ++ [34] := by simp
              rw [e]
              exact H
          · rw [if_neg (fun h => e34 (by rw [h]; rfl))] at hsn
            (first | (refine H.wh ?_; clear H; intros; rename_i w H; constructor) | refine wk ?_)
            ((first | refine Rel.nwD H ?_ | refine Rel.nw H ?_); clear H; intro w b107 H)
            (first | (refine H.wg ?_; clear H; intros; rename_i w H; constructor) | refine wk ?_)
            refine Rel.app1_0 (f := byC) (s := o4) (l := ((acc2 ++ [sepB n]) ++ [34] ++ esc (y.take m))) (x := x) tabOk rfl rfl rfl rfl rfl (by decide) (fun _ => rfl) (by simp [Value.oneCell']) H (by show (_ + 1) * 1 ≤ _; first | omega | (simp only [List.length_append, List.length_cons, List.length_nil]; omega)) (by first | omega | (simp only [List.length_append, List.length_cons, List.length_nil]; omega)) ?_
            clear H
            intro o6 w H
            (first | (refine H.wg ?_; clear H; intros; rename_i w H; constructor) | refine wk ?_)
            refine ⟨(by repeat (first | exact trivial | refine ⟨rfl, ?_⟩)), (m + 1, o6), (by repeat (first | exact trivial | refine ⟨rfl, ?_⟩)), ⟨by dsimp only; omega, ?_, ?_⟩, by dsimp only; omega⟩
            · dsimp only
              rw [hsn]
              simp only [List.length_append, List.length_cons, List.length_nil]
              omega
            · dsimp only
              rw [hsn, ← List.append_assoc]
              exact H
        · rw [List.take_of_length_le (by omega)] at hel H
          (first | (refine H.wh ?_; clear H; intros; rename_i w H; constructor) | refine wk ?_)
          ((first | refine Rel.nwD H ?_ | refine Rel.nw H ?_); clear H; intro w b110 H)
          (first | (refine H.wg ?_; clear H; intros; rename_i w H; constructor) | refine wk ?_)
          refine Rel.app1_0 (f := byC) (s := o4) (l := ((acc2 ++ [sepB n]) ++ [34] ++ esc y)) (x := 34) tabOk rfl rfl rfl rfl rfl (by decide) (fun _ => rfl) (by simp [Value.oneCell']) H (by show (_ + 1) * 1 ≤ _; first | omega | (simp only [List.length_append, List.length_cons, List.length_nil]; omega)) (by first | omega | (simp only [List.length_append, List.length_cons, List.length_nil]; omega)) ?_
          clear H
          intro o5 w H
          (first | (refine H.wg ?_; clear H; intros; rename_i w H; constructor) | refine wk ?_)
          rw [show (acc2 ++ [sepB n]) ++ [34] ++ esc y ++ [34] = (acc2 ++ [sepB n]) ++ (34 :: (esc y ++ [34])) by simp] at H
          refine ⟨(by repeat (first | exact trivial | refine ⟨rfl, ?_⟩)), (j + 1, o5, (acc2 ++ [sepB n]) ++ (34 :: (esc y ++ [34]))), ⟨rfl, ?_, rfl, trivial⟩, ⟨by dsimp only; omega, ?_, ?_, H.sx⟩, by dsimp only; omega⟩
          · show some (Value.int .i64 _) = some (.int .i64 _)
            congr 2
          · dsimp only
            rw [hstep, hout]
          · dsimp only
            first | omega | (simp only [List.length_append, List.length_cons, List.length_nil]; omega)
      | false =>
        have hout : outC (wrC (sepB n) Z (N + j) y) = y := by unfold wrC outC; rw [hN, hZ]; rfl
        (first | (refine H.wg ?_; clear H; intros; rename_i w H; constructor) | refine wk ?_)
        refine Rel.appD H (i := 0) rfl hy (by first | omega | (simp only [List.length_append, List.length_cons, List.length_nil]; omega)) ?_
        clear H
        intro o4 w H
        simp only [List.set_cons_zero] at H
        (first | (refine H.wg ?_; clear H; intros; rename_i w H; constructor) | refine wk ?_)
        refine ⟨(by repeat (first | exact trivial | refine ⟨rfl, ?_⟩)), (j + 1, o4, (acc2 ++ [sepB n]) ++ y), ⟨rfl, ?_, rfl, trivial⟩, ⟨by dsimp only; omega, ?_, ?_, H.sx⟩, by dsimp only; omega⟩
        · show some (Value.int .i64 _) = some (.int .i64 _)
          congr 2
        · dsimp only
          rw [hstep, hout]
        · dsimp only
          first | omega | (simp only [List.length_append, List.length_cons, List.length_nil]; omega)
end
end Go.Proofs.YtkfcdjomkcmkeaaGreatDoor
