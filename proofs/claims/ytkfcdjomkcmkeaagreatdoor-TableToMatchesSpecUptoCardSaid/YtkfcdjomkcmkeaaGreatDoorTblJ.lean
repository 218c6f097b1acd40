/-
  Files of tables, the reference: TableTo.
-/
import Derived.Test.YtkfcdjomkcmkeaaGreatDoorTblI
namespace Go.Proofs.YtkfcdjomkcmkeaaGreatDoor
open Go Go.RowKit

section
variable {V W : World}
theorem suitT_cons {k : Bool} {r : List Cel} {R : List (List Cel)} {o : Bool} : suitT k (r :: R) o = (decide (2 ≤ r.length) && (!k || decide (1 < R.length + 1) || !o)) := by
  unfold suitT
  rw [List.length_cons, decide_eq_true (Nat.succ_pos _), Bool.true_and]
  rfl
theorem tblTo_no {l : List UInt8} (h : ∀ j, j < 6 → tblOne j l = none) : tblTo l = none := by
  have e : tblFind l = none := tblFrom_no (Nat.le_refl _) fun j _ h2 => h j h2
  unfold tblTo
  rw [e]
theorem tblTo_hit {l : List UInt8} {i : Nat} {R : List (List Cel)} {o : Bool} (hi : i < 6) (h : ∀ j, j < i → tblOne j l = none) (h2 : tblOne i l = some (R, o)) : tblTo l = tblAns i R o := by
  have e : tblFind l = some (i, R, o) := tblFrom_hit (Nat.le_refl _) (by omega) hi (fun j _ h3 => h j h3) h2
  unfold tblTo
  rw [e]
set_option maxRecDepth 100000 in
set_option maxHeartbeats 4000000 in
theorem tblTo_ref (hV : Sub V W) {s : Sl} {l : List UInt8} (hs : Byt V s l) (hl : l.length ≤ 1000) : Ret Tryz.prog 9 [s.v].toArray W (ToG W V (tblTo l)) := by
  have H := Rel.start hV
  have hlen := hs.len
  refine cal_of_vc tabOk Tryz.func9 rfl (by kernel_rfl) 80 rfl (by simp) [0, 2, 3, 4, 5, 6, 7, 8, 9, 11, 55, 62, 71] ?_
  (first | (refine H.wh ?_; clear H; intros; rename_i w H; constructor) | refine wk ?_)
  ((first | refine Rel.nwD H ?_ | refine Rel.nw H ?_); clear H; intro w b2 H)
  (first | (refine H.wg ?_; clear H; intros; rename_i w H; constructor) | refine wk ?_)
  refine loop_inv (S := Nat) tabOk [0, 2] (fun n => [(5, iv n)]) (fun n w' => n ≤ 6 ∧ (∀ g, g < n → tblOne g l = none) ∧ ∃ V2, Sub V V2 ∧ Rel W V [.blk b2 (valC zeroH) 27] V2 w') (fun n _ => 6 - n) 0 ?_
  (conv => whnf)
  refine ⟨(by repeat (first | exact trivial | refine ⟨rfl, ?_⟩)), ⟨by omega, fun g hg => by omega, V, Sub.refl _, H⟩, ?_⟩
  clear H
  rintro n w ⟨hn6, hno, V2, hV2, H⟩
  by_cases hn : n < 6
  rotate_left
  · obtain rfl : n = 6 := by omega
    rw [tblTo_no hno]
    (first | (refine H.wg ?_; clear H; intros; rename_i w H; constructor) | refine wk ?_)
    exact ⟨V2, zeroH, ⟨none, 0, 0⟩, zeroV, [], hV2, H.sx, valAt_zero _, SlF.nil _ _, rfl⟩
  (first | (refine H.wg ?_; clear H; intros; rename_i w H; constructor) | refine wk ?_)
  rw [show ((n : Nat) : Int) / 2 = ((n / 2 : Nat) : Int) by omega]
  refine (separatorAt_ref H.data (n := n / 2) (by omega)).use ?_
  rintro v w ⟨rfl, K⟩
  (have hKb := K.base; replace H := H.call0 K)
  (first | (refine H.wg ?_; clear H; intros; rename_i w H; constructor) | refine wk ?_)
  rw [show decide (((n : Nat) : Int) % 2 = 1) = crT n from decide_eq_decide.2 (by omega)]
  refine (sheet_ref H.data (n := n / 2) (crT n) (hs.up hV2) hl).use ?_
  rintro v w ⟨V3, rs, qs, o, g, hV3, K, rfl, hres⟩
  (have hKb := K.base; replace H := Rel.call H K)
  simp only [List.cons_append, List.nil_append] at H
  have hV23 := hV2.trans hV3
  (first | (refine H.wh ?_; clear H; intros; rename_i w H; constructor) | refine wk ?_)
  ((first | refine Rel.nwD H ?_ | refine Rel.nw H ?_); clear H; intro w b6 H)
  cases hr : rdFile (sepB (n / 2)) (tEnd (crT n)) l with
  | none =>
    rw [hr] at hres
    dsimp only at hres
    subst hres
    have hone : tblOne n l = none := by unfold tblOne; rw [hr]
    (first | (refine H.wg ?_; clear H; intros; rename_i w H; constructor) | refine wk ?_)
    exact ⟨(by repeat (first | exact trivial | refine ⟨rfl, ?_⟩)), n + 1, (by repeat (first | exact trivial | refine ⟨rfl, ?_⟩)), ⟨by omega, fun g hg => by
      by_cases e : g = n
      · rw [e]; exact hone
      · exact hno g (by omega), V3, hV23, H.sx⟩, by omega⟩
  | some y =>
    obtain ⟨R, op⟩ := y
    rw [hr] at hres
    obtain ⟨rfl, hop, hrs, hqs⟩ := hres
    dsimp only at hop hrs hqs
    have hbad : suitT (crT n) R op = false → tblOne n l = none := fun h => by unfold tblOne; rw [hr]; simp only; rw [if_neg (by rw [h]; decide)]
    have hrl := hrs.len
    rw [List.length_map] at hrl
    obtain ⟨q1, q2, q3⟩ := fileB_len (s := sepB (n / 2)) (tEnd_ne (crT n)) op R
    rw [← (rdFile_some hr).1] at q1 q3
    cases R with
    | nil =>
      have hone := hbad (by unfold suitT; simp)
      rw [List.length_nil] at hrl
      (first | (refine H.wg ?_; clear H; intros; rename_i w H; constructor) | refine wk ?_)
      exact ⟨(by repeat (first | exact trivial | refine ⟨rfl, ?_⟩)), n + 1, (by repeat (first | exact trivial | refine ⟨rfl, ?_⟩)), ⟨by omega, fun g hg => by
        by_cases e : g = n
        · rw [e]; exact hone
        · exact hno g (by omega), V3, hV23, H.sx⟩, by omega⟩
    | cons r0 R =>
      obtain rfl : o = op := hop (by simp)
      rw [List.length_cons] at hrl
      obtain ⟨xs, h1, h2⟩ := id hrs
      have hxl := h1.len
      obtain ⟨p0, c0⟩ := h1.at1 (g := fun x : Sl => x.v) (fun _ => rfl) (i := 0) (by omega)
      obtain ⟨x, hx⟩ : ∃ x, x = xs[0]'(by omega) := ⟨_, rfl⟩
      have hx0 := h2.all 0 (xs[0]'(by omega)) (r0.map Prod.fst) (List.getElem?_eq_getElem _) rfl
      rw [← hx] at c0 hx0
      obtain ⟨gs, g1, g2⟩ := hx0
      have hx0l := g1.len
      rw [g2.len, List.length_map] at hx0l
      have hrl2 : rs.len = R.length + 1 := hrl
      by_cases hr2 : 2 ≤ r0.length
      rotate_left
      · have hone := hbad (by rw [suitT_cons, decide_eq_false hr2, Bool.false_and])
        (first | (refine H.wg ?_; clear H; intros; rename_i w H; constructor) | refine wk ?_)
        exact ⟨(by repeat (first | exact trivial | refine ⟨rfl, ?_⟩)), n + 1, (by repeat (first | exact trivial | refine ⟨rfl, ?_⟩)), ⟨by omega, fun g hg => by
          by_cases e : g = n
          · rw [e]; exact hone
          · exact hno g (by omega), V3, hV23, H.sx⟩, by omega⟩
      rw [List.length_cons] at q3
      have hrows : ∀ r ∈ tblOf (r0 :: R), r.length ≤ 100000 := fun r hr => by
        obtain ⟨x, hx, rfl⟩ := List.mem_map.1 hr
        have := mem_flat_len hx
        rw [List.length_map]
        omega
      have hVB : VB 1048576 (tblVal (tblOf (r0 :: R))) := vb_tbl (by rw [List.length_map, List.length_cons]; omega) fun a ha => ⟨Nat.le_trans (hrows a ha) (by decide), fun y hy => by
        obtain ⟨x, hx, rfl⟩ := List.mem_map.1 ha
        obtain ⟨c, hc, rfl⟩ := List.mem_map.1 hy
        have := q2 x hx c hc
        rw [← (rdFile_some hr).1] at this
        omega⟩
      have hqf := qn_file (s := sepB (n / 2)) (e := tEnd (crT n)) o (r0 :: R) 0
      rw [← (rdFile_some hr).1] at hqf
      have hok := okT_qn (s := sepB (n / 2)) (cs := (r0 :: R).flatten) (by omega)
      have hqn : ∀ m ∈ qn (sepB (n / 2)) 0 (r0 :: R).flatten, m ≤ 1000 := fun m hm => by
        have := hok.1 (m : Int) (List.mem_map.2 ⟨m, hm, rfl⟩)
        omega
      have hql : (qn (sepB (n / 2)) 0 (r0 :: R).flatten).length ≤ 1000 := by omega
      clear q1 q2 hqf hok
      by_cases hk : n % 2 = 1
      · have hcr : crT n = true := decide_eq_true hk
        cases o with
        | true =>
          by_cases hR1 : R.length = 0
          · have hone := hbad (by rw [suitT_cons, decide_eq_false (show ¬ 1 < R.length + 1 by omega), hcr]; simp)
            (first | (refine H.wg ?_; clear H; intros; rename_i w H; constructor) | refine wk ?_)
            exact ⟨(by repeat (first | exact trivial | refine ⟨rfl, ?_⟩)), n + 1, (by repeat (first | exact trivial | refine ⟨rfl, ?_⟩)), ⟨by omega, fun g hg => by
              by_cases e : g = n
              · rw [e]; exact hone
              · exact hno g (by omega), V3, hV23, H.sx⟩, by omega⟩
          · have hsu : suitT (crT n) (r0 :: R) true = true := by rw [suitT_cons, decide_eq_true hr2, decide_eq_true (show 1 < R.length + 1 by omega)]; simp
            have hone : tblOne n l = some (r0 :: R, true) := by unfold tblOne; rw [hr]; simp only; rw [if_pos hsu]
            rw [tblTo_hit hn hno hone]
            clear hone hsu
            unfold tblAns
            (first | (refine H.wg ?_; clear H; intros; rename_i w H; constructor) | refine wk ?_)
            refine (plainTable_ref H.data hrs (by rw [List.length_map, List.length_cons]; omega) hrows).use ?_
            rintro v w ⟨V4, h, hV4, K, rfl, hv⟩
            (have hKb := K.base; replace H := Rel.call H K)
            simp only [List.cons_append, List.nil_append] at H
            (first | (refine H.wh ?_; clear H; intros; rename_i w H; constructor) | refine wk ?_)
            ((first | refine Rel.nwD H ?_ | refine Rel.nw H ?_); clear H; intro w b8 H)
            (first | (refine H.wg ?_; clear H; intros; rename_i w H; constructor) | refine wk ?_)
            refine (valueFault_ref H.data hv hVB).use ?_
            rintro v w ⟨rfl, K⟩
            (have hKb := K.base; replace H := Rel.call H K)
            simp only [List.cons_append, List.nil_append] at H
            have hV24 := hV23.trans hV4
            by_cases hvf : (vfault (tblVal (tblOf (r0 :: R)))).1 = 0
            rotate_left
            · rw [if_neg hvf]
              (first | (refine H.wg ?_; clear H; intros; rename_i w H; constructor) | refine wk ?_)
              exact ⟨V4, zeroH, ⟨none, 0, 0⟩, zeroV, [], hV24, H.sx, valAt_zero _, SlF.nil _ _, rfl⟩
            rw [if_pos hvf]
            (first | (refine H.wg ?_; clear H; intros; rename_i w H; constructor) | refine wk ?_)
            ((first | refine draw_vc (id := 12) tabOk mixed [4] [0, 1, 2, 3, 4, 5, 6, 7] (by kernel_rfl) ?_); intro w hdw; replace H := Rel.ext H hdw.ext)
            (first | (refine H.wg ?_; clear H; intros; rename_i w H; constructor) | refine wk ?_)
            rw [show ((n : Int) / 2 + 3 * ((n : Int) % 2) + 6) = ((tFlags (n / 2) (crT n) true : Nat) : Int) by unfold tFlags; rw [hcr]; simp only [Bool.false_eq_true, if_true, if_false]; omega]
            have hfl := (tFlags_lt (show n / 2 < 3 by omega) (crT n) true).1
            refine (tableResidue_ref (fl := tFlags (n / 2) (crT n) true) H.data (by omega) (hqs.up hV4) hql hqn).use ?_
            rintro v w ⟨V9, r9, hV9, K, rfl, hr9⟩
            (have hKb := K.base; replace H := H.call0 K)
            (first | (refine H.wg ?_; clear H; intros; rename_i w H; constructor) | refine wk ?_)
            exact ⟨V9, h, r9, _, _, hV24.trans hV9, H.sx, hv.up hV9, hr9, rfl, rfl⟩
        | false =>
          have hsu : suitT (crT n) (r0 :: R) false = true := by rw [suitT_cons, decide_eq_true hr2]; simp
          have hone : tblOne n l = some (r0 :: R, false) := by unfold tblOne; rw [hr]; simp only; rw [if_pos hsu]
          rw [tblTo_hit hn hno hone]
          clear hone hsu
          unfold tblAns
          (first | (refine H.wg ?_; clear H; intros; rename_i w H; constructor) | refine wk ?_)
          refine (plainTable_ref H.data hrs (by rw [List.length_map, List.length_cons]; omega) hrows).use ?_
          rintro v w ⟨V4, h, hV4, K, rfl, hv⟩
          (have hKb := K.base; replace H := Rel.call H K)
          simp only [List.cons_append, List.nil_append] at H
          (first | (refine H.wh ?_; clear H; intros; rename_i w H; constructor) | refine wk ?_)
          ((first | refine Rel.nwD H ?_ | refine Rel.nw H ?_); clear H; intro w b8 H)
          (first | (refine H.wg ?_; clear H; intros; rename_i w H; constructor) | refine wk ?_)
          refine (valueFault_ref H.data hv hVB).use ?_
          rintro v w ⟨rfl, K⟩
          (have hKb := K.base; replace H := Rel.call H K)
          simp only [List.cons_append, List.nil_append] at H
          have hV24 := hV23.trans hV4
          by_cases hvf : (vfault (tblVal (tblOf (r0 :: R)))).1 = 0
          rotate_left
          · rw [if_neg hvf]
            (first | (refine H.wg ?_; clear H; intros; rename_i w H; constructor) | refine wk ?_)
            exact ⟨V4, zeroH, ⟨none, 0, 0⟩, zeroV, [], hV24, H.sx, valAt_zero _, SlF.nil _ _, rfl⟩
          rw [if_pos hvf]
          (first | (refine H.wg ?_; clear H; intros; rename_i w H; constructor) | refine wk ?_)
          ((first | refine draw_vc (id := 12) tabOk mixed [4] [0, 1, 2, 3, 4, 5, 6, 7] (by kernel_rfl) ?_); intro w hdw; replace H := Rel.ext H hdw.ext)
          (first | (refine H.wg ?_; clear H; intros; rename_i w H; constructor) | refine wk ?_)
          rw [show ((n : Int) / 2 + 3 * ((n : Int) % 2)) = ((tFlags (n / 2) (crT n) false : Nat) : Int) by unfold tFlags; rw [hcr]; simp only [Bool.false_eq_true, if_true, if_false]; omega]
          have hfl := (tFlags_lt (show n / 2 < 3 by omega) (crT n) false).1
          refine (tableResidue_ref (fl := tFlags (n / 2) (crT n) false) H.data (by omega) (hqs.up hV4) hql hqn).use ?_
          rintro v w ⟨V9, r9, hV9, K, rfl, hr9⟩
          (have hKb := K.base; replace H := H.call0 K)
          (first | (refine H.wg ?_; clear H; intros; rename_i w H; constructor) | refine wk ?_)
          exact ⟨V9, h, r9, _, _, hV24.trans hV9, H.sx, hv.up hV9, hr9, rfl, rfl⟩
      · have hcr : crT n = false := decide_eq_false hk
        cases o with
        | true =>
          have hsu : suitT (crT n) (r0 :: R) true = true := by rw [suitT_cons, decide_eq_true hr2, hcr]; simp
          have hone : tblOne n l = some (r0 :: R, true) := by unfold tblOne; rw [hr]; simp only; rw [if_pos hsu]
          rw [tblTo_hit hn hno hone]
          clear hone hsu
          unfold tblAns
          (first | (refine H.wg ?_; clear H; intros; rename_i w H; constructor) | refine wk ?_)
          refine (plainTable_ref H.data hrs (by rw [List.length_map, List.length_cons]; omega) hrows).use ?_
          rintro v w ⟨V4, h, hV4, K, rfl, hv⟩
          (have hKb := K.base; replace H := Rel.call H K)
          simp only [List.cons_append, List.nil_append] at H
          (first | (refine H.wh ?_; clear H; intros; rename_i w H; constructor) | refine wk ?_)
          ((first | refine Rel.nwD H ?_ | refine Rel.nw H ?_); clear H; intro w b8 H)
          (first | (refine H.wg ?_; clear H; intros; rename_i w H; constructor) | refine wk ?_)
          refine (valueFault_ref H.data hv hVB).use ?_
          rintro v w ⟨rfl, K⟩
          (have hKb := K.base; replace H := Rel.call H K)
          simp only [List.cons_append, List.nil_append] at H
          have hV24 := hV23.trans hV4
          by_cases hvf : (vfault (tblVal (tblOf (r0 :: R)))).1 = 0
          rotate_left
          · rw [if_neg hvf]
            (first | (refine H.wg ?_; clear H; intros; rename_i w H; constructor) | refine wk ?_)
            exact ⟨V4, zeroH, ⟨none, 0, 0⟩, zeroV, [], hV24, H.sx, valAt_zero _, SlF.nil _ _, rfl⟩
          rw [if_pos hvf]
          (first | (refine H.wg ?_; clear H; intros; rename_i w H; constructor) | refine wk ?_)
          ((first | refine draw_vc (id := 12) tabOk mixed [4] [0, 1, 2, 3, 4, 5, 6, 7] (by kernel_rfl) ?_); intro w hdw; replace H := Rel.ext H hdw.ext)
          (first | (refine H.wg ?_; clear H; intros; rename_i w H; constructor) | refine wk ?_)
          rw [show ((n : Int) / 2 + 3 * ((n : Int) % 2) + 6) = ((tFlags (n / 2) (crT n) true : Nat) : Int) by unfold tFlags; rw [hcr]; simp only [Bool.false_eq_true, if_true, if_false]; omega]
          have hfl := (tFlags_lt (show n / 2 < 3 by omega) (crT n) true).1
          refine (tableResidue_ref (fl := tFlags (n / 2) (crT n) true) H.data (by omega) (hqs.up hV4) hql hqn).use ?_
          rintro v w ⟨V9, r9, hV9, K, rfl, hr9⟩
          (have hKb := K.base; replace H := H.call0 K)
          (first | (refine H.wg ?_; clear H; intros; rename_i w H; constructor) | refine wk ?_)
          exact ⟨V9, h, r9, _, _, hV24.trans hV9, H.sx, hv.up hV9, hr9, rfl, rfl⟩
        | false =>
          have hsu : suitT (crT n) (r0 :: R) false = true := by rw [suitT_cons, decide_eq_true hr2, hcr]; simp
          have hone : tblOne n l = some (r0 :: R, false) := by unfold tblOne; rw [hr]; simp only; rw [if_pos hsu]
          rw [tblTo_hit hn hno hone]
          clear hone hsu
          unfold tblAns
          (first | (refine H.wg ?_; clear H; intros; rename_i w H; constructor) | refine wk ?_)
          refine (plainTable_ref H.data hrs (by rw [List.length_map, List.length_cons]; omega) hrows).use ?_
          rintro v w ⟨V4, h, hV4, K, rfl, hv⟩
          (have hKb := K.base; replace H := Rel.call H K)
          simp only [List.cons_append, List.nil_append] at H
          (first | (refine H.wh ?_; clear H; intros; rename_i w H; constructor) | refine wk ?_)
          ((first | refine Rel.nwD H ?_ | refine Rel.nw H ?_); clear H; intro w b8 H)
          (first | (refine H.wg ?_; clear H; intros; rename_i w H; constructor) | refine wk ?_)
          refine (valueFault_ref H.data hv hVB).use ?_
          rintro v w ⟨rfl, K⟩
          (have hKb := K.base; replace H := Rel.call H K)
          simp only [List.cons_append, List.nil_append] at H
          have hV24 := hV23.trans hV4
          by_cases hvf : (vfault (tblVal (tblOf (r0 :: R)))).1 = 0
          rotate_left
          · rw [if_neg hvf]
            (first | (refine H.wg ?_; clear H; intros; rename_i w H; constructor) | refine wk ?_)
            exact ⟨V4, zeroH, ⟨none, 0, 0⟩, zeroV, [], hV24, H.sx, valAt_zero _, SlF.nil _ _, rfl⟩
          rw [if_pos hvf]
          (first | (refine H.wg ?_; clear H; intros; rename_i w H; constructor) | refine wk ?_)
          ((first | refine draw_vc (id := 12) tabOk mixed [4] [0, 1, 2, 3, 4, 5, 6, 7] (by kernel_rfl) ?_); intro w hdw; replace H := Rel.ext H hdw.ext)
          (first | (refine H.wg ?_; clear H; intros; rename_i w H; constructor) | refine wk ?_)
          rw [show ((n : Int) / 2 + 3 * ((n : Int) % 2)) = ((tFlags (n / 2) (crT n) false : Nat) : Int) by unfold tFlags; rw [hcr]; simp only [Bool.false_eq_true, if_true, if_false]; omega]
          have hfl := (tFlags_lt (show n / 2 < 3 by omega) (crT n) false).1
          refine (tableResidue_ref (fl := tFlags (n / 2) (crT n) false) H.data (by omega) (hqs.up hV4) hql hqn).use ?_
          rintro v w ⟨V9, r9, hV9, K, rfl, hr9⟩
          (have hKb := K.base; replace H := H.call0 K)
          (first | (refine H.wg ?_; clear H; intros; rename_i w H; constructor) | refine wk ?_)
          exact ⟨V9, h, r9, _, _, hV24.trans hV9, H.sx, hv.up hV9, hr9, rfl, rfl⟩
end
end Go.Proofs.YtkfcdjomkcmkeaaGreatDoor
