/-
  Files of tables, the reference: TableResidue, GetNumbers, numbersOf.
-/
import Derived.Test.YtkfcdjomkcmkeaaGreatDoorTblR
import Derived.Test.YtkfcdjomkcmkeaaGreatDoorGetA
namespace Go.Proofs.YtkfcdjomkcmkeaaGreatDoor
open Go Go.RowKit

section
variable {V W : World}
set_option maxRecDepth 100000 in
set_option maxHeartbeats 1000000 in
theorem tableResidue_ref (hV : Sub V W) {fl : Nat} (hf : fl < 1000) {s : Sl} {Z : List Nat} (hs : SlF itC V s (nz Z)) (hZl : Z.length ≤ 1000) (hZ : ∀ n ∈ Z, n ≤ 1000) : Ret Tryz.prog 24 [iv (fl : Int), s.v].toArray W fun v w' => ∃ (V' : World) (r : Sl), Sub V V' ∧ Rel W V [] V' w' ∧ v = r.v ∧ Byt V' r (tRes fl Z) := by
  have H := Rel.start hV
  have hsl := hs.len
  rw [List.length_map] at hsl
  refine cal_of_vc tabOk Tryz.func24 rfl (by kernel_rfl) 34 rfl (by simp) [0, 1, 4, 5, 6, 13, 23] ?_
  by_cases h0 : fl = 0 ∧ Z = []
  · have e : tRes fl Z = [] := by unfold tRes; rw [if_pos h0]
    obtain ⟨h1, h2⟩ := h0
    have h3 : Z.length = 0 := by rw [h2]; rfl
    rw [e]
    (first | (refine H.wg ?_; clear H; intros; rename_i w H; constructor) | refine wk ?_)
    exact ⟨V, ⟨none, 0, 0⟩, Sub.refl _, H.sx, rfl, SlF.nil _ _⟩
  have e : tRes fl Z = putN fl ++ putL putN (nz Z) := by unfold tRes; rw [if_neg h0]
  rw [e]
  have hpl := putL_nz_len (Z := Z) hZl hZ
  have hpn := putN_len (n := (fl : Int)) (by omega) (by omega)
  have hpz := putN_len (n := (Z.length : Int)) (by omega) (by omega)
  have hil : (nz Z).length = Z.length := by simp
  by_cases h1 : fl = 0
  · have h3 : Z.length ≠ 0 := fun q => h0 ⟨h1, List.eq_nil_of_length_eq_zero q⟩
    (first | (refine H.wg ?_; clear H; intros; rename_i w H; constructor) | refine wk ?_)
    refine (put_ref (n := (fl : Int)) H.data (by constructor <;> omega)).use ?_
    rintro v w ⟨r1, rfl, K⟩
    (have hKb := K.base; replace H := Rel.call H K)
    simp only [List.nil_append, List.append_nil] at H
    obtain ⟨V2, hV2, H, hr1⟩ := Rel.freezeF H (fun _ => rfl) (by decide)
    (first | (refine H.wg ?_; clear H; intros; rename_i w H; constructor) | refine wk ?_)
    rw [hsl]
    refine (put_ref (n := (Z.length : Int)) H.data (by constructor <;> omega)).use ?_
    rintro v w ⟨r2, rfl, K⟩
    (have hKb := K.base; replace H := Rel.call H K)
    simp only [List.nil_append, List.append_nil] at H
    obtain ⟨V3, hV3, H, hr2⟩ := Rel.freezeF H (fun _ => rfl) (by decide)
    (first | (refine H.wg ?_; clear H; intros; rename_i w H; constructor) | refine wk ?_)
    refine (join_ref H.data (hr1.up hV3) hr2 (by omega)).use ?_
    rintro v w ⟨r3, rfl, K⟩
    (have hKb := K.base; replace H := Rel.call H K)
    simp only [List.nil_append, List.append_nil] at H
    have hV23 := hV2.trans hV3
    (first | (refine H.wg ?_; clear H; intros; rename_i w H; constructor) | refine wk ?_)
    refine loop_inv (S := Nat × Sl) tabOk [0, 1, 4, 13] (fun q => [(5, q.2.v), (6, iv q.1)]) (fun q w' => q.1 ≤ Z.length ∧ Rel W V [.row q.2 5 1 ((putN fl ++ putN Z.length ++ ((nz Z).take q.1).flatMap putN).flatMap byC)] V3 w') (fun q _ => Z.length - q.1) (0, r3) ?_
    (conv => whnf)
    refine ⟨(by repeat (first | exact trivial | refine ⟨rfl, ?_⟩)), ⟨by omega, by rw [List.take_zero, List.flatMap_nil, List.append_nil]; exact H⟩, ?_⟩
    clear H
    rintro ⟨k, r⟩ w ⟨hk, H⟩
    dsimp only at hk H ⊢
    by_cases hlt : k < Z.length
    · have hli : k < (nz Z).length := by omega
      obtain ⟨p0, c0⟩ := (hs.up hV23).at1 (g := iv) (fun _ => rfl) hli
      have ht := List.take_succ_eq_append_getElem hli
      obtain ⟨z, hz⟩ : ∃ z, z = (nz Z)[k] := ⟨_, rfl⟩
      have hzb : 0 ≤ z ∧ z ≤ 1000 := by
        obtain ⟨n, hn, e⟩ := List.mem_map.1 (show z ∈ nz Z by rw [hz]; exact List.getElem_mem hli)
        have := hZ n hn
        omega
      rw [← hz] at c0 ht
      have hfl : (((nz Z).take k).flatMap putN).length + (putN z).length ≤ ((nz Z).flatMap putN).length := by
        have := flat_part (enc := putN) hli
        rw [← hz] at this
        exact this
      unfold putL at hpl
      rw [List.length_append] at hpl
      (first | (refine H.wg ?_; clear H; intros; rename_i w H; constructor) | refine wk ?_)
      refine (put_ref (n := z) H.data (by constructor <;> omega)).use ?_
      rintro v w ⟨rz, rfl, K⟩
      (have hKb := K.base; replace H := Rel.call H K)
      simp only [List.cons_append, List.nil_append] at H
      (first | (refine H.wg ?_; clear H; intros; rename_i w H; constructor) | refine wk ?_)
      refine Rel.appB H (i := 0) rfl (by simp only [List.length_append]; omega) ?_
      clear H
      intro rn w H
      simp only [List.set_cons_zero] at H
      rw [show putN (fl : Int) ++ putN (Z.length : Int) ++ ((nz Z).take k).flatMap putN ++ putN z = putN (fl : Int) ++ putN (Z.length : Int) ++ ((nz Z).take (k + 1)).flatMap putN by rw [ht, List.flatMap_append, List.append_assoc]; simp] at H
      (first | (refine H.wg ?_; clear H; intros; rename_i w H; constructor) | refine wk ?_)
      exact ⟨(by repeat (first | exact trivial | refine ⟨rfl, ?_⟩)), (k + 1, rn), (by repeat (first | exact trivial | refine ⟨rfl, ?_⟩)), ⟨by dsimp only; omega, H⟩, by dsimp only; omega⟩
    · obtain rfl : k = Z.length := by omega
      rw [List.take_of_length_le (by omega)] at H
      rw [show putN (fl : Int) ++ putN (Z.length : Int) ++ (nz Z).flatMap putN = putN (fl : Int) ++ putL putN (nz Z) by unfold putL; rw [hil, List.append_assoc]] at H
      obtain ⟨V4, hV4, H, hr⟩ := Rel.freezeF H (fun _ => rfl) (by decide)
      (first | (refine H.wg ?_; clear H; intros; rename_i w H; constructor) | refine wk ?_)
      exact ⟨V4, r, hV23.trans hV4, H.sx, rfl, hr⟩
  · (first | (refine H.wg ?_; clear H; intros; rename_i w H; constructor) | refine wk ?_)
    refine (put_ref (n := (fl : Int)) H.data (by constructor <;> omega)).use ?_
    rintro v w ⟨r1, rfl, K⟩
    (have hKb := K.base; replace H := Rel.call H K)
    simp only [List.nil_append, List.append_nil] at H
    obtain ⟨V2, hV2, H, hr1⟩ := Rel.freezeF H (fun _ => rfl) (by decide)
    (first | (refine H.wg ?_; clear H; intros; rename_i w H; constructor) | refine wk ?_)
    rw [hsl]
    refine (put_ref (n := (Z.length : Int)) H.data (by constructor <;> omega)).use ?_
    rintro v w ⟨r2, rfl, K⟩
    (have hKb := K.base; replace H := Rel.call H K)
    simp only [List.nil_append, List.append_nil] at H
    obtain ⟨V3, hV3, H, hr2⟩ := Rel.freezeF H (fun _ => rfl) (by decide)
    (first | (refine H.wg ?_; clear H; intros; rename_i w H; constructor) | refine wk ?_)
    refine (join_ref H.data (hr1.up hV3) hr2 (by omega)).use ?_
    rintro v w ⟨r3, rfl, K⟩
    (have hKb := K.base; replace H := Rel.call H K)
    simp only [List.nil_append, List.append_nil] at H
    have hV23 := hV2.trans hV3
    (first | (refine H.wg ?_; clear H; intros; rename_i w H; constructor) | refine wk ?_)
    refine loop_inv (S := Nat × Sl) tabOk [0, 1, 4, 13] (fun q => [(5, q.2.v), (6, iv q.1)]) (fun q w' => q.1 ≤ Z.length ∧ Rel W V [.row q.2 5 1 ((putN fl ++ putN Z.length ++ ((nz Z).take q.1).flatMap putN).flatMap byC)] V3 w') (fun q _ => Z.length - q.1) (0, r3) ?_
    (conv => whnf)
    refine ⟨(by repeat (first | exact trivial | refine ⟨rfl, ?_⟩)), ⟨by omega, by rw [List.take_zero, List.flatMap_nil, List.append_nil]; exact H⟩, ?_⟩
    clear H
    rintro ⟨k, r⟩ w ⟨hk, H⟩
    dsimp only at hk H ⊢
    by_cases hlt : k < Z.length
    · have hli : k < (nz Z).length := by omega
      obtain ⟨p0, c0⟩ := (hs.up hV23).at1 (g := iv) (fun _ => rfl) hli
      have ht := List.take_succ_eq_append_getElem hli
      obtain ⟨z, hz⟩ : ∃ z, z = (nz Z)[k] := ⟨_, rfl⟩
      have hzb : 0 ≤ z ∧ z ≤ 1000 := by
        obtain ⟨n, hn, e⟩ := List.mem_map.1 (show z ∈ nz Z by rw [hz]; exact List.getElem_mem hli)
        have := hZ n hn
        omega
      rw [← hz] at c0 ht
      have hfl : (((nz Z).take k).flatMap putN).length + (putN z).length ≤ ((nz Z).flatMap putN).length := by
        have := flat_part (enc := putN) hli
        rw [← hz] at this
        exact this
      unfold putL at hpl
      rw [List.length_append] at hpl
      (first | (refine H.wg ?_; clear H; intros; rename_i w H; constructor) | refine wk ?_)
      refine (put_ref (n := z) H.data (by constructor <;> omega)).use ?_
      rintro v w ⟨rz, rfl, K⟩
      (have hKb := K.base; replace H := Rel.call H K)
      simp only [List.cons_append, List.nil_append] at H
      (first | (refine H.wg ?_; clear H; intros; rename_i w H; constructor) | refine wk ?_)
      refine Rel.appB H (i := 0) rfl (by simp only [List.length_append]; omega) ?_
      clear H
      intro rn w H
      simp only [List.set_cons_zero] at H
      rw [show putN (fl : Int) ++ putN (Z.length : Int) ++ ((nz Z).take k).flatMap putN ++ putN z = putN (fl : Int) ++ putN (Z.length : Int) ++ ((nz Z).take (k + 1)).flatMap putN by rw [ht, List.flatMap_append, List.append_assoc]; simp] at H
      (first | (refine H.wg ?_; clear H; intros; rename_i w H; constructor) | refine wk ?_)
      exact ⟨(by repeat (first | exact trivial | refine ⟨rfl, ?_⟩)), (k + 1, rn), (by repeat (first | exact trivial | refine ⟨rfl, ?_⟩)), ⟨by dsimp only; omega, H⟩, by dsimp only; omega⟩
    · obtain rfl : k = Z.length := by omega
      rw [List.take_of_length_le (by omega)] at H
      rw [show putN (fl : Int) ++ putN (Z.length : Int) ++ (nz Z).flatMap putN = putN (fl : Int) ++ putL putN (nz Z) by unfold putL; rw [hil, List.append_assoc]] at H
      obtain ⟨V4, hV4, H, hr⟩ := Rel.freezeF H (fun _ => rfl) (by decide)
      (first | (refine H.wg ?_; clear H; intros; rename_i w H; constructor) | refine wk ?_)
      exact ⟨V4, r, hV23.trans hV4, H.sx, rfl, hr⟩
/-- what GetNumbers returns -/
structure GetH (W V : World) (res : Got (List Int)) (v : Value) (w' : World) : Prop where
  ex : ∃ (V' : World) (x : Sl) (z : List Int) (n c i : Int), Sub V V' ∧ Rel W V [] V' w' ∧ v = .tuple #[x.v, iv n, .agg #[iv c, iv i]] ∧ SlF itC V' x z ∧ z.length ≤ 1000 ∧ (match res with | .bad c' i' => c = c' ∧ i = i' ∧ c' ≠ 0 | .ok y q => c = 0 ∧ i = 0 ∧ n = q ∧ z = y)
set_option maxRecDepth 100000 in
set_option maxHeartbeats 1000000 in
theorem getNumbers_ref (hV : Sub V W) {s : Sl} {l : List UInt8} (hs : Byt V s l) (hl : l.length ≤ 1099511627776) {p : Nat} (hp : p ≤ l.length) {m : Int} (hm : 0 ≤ m ∧ m ≤ 1000) :
    Ret Tryz.prog 59 [s.v, iv p, iv m].toArray W (GetH W V (listAt l (numAt l) m p)) := by
  have H := Rel.start hV
  have hlen := hs.len
  refine cal_of_vc tabOk Tryz.func59 rfl (by kernel_rfl) 58 rfl (by simp) [0, 1, 2, 6, 7, 8, 9, 10, 11, 12, 13, 14, 15, 16, 26, 31, 36, 48] ?_
  (first | (refine H.wh ?_; clear H; intros; rename_i w H; constructor) | refine wk ?_)
  ((first | refine Rel.nwD H ?_ | refine Rel.nw H ?_); clear H; intro w b8 H)
  (first | (refine H.wg ?_; clear H; intros; rename_i w H; constructor) | refine wk ?_)
  refine (get_ref H.data hs hl hp).use ?_
  rintro v w ⟨rfl, K⟩
  (have hKb := K.base; replace H := H.call0 K)
  cases hn : numAt l p with
  | bad c i =>
    have hc0 := numAt_ne hn
    have hr : listAt l (numAt l) m p = .bad c i := by rw [listAt, hn]
    rw [hr]
    (first | (refine H.wh ?_; clear H; intros; rename_i w H; constructor) | refine wk ?_)
    ((first | refine Rel.nwD H ?_ | refine Rel.nw H ?_); clear H; intro w b11 H)
    (first | (refine H.wg ?_; clear H; intros; rename_i w H; constructor) | refine wk ?_)
    ((first | refine draw_vc (id := 3) tabOk mixed [] [0, 1, 2, 3] (by kernel_rfl) ?_ | refine draw_vc (id := 12) tabOk mixed [] [0, 1, 2, 3] (by kernel_rfl) ?_); intro w hdw; replace H := Rel.ext H hdw.ext)
    (first | (refine H.wg ?_; clear H; intros; rename_i w H; constructor) | refine wk ?_)
    exact ⟨V, ⟨none, 0, 0⟩, [], 0, c, i, Sub.refl _, H.sx, rfl, SlF.nil _ _, by simp, rfl, rfl, hc0⟩
  | ok n q0 =>
    obtain ⟨h1, h2, h3, h4, h5⟩ := numAt_ok hp hn
    (first | (refine H.wh ?_; clear H; intros; rename_i w H; constructor) | refine wk ?_)
    ((first | refine Rel.nwD H ?_ | refine Rel.nw H ?_); clear H; intro w b11 H)
    (first | (refine H.wg ?_; clear H; intros; rename_i w H; constructor) | refine wk ?_)
    refine (in_ref n 0 m w).use ?_
    rintro q w' ⟨rfl, rfl⟩
    by_cases hb : n < 0 ∨ m < n
    · have hr : listAt l (numAt l) m p = .bad 4 p := by rw [listAt, hn]; simp only; rw [if_pos hb]
      rw [hr, decide_eq_false (show ¬ (0 ≤ n ∧ n ≤ m) by omega)]
      (first | (refine H.wg ?_; clear H; intros; rename_i w H; constructor) | refine wk ?_)
      refine (at_ref H.data 4 p).use ?_
      rintro v w ⟨rfl, K⟩
      (have hKb := K.base; replace H := H.call0 K)
      (first | (refine H.wg ?_; clear H; intros; rename_i w H; constructor) | refine wk ?_)
      exact ⟨V, ⟨none, 0, 0⟩, [], 0, 4, p, Sub.refl _, H.sx, rfl, SlF.nil _ _, by simp, rfl, rfl, by decide⟩
    have hr : listAt l (numAt l) m p = manyAt (numAt l) n.toNat q0 := by rw [listAt, hn]; simp only; rw [if_neg hb]
    rw [hr, decide_eq_true (show 0 ≤ n ∧ n ≤ m by omega)]
    obtain ⟨N, rfl⟩ : ∃ N : Nat, n = N := ⟨n.toNat, by omega⟩
    rw [Int.toNat_natCast]
    (first | (refine H.wg ?_; clear H; intros; rename_i w H; constructor) | refine wk ?_)
    replace H := H.rowNil 3 1
    refine loop_inv (S := Nat × Nat × Sl × List Int) tabOk [0, 1, 2, 8, 9, 11, 26, 31] (fun k => [(10, iv k.2.1), (12, k.2.2.1.v), (13, iv k.1)]) (fun k w' => k.1 ≤ N ∧ k.2.1 ≤ l.length ∧ k.2.2.2.length = k.1 ∧ manyAt (numAt l) k.1 q0 = .ok k.2.2.2 k.2.1 ∧ Rel W V [.row k.2.2.1 3 1 (k.2.2.2.flatMap itC), .blk b11 [iv 0, iv 0] 29, .blk b8 [iv 0, iv 0] 29] V w') (fun k _ => N - k.1) (0, q0, ⟨none, 0, 0⟩, []) ?_
    (conv => whnf)
    refine ⟨(by repeat (first | exact trivial | refine ⟨rfl, ?_⟩)), ⟨by omega, h2, rfl, rfl, H.sx⟩, ?_⟩
    clear H
    rintro ⟨k, q, r, xs⟩ w ⟨hk, hq, hxl, hma, H⟩
    dsimp only at hk hq hxl hma H ⊢
    by_cases hlt : k < N
    rotate_left
    · obtain rfl : k = N := by omega
      (first | (refine H.wg ?_; clear H; intros; rename_i w H; constructor) | refine wk ?_)
      obtain ⟨V2, hV2, H, hrr⟩ := Rel.freezeF H (fun _ => rfl) (by decide)
      rw [hma]
      exact ⟨V2, r, xs, q, 0, 0, hV2, H.sx, rfl, hrr, by omega, rfl, rfl, rfl, rfl⟩
    (first | (refine H.wg ?_; clear H; intros; rename_i w H; constructor) | refine wk ?_)
    refine (get_ref H.data hs hl hq).use ?_
    rintro v w ⟨rfl, K⟩
    (have hKb := K.base; replace H := Rel.call H K)
    simp only [List.nil_append] at H
    cases ho : numAt l q with
    | bad c i =>
      have hc0 := numAt_ne ho
      have hmb : manyAt (numAt l) N q0 = .bad c i := by
        have := manyAt_badAt hma ho (N - (k + 1))
        rwa [show k + 1 + (N - (k + 1)) = N by omega] at this
      rw [hmb]
      (first | (refine H.wh ?_; clear H; intros; rename_i w H; constructor) | refine wk ?_)
      ((first | refine Rel.nwD H ?_ | refine Rel.nw H ?_); clear H; intro w b16 H)
      (first | (refine H.wg ?_; clear H; intros; rename_i w H; constructor) | refine wk ?_)
      ((first | refine draw_vc (id := 3) tabOk mixed [] [0, 1, 2, 3] (by kernel_rfl) ?_ | refine draw_vc (id := 12) tabOk mixed [] [0, 1, 2, 3] (by kernel_rfl) ?_); intro w hdw; replace H := Rel.ext H hdw.ext)
      (first | (refine H.wg ?_; clear H; intros; rename_i w H; constructor) | refine wk ?_)
      exact ⟨V, ⟨none, 0, 0⟩, [], 0, c, i, Sub.refl _, H.sx, rfl, SlF.nil _ _, by simp, rfl, rfl, hc0⟩
    | ok y q' =>
      obtain ⟨e1, e2, e3, e4⟩ := numAt_ok hq ho
      have hstep := manyAt_step hma ho
      (first | (refine H.wh ?_; clear H; intros; rename_i w H; constructor) | refine wk ?_)
      ((first | refine Rel.nwD H ?_ | refine Rel.nw H ?_); clear H; intro w b16 H)
      have H0 : Rel W V [.row r 3 1 (xs.flatMap itC), .blk b16 [iv 0, iv 0] 29, .blk b11 [iv 0, iv 0] 29, .blk b8 [iv 0, iv 0] 29] V w := H.pick
      clear H
      have H := H0
      clear H0
      (first | (refine H.wg ?_; clear H; intros; rename_i w H; constructor) | refine wk ?_)
      refine Rel.app1_0 (f := itC) (s := r) (l := xs) (x := y) tabOk rfl rfl rfl rfl rfl (by decide) (fun _ => rfl) (by simp [Value.oneCell']) H (by show (xs.length + 1) * 8 ≤ _; omega) (by omega) ?_
      clear H
      intro r1 w H
      (first | (refine H.wg ?_; clear H; intros; rename_i w H; constructor) | refine wk ?_)
      exact ⟨(by repeat (first | exact trivial | refine ⟨rfl, ?_⟩)), (k + 1, q', r1, xs ++ [y]), (by repeat (first | exact trivial | refine ⟨rfl, ?_⟩)), ⟨by dsimp only; omega, e2, by simp [hxl], hstep, H.sx⟩, by dsimp only; omega⟩
/-- what numbersOf returns -/
structure NumsH (W V : World) (o : Option (Int × List Int)) (v : Value) (w' : World) : Prop where
  ex : ∃ (V' : World) (r : Sl) (c : Int) (z : List Int) (k : Bool), Sub V V' ∧ Rel W V [] V' w' ∧ v = .tuple #[iv c, r.v, .bool k] ∧ I64 c ∧ SlF itC V' r z ∧ z.length ≤ 1000 ∧ (match o with
    | none => k = false
    | some x => k = true ∧ x = (c, z))
set_option maxRecDepth 100000 in
set_option maxHeartbeats 1000000 in
theorem numbersOf_ref (hV : Sub V W) {s : Sl} {b : List UInt8} (hs : Byt V s b) (hl : b.length ≤ 1099511627776) : Ret Tryz.prog 34 [s.v].toArray W (NumsH W V (tRaw b)) := by
  have H := Rel.start hV
  have hlen := hs.len
  refine cal_of_vc tabOk Tryz.func34 rfl (by kernel_rfl) 38 rfl (by simp) [0, 2, 3, 4, 5, 6, 7, 8, 9, 10, 19] ?_
  (first | (refine H.wg ?_; clear H; intros; rename_i w H; constructor) | refine wk ?_)
  refine (get_ref (p := 0) H.data hs hl (Nat.zero_le _)).use ?_
  rintro v w ⟨rfl, K⟩
  (have hKb := K.base; replace H := H.call0 K)
  cases hn : numAt b 0 with
  | bad c i =>
    have hc0 := numAt_ne hn
    have e : tRaw b = none := by unfold tRaw; rw [hn]
    rw [e]
    (first | (refine H.wh ?_; clear H; intros; rename_i w H; constructor) | refine wk ?_)
    ((first | refine Rel.nwD H ?_ | refine Rel.nw H ?_); clear H; intro w b7 H)
    (first | (refine H.wg ?_; clear H; intros; rename_i w H; constructor) | refine wk ?_)
    exact ⟨V, ⟨none, 0, 0⟩, 0, [], false, Sub.refl _, H.sx, rfl, by constructor <;> omega, SlF.nil _ _, by simp, rfl⟩
  | ok c q =>
    obtain ⟨g1, g2, g3, g4, g5⟩ := numAt_ok (Nat.zero_le _) hn
    have hraw : tRaw b = match listAt b (numAt b) 1000 q with
      | .bad _ _ => none
      | .ok z q => if q = b.length then some (c, z) else none := by
      unfold tRaw
      rw [hn]
      simp only
      cases listAt b (numAt b) 1000 q <;> rfl
    (first | (refine H.wh ?_; clear H; intros; rename_i w H; constructor) | refine wk ?_)
    ((first | refine Rel.nwD H ?_ | refine Rel.nw H ?_); clear H; intro w b7 H)
    (first | (refine H.wg ?_; clear H; intros; rename_i w H; constructor) | refine wk ?_)
    refine (getNumbers_ref (m := 1000) H.data hs hl g2 (by constructor <;> omega)).use ?_
    rintro v w ⟨V2, x, z, n, d, i, hV2, K, rfl, hx, hz1, hres⟩
    (have hKb := K.base; replace H := H.call0 K)
    cases hli : listAt b (numAt b) 1000 q with
    | bad c' i' =>
      rw [hli] at hres hraw
      obtain ⟨rfl, rfl, hc0⟩ := hres
      rw [hraw]
      (first | (refine H.wh ?_; clear H; intros; rename_i w H; constructor) | refine wk ?_)
      ((first | refine Rel.nwD H ?_ | refine Rel.nw H ?_); clear H; intro w b10 H)
      (first | (refine H.wg ?_; clear H; intros; rename_i w H; constructor) | refine wk ?_)
      exact ⟨V2, x, c, z, false, hV2, H.sx, rfl, ⟨g4, g5⟩, hx, hz1, rfl⟩
    | ok y q' =>
      rw [hli] at hres hraw
      obtain ⟨rfl, rfl, rfl, rfl⟩ := hres
      simp only at hraw
      rw [hraw]
      (first | (refine H.wh ?_; clear H; intros; rename_i w H; constructor) | refine wk ?_)
      ((first | refine Rel.nwD H ?_ | refine Rel.nw H ?_); clear H; intro w b10 H)
      (first | (refine H.wg ?_; clear H; intros; rename_i w H; constructor) | refine wk ?_)
      by_cases hq : q' = b.length
      · rw [if_pos hq]
        exact ⟨V2, x, c, z, _, hV2, H.sx, rfl, ⟨g4, g5⟩, hx, hz1, decide_eq_true (by omega), rfl⟩
      · rw [if_neg hq]
        exact ⟨V2, x, c, z, _, hV2, H.sx, rfl, ⟨g4, g5⟩, hx, hz1, decide_eq_false (by omega)⟩
end
end Go.Proofs.YtkfcdjomkcmkeaaGreatDoor
