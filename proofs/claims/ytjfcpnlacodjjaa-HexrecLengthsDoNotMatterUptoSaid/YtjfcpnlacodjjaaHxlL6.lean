/-
  Files of hexadecimal records: however an image is divided into records.
-/
import Derived.Test.YtjfcpnlacodjjaaHexX
import Derived.Test.YtjfcpnlacodjjaaHexU
import Derived.Test.YtjfcpnlacodjjaaVcW
namespace Go.Proofs.Ytjfcpnlacodjjaa
open Go Go.RowKit

set_option maxRecDepth 100000 in
set_option maxHeartbeats 2000000 in
theorem law_hex_lengths {W : World} (hM : MaxT W) (a : Int) (_ha : I64 a) {s : Sl} {l : List UInt8} (hs0 : By W s l) (hl : l.length ≤ 1048576) (cut : Int) (_hc : I64 cut) :
    Ret Try.prog 13 [iv a, s.v, iv cut].toArray W fun v w' => v = .bool true ∧ Ext W w' := by
  have H := Rel.start (Sub.refl W)
  have hs := hs0.slf
  have hlen := hs.len
  refine cal_of_vc tabOk Try.func13 rfl (by kernel_rfl) 122 rfl (by simp) [0, 1, 2, 6, 7, 8, 9, 10, 11, 12, 13, 14, 15, 16, 17, 18, 20, 40, 66, 73] ?_
  (first | (refine H.wg ?_; clear H; intros; rename_i w H; constructor) | refine wk ?_)
  refine (example_hex H.data hM).use ?_
  rintro q w ⟨rfl, V1, hV1, K⟩
  (have hKb := K.base; replace H := H.call0 K)
  (first | (refine H.wg ?_; clear H; intros; rename_i w H; constructor) | refine wk ?_)
  refine (in_ref s.len 2 200 w).use ?_
  rintro q w' ⟨rfl, rfl⟩
  by_cases q1 : 2 ≤ l.length ∧ l.length ≤ 200
  rotate_left
  · rw [decide_eq_false (by omega)]
    (first | (refine H.wg ?_; clear H; intros; rename_i w H; constructor) | refine wk ?_)
    (first | exact H.base | exact ⟨by simp, H.base⟩ | exact ⟨rfl, H.base⟩)
  rw [decide_eq_true (by omega)]
  (first | (refine H.wg ?_; clear H; intros; rename_i w H; constructor) | refine wk ?_)
  refine (in_ref a 0 (65536 - s.len) w).use ?_
  rintro q w' ⟨rfl, rfl⟩
  by_cases q2 : 0 ≤ a ∧ a ≤ 65536 - (l.length : Int)
  rotate_left
  · rw [decide_eq_false (by omega)]
    (first | (refine H.wg ?_; clear H; intros; rename_i w H; constructor) | refine wk ?_)
    (first | exact H.base | exact ⟨by simp, H.base⟩ | exact ⟨rfl, H.base⟩)
  rw [decide_eq_true (by omega)]
  (first | (refine H.wg ?_; clear H; intros; rename_i w H; constructor) | refine wk ?_)
  refine (in_ref cut 1 (s.len - 1) w).use ?_
  rintro q w' ⟨rfl, rfl⟩
  by_cases q3 : 1 ≤ cut ∧ cut ≤ (l.length : Int) - 1
  rotate_left
  · rw [decide_eq_false (by omega)]
    (first | (refine H.wg ?_; clear H; intros; rename_i w H; constructor) | refine wk ?_)
    (first | exact H.base | exact ⟨by simp, H.base⟩ | exact ⟨rfl, H.base⟩)
  rw [decide_eq_true (by omega)]
  obtain ⟨A, rfl⟩ : ∃ A : Nat, a = A := ⟨a.toNat, by omega⟩
  obtain ⟨C, rfl⟩ : ∃ C : Nat, cut = C := ⟨cut.toNat, by omega⟩
  have h0 : l ≠ [] := by rintro rfl; simp at q1
  have hS : segOk [(A, l)] := fun s hs => by
    obtain rfl := List.mem_singleton.1 hs
    exact ⟨by dsimp only; omega, h0, by dsimp only; omega⟩
  have hz : ∀ n ∈ [C, l.length - C], n ≤ 255 := fun n hn => by
    simp only [List.mem_cons, List.not_mem_nil, or_false] at hn
    rcases hn with rfl | rfl <;> omega
  have hvB := vb_hex (S := [(A, l)]) hS (by simp)
  have hsh : (hexShape (hexVal [(A, l)])).isSome = true := by rw [hexShape_val hS]; rfl
  have hvf : (vfault (hexVal [(A, l)])).1 = 0 := by rw [vfault_seg (by omega) q1.2]
  have hrl := resB_len (fl := 0) (Z := [C, l.length - C]) (by decide) (by simp) hz
  obtain ⟨g1, g2, g3⟩ := hex_cut (a := A) (d := l) (cut := C) q1 (by omega) (by omega) (by omega)
  obtain ⟨R, hR⟩ : ∃ R, R = resB 0 [C, l.length - C] := ⟨_, rfl⟩
  obtain ⟨v, hv⟩ : ∃ v, v = hexVal [(A, l)] := ⟨_, rfl⟩
  rw [← hR] at hrl
  rw [← hR, ← hv] at g1 g2
  rw [← hv] at g3 hvB hsh hvf
  obtain ⟨o2, k1, k2, k3⟩ := g3
  have e2 : frRes v (hexShape v).isSome (hexMake v []) = (o2, 0, 0) := by rw [k1]; unfold frRes; rw [if_neg (fun h => h hvf), if_neg (by rw [hsh]; decide)]
  have t2 : toRes (hexTo o2) o2.length = ⟨v, [], 0, 0⟩ := by unfold toRes; rw [if_neg (by omega), k2]
  (first | (refine H.wh ?_; clear H; intros; rename_i w H; constructor) | refine wk ?_)
  ((first | refine Rel.nwD H ?_ | refine Rel.nw H ?_); clear H; intro w bs H)
  obtain ⟨V2, hV2, H, hbs⟩ := H.freezeBlk
  have hsg : SegsAt V2 ⟨some ⟨bs, 0, none⟩, 1, 1⟩ [(A, l)] := ⟨[(A, s)], ⟨rfl, Nat.le_refl _, hbs.cells⟩, ⟨rfl, fun k x y hx hy => by
    match k, hx, hy with
    | 0, hx, hy => cases hx; cases hy; exact ⟨rfl, (hs.up hV1).up hV2⟩
    | k + 1, hx, hy => simp at hx⟩⟩
  (first | (refine H.wg ?_; clear H; intros; rename_i w H; constructor) | refine wk ?_)
  refine (plainHex_ref H.data hsg (by simp)).use ?_
  rintro q w ⟨V3, hh, hV3, K, rfl, hvh⟩
  (have hKb := K.base; replace H := H.call0 K)
  rw [← hv] at hvh
  (first | (refine H.wh ?_; clear H; intros; rename_i w H; constructor) | refine wk ?_)
  ((first | refine Rel.nwD H ?_ | refine Rel.nw H ?_); clear H; intro w b7 H)
  (first | (refine H.wh ?_; clear H; intros; rename_i w H; constructor) | refine wk ?_)
  obtain ⟨V4, hV4, H, hb7⟩ := H.freezeBlk
  have z0 := hb7.cel (i := 0) rfl
  have z1 := hb7.cel (i := 1) rfl
  have z2 := hb7.cel (i := 2) rfl
  have z3 := hb7.cel (i := 3) rfl
  have z4 := hb7.cel (i := 4) rfl
  replace hvh := hvh.up hV4
  ((first | refine Rel.nwD H ?_ | refine Rel.nw H ?_); clear H; intro w bi H)
  replace H := H.blkEq (c' := (ints [C, l.length - C]).flatMap itC) (by simp [itC]; omega)
  obtain ⟨V5, hV5, H, hbi⟩ := H.freezeBlk
  have hzi : SlF itC V5 ⟨some ⟨bi, 0, none⟩, 2, 2⟩ (ints [C, l.length - C]) := ⟨rfl, Nat.le_refl _, hbi.cells⟩
  (first | (refine H.wg ?_; clear H; intros; rename_i w H; constructor) | refine wk ?_)
  refine (tableResidue_ref (fl := 0) H.data (by decide) hzi (by simp) hz).use ?_
  rintro q w ⟨V6, r6, hV6, K, rfl, hr6⟩
  (have hKb := K.base; replace H := H.call0 K)
  rw [← hR] at hr6
  have hV46 := hV5.trans hV6
  have hV16 := ((hV2.trans hV3).trans hV4).trans hV46
  have z0 := hV46.cell z0
  have z1 := hV46.cell z1
  have z2 := hV46.cell z2
  have z3 := hV46.cell z3
  have z4 := hV46.cell z4
  replace hvh := hvh.up hV46
  (first | (refine H.wg ?_; clear H; intros; rename_i w H; constructor) | refine wk ?_)
  refine (from_hex H.data (hM.up (hV1.trans hV16)) hvh hvB hr6 (by omega)).use ?_
  rintro q w ⟨V7, r7, hV7, K, rfl, hr7⟩
  (have hKb := K.base; replace H := H.call0 K)
  (first | (refine H.wh ?_; clear H; intros; rename_i w H; constructor) | refine wk ?_)
  ((first | refine Rel.nwD H ?_ | refine Rel.nw H ?_); clear H; intro w b10 H)
  have z0 := hV7.cell z0
  have z1 := hV7.cell z1
  have z2 := hV7.cell z2
  have z3 := hV7.cell z3
  have z4 := hV7.cell z4
  replace hvh := hvh.up hV7
  replace hr6 := hr6.up hV7
  have hM7 := (hM.up (hV1.trans hV16)).up hV7
  (first | (refine H.wg ?_; clear H; intros; rename_i w H; constructor) | refine wk ?_)
  refine (from_hex H.data hM7 hvh hvB (SlF.nil _ _) (by decide)).use ?_
  rintro q w ⟨V8, r8, hV8, K, rfl, hr8⟩
  (have hKb := K.base; replace H := Rel.call H K)
  simp only [List.nil_append] at H
  rw [e2] at hr8 ⊢
  dsimp only at hr8 ⊢
  (first | (refine H.wh ?_; clear H; intros; rename_i w H; constructor) | refine wk ?_)
  ((first | refine Rel.nwD H ?_ | refine Rel.nw H ?_); clear H; intro w b12 H)
  have z0 := hV8.cell z0
  have z1 := hV8.cell z1
  have z2 := hV8.cell z2
  have z3 := hV8.cell z3
  have z4 := hV8.cell z4
  replace hvh := hvh.up hV8
  replace hr6 := hr6.up hV8
  replace hr7 := hr7.up hV8
  have hM8 := hM7.up hV8
  by_cases hc : C = 16 ∧ l.length ≤ 32
  · have e1 : frRes v (hexShape v).isSome (hexMake v R) = ([], 6, -2) := by rw [g1 hc]; unfold frRes; rw [if_neg (fun h => h hvf), if_neg (by rw [hsh]; decide)]
    rw [e1] at H
    obtain ⟨hc1, hc2⟩ := hc
    (first | (refine H.wg ?_; clear H; intros; rename_i w H; constructor) | refine wk ?_)
    ((first | refine draw_vc (id := 12) tabOk mixed [1] [0, 1, 2, 3] (by kernel_rfl) ?_); intro w hdw; replace H := Rel.ext H hdw.ext)
    (first | (refine H.wg ?_; clear H; intros; rename_i w H; constructor) | refine wk ?_)
    refine (at_ref H.data 6 (-2)).use ?_
    rintro q w ⟨rfl, K⟩
    (have hKb := K.base; replace H := Rel.call H K)
    simp only [List.cons_append, List.nil_append] at H
    (first | (refine H.wg ?_; clear H; intros; rename_i w H; constructor) | refine wk ?_)
    (first | exact H.base | exact ⟨by simp, H.base⟩ | exact ⟨rfl, H.base⟩)
  · obtain ⟨o1, m1, m2, m3⟩ := g2 hc
    have e1 : frRes v (hexShape v).isSome (hexMake v R) = (o1, 0, 0) := by rw [m1]; unfold frRes; rw [if_neg (fun h => h hvf), if_neg (by rw [hsh]; decide)]
    have t1 : toRes (hexTo o1) o1.length = ⟨v, R, 0, 0⟩ := by unfold toRes; rw [if_neg (by omega), m2]
    rw [e1] at H hr7
    dsimp only at H hr7
    have hd : (C : Int) = 16 → ¬ (s.len : Int) ≤ 32 := fun h1 h2 => hc ⟨by omega, by omega⟩
    by_cases hc1 : (C : Int) = 16
    · have hd2 := hd hc1
      (first | (refine H.wg ?_; clear H; intros; rename_i w H; constructor) | refine wk ?_)
      refine (to_hex H.data hM8 hr7 (by omega)).use ?_
      rintro q w ⟨V9, h9, r9, hV9, K, rfl, hv9, hr9⟩
      (have hKb := K.base; replace H := Rel.call H K)
      simp only [List.cons_append, List.nil_append] at H
      rw [t1] at hv9 hr9 ⊢
      dsimp only at hv9 hr9 ⊢
      (first | (refine H.wh ?_; clear H; intros; rename_i w H; constructor) | refine wk ?_)
      ((first | refine Rel.nwD H ?_ | refine Rel.nw H ?_); clear H; intro w b13 H)
      (first | (refine H.wh ?_; clear H; intros; rename_i w H; constructor) | refine wk ?_)
      ((first | refine Rel.nwD H ?_ | refine Rel.nw H ?_); clear H; intro w b15 H)
      (first | (refine H.wg ?_; clear H; intros; rename_i w H; constructor) | refine wk ?_)
      refine (to_hex H.data (hM8.up hV9) (hr8.up hV9) (by omega)).use ?_
      rintro q w ⟨V10, h10, r10, hV10, K, rfl, hv10, hr10⟩
      (have hKb := K.base; replace H := Rel.call H K)
      simp only [List.cons_append, List.nil_append] at H
      rw [t2] at hv10 hr10 ⊢
      dsimp only at hv10 hr10 ⊢
      have hrt : r10.len = 0 := hr10.len
      have hVA := hV9.trans hV10
      have z0 := hVA.cell z0
      have z1 := hVA.cell z1
      have z2 := hVA.cell z2
      have z3 := hVA.cell z3
      have z4 := hVA.cell z4
      (first | (refine H.wh ?_; clear H; intros; rename_i w H; constructor) | refine wk ?_)
      ((first | refine Rel.nwD H ?_ | refine Rel.nw H ?_); clear H; intro w b16 H)
      (first | (refine H.wh ?_; clear H; intros; rename_i w H; constructor) | refine wk ?_)
      ((first | refine Rel.nwD H ?_ | refine Rel.nw H ?_); clear H; intro w b18 H)
      (first | (refine H.wg ?_; clear H; intros; rename_i w H; constructor) | refine wk ?_)
      refine (same_value (SizeOf.sizeOf (v : Val) + 1) H.data (Nat.lt_succ_self _) (hv9.up hV10) (hvh.up hVA) (vb_big hvB)).use ?_
      rintro q w ⟨r0, rfl, hsame, K⟩
      (have hKb := K.base; replace H := Rel.call H K)
      simp only [List.cons_append, List.nil_append] at H
      obtain rfl := hsame.2 rfl
      (first | (refine H.wg ?_; clear H; intros; rename_i w H; constructor) | refine wk ?_)
      refine (same_value (SizeOf.sizeOf (v : Val) + 1) H.data (Nat.lt_succ_self _) hv10 (hvh.up hVA) (vb_big hvB)).use ?_
      rintro q w ⟨r0, rfl, hsame, K⟩
      (have hKb := K.base; replace H := Rel.call H K)
      simp only [List.cons_append, List.nil_append] at H
      obtain rfl := hsame.2 rfl
      (first | (refine H.wg ?_; clear H; intros; rename_i w H; constructor) | refine wk ?_)
      refine (bytes_ref H.data (hr9.up hV10) (hr6.up hVA)).use ?_
      rintro q w ⟨rfl, K⟩
      (have hKb := K.base; replace H := Rel.call H K)
      simp only [List.cons_append, List.nil_append] at H
      rw [decide_eq_true rfl]
      (first | (refine H.wg ?_; clear H; intros; rename_i w H; constructor) | refine wk ?_)
      refine ⟨?_, H.base⟩
      rw [hrt]
      rfl
    · (first | (refine H.wg ?_; clear H; intros; rename_i w H; constructor) | refine wk ?_)
      refine (to_hex H.data hM8 hr7 (by omega)).use ?_
      rintro q w ⟨V9, h9, r9, hV9, K, rfl, hv9, hr9⟩
      (have hKb := K.base; replace H := Rel.call H K)
      simp only [List.cons_append, List.nil_append] at H
      rw [t1] at hv9 hr9 ⊢
      dsimp only at hv9 hr9 ⊢
      (first | (refine H.wh ?_; clear H; intros; rename_i w H; constructor) | refine wk ?_)
      ((first | refine Rel.nwD H ?_ | refine Rel.nw H ?_); clear H; intro w b13 H)
      (first | (refine H.wh ?_; clear H; intros; rename_i w H; constructor) | refine wk ?_)
      ((first | refine Rel.nwD H ?_ | refine Rel.nw H ?_); clear H; intro w b15 H)
      (first | (refine H.wg ?_; clear H; intros; rename_i w H; constructor) | refine wk ?_)
      refine (to_hex H.data (hM8.up hV9) (hr8.up hV9) (by omega)).use ?_
      rintro q w ⟨V10, h10, r10, hV10, K, rfl, hv10, hr10⟩
      (have hKb := K.base; replace H := Rel.call H K)
      simp only [List.cons_append, List.nil_append] at H
      rw [t2] at hv10 hr10 ⊢
      dsimp only at hv10 hr10 ⊢
      have hrt : r10.len = 0 := hr10.len
      have hVA := hV9.trans hV10
      have z0 := hVA.cell z0
      have z1 := hVA.cell z1
      have z2 := hVA.cell z2
      have z3 := hVA.cell z3
      have z4 := hVA.cell z4
      (first | (refine H.wh ?_; clear H; intros; rename_i w H; constructor) | refine wk ?_)
      ((first | refine Rel.nwD H ?_ | refine Rel.nw H ?_); clear H; intro w b16 H)
      (first | (refine H.wh ?_; clear H; intros; rename_i w H; constructor) | refine wk ?_)
      ((first | refine Rel.nwD H ?_ | refine Rel.nw H ?_); clear H; intro w b18 H)
      (first | (refine H.wg ?_; clear H; intros; rename_i w H; constructor) | refine wk ?_)
      refine (same_value (SizeOf.sizeOf (v : Val) + 1) H.data (Nat.lt_succ_self _) (hv9.up hV10) (hvh.up hVA) (vb_big hvB)).use ?_
      rintro q w ⟨r0, rfl, hsame, K⟩
      (have hKb := K.base; replace H := Rel.call H K)
      simp only [List.cons_append, List.nil_append] at H
      obtain rfl := hsame.2 rfl
      (first | (refine H.wg ?_; clear H; intros; rename_i w H; constructor) | refine wk ?_)
      refine (same_value (SizeOf.sizeOf (v : Val) + 1) H.data (Nat.lt_succ_self _) hv10 (hvh.up hVA) (vb_big hvB)).use ?_
      rintro q w ⟨r0, rfl, hsame, K⟩
      (have hKb := K.base; replace H := Rel.call H K)
      simp only [List.cons_append, List.nil_append] at H
      obtain rfl := hsame.2 rfl
      (first | (refine H.wg ?_; clear H; intros; rename_i w H; constructor) | refine wk ?_)
      refine (bytes_ref H.data (hr9.up hV10) (hr6.up hVA)).use ?_
      rintro q w ⟨rfl, K⟩
      (have hKb := K.base; replace H := Rel.call H K)
      simp only [List.cons_append, List.nil_append] at H
      rw [decide_eq_true rfl]
      (first | (refine H.wg ?_; clear H; intros; rename_i w H; constructor) | refine wk ?_)
      refine ⟨?_, H.base⟩
      rw [hrt]
      rfl
end Go.Proofs.Ytjfcpnlacodjjaa
