/-
  Files of hexadecimal records, the reference: PlainHex, usualLengths, TableResidue.
-/
import Derived.Test.YtjfcpnlacodjjaaHexH
namespace Go.Proofs.Ytjfcpnlacodjjaa
open Go Go.RowKit

section
variable {V W : World}
set_option maxRecDepth 100000 in
set_option maxHeartbeats 1000000 in
theorem plainHex_ref (hV : Sub V W) {s : Sl} {S : List Seg} (hs : SegsAt V s S) (hl : S.length ≤ 1000) : Ret Try.prog 38 [s.v].toArray W fun v w' => ∃ (V' : World) (h : VH), Sub V V' ∧ Rel W V [] V' w' ∧ v = valV h ∧ ValAt V' h (hexVal S) := by
  have H := Rel.start hV
  have hsl := hs.len
  obtain ⟨gs, hgs, hpw⟩ := hs
  have hgl := hpw.len
  refine cal_of_vc tabOk Try.func38 rfl (by kernel_rfl) 33 rfl (by simp) [0, 2, 3, 4, 9] ?_
  (first | (refine H.wh ?_; clear H; intros; rename_i w H; constructor) | refine wk ?_)
  ((first | refine Rel.nwD H ?_ | refine Rel.nw H ?_); clear H; intro w b2 H)
  (first | (refine H.wh ?_; clear H; intros; rename_i w H; constructor) | refine wk ?_)
  ((first | refine Rel.nwD H ?_ | refine Rel.nw H ?_); clear H; intro w b3 H)
  (first | (refine H.wg ?_; clear H; intros; rename_i w H; constructor) | refine wk ?_)
  replace H := H.rowNil 27 5
  refine loop_inv (S := Nat × Sl × List VH) tabOk [0, 2, 3] (fun q => [(4, iv q.1)]) (fun q w' => q.1 ≤ S.length ∧ ∃ V3, Sub V V3 ∧ Pw SegV V3 q.2.2 (S.take q.1) ∧ Rel W V [.row q.2.1 27 5 (q.2.2.flatMap valC), .blk b3 [iv 3, iv 0, .slice none 0 0, .slice none 0 0, q.2.1.v] 27, .blk b2 (valC zeroH) 27] V3 w') (fun q _ => S.length - q.1) (0, ⟨none, 0, 0⟩, []) ?_
  (conv => whnf)
  refine ⟨(by repeat (first | exact trivial | refine ⟨rfl, ?_⟩)), ⟨by omega, V, Sub.refl _, Pw.nil, H⟩, ?_⟩
  clear H
  rintro ⟨kk, pr, hh⟩ w ⟨hkk, V3, hV3, hP, H⟩
  dsimp only at hkk hP H ⊢
  by_cases hlt : kk < S.length
  · obtain ⟨p0, c0, c1⟩ := (hgs.up hV3).at2 (g := fun h : Nat × Sl => iv (h.1 : Int)) (g' := fun h : Nat × Sl => h.2.v) (fun _ => rfl) (i := kk) (by omega)
    have hR := hpw.all kk _ _ (List.getElem?_eq_getElem (by omega)) (List.getElem?_eq_getElem hlt)
    obtain ⟨x, hx⟩ : ∃ x, x = gs[kk]'(by omega) := ⟨_, rfl⟩
    obtain ⟨y, hy⟩ : ∃ y, y = S[kk] := ⟨_, rfl⟩
    rw [← hx, ← hy] at hR
    rw [← hx] at c0 c1
    have hst := List.take_succ_eq_append_getElem hlt
    rw [← hy] at hst
    obtain ⟨xa, xs⟩ := x
    obtain ⟨ya, yd⟩ := y
    obtain ⟨hxy, hby⟩ := hR
    dsimp only at hby hxy c0 c1
    subst hxy
    have hpl := hP.len
    rw [List.length_take] at hpl
    (first | (refine H.wg ?_; clear H; intros; rename_i w H; constructor) | refine wk ?_)
    ((first | refine draw_vcT (id := 5) tabOk mixed [2, 15, 17] [0, 1, 3, 4, 5, 6, 7, 8, 9, 10, 11, 12, 13, 14, 2, 15, 16, 17, 18, 19, 20] [(2, []), (15, []), (17, [2, 15]), (18, [2, 15, 17]), (20, [2, 15, 17, 18])] (by kernel_rfl) ?_); intro w hdw; replace H := Rel.ext H hdw.ext)
    repeat' ((first | (refine H.wh ?_; clear H; intros; rename_i w H; constructor) | refine wk ?_); first | refine And.intro ?_ ?_ | ((first | refine Rel.nwD H ?_ | refine Rel.nw H ?_); clear H; intro w _ H))
    · rename_i bn wx bp bt
      refine Rel.app1_2 (f := valC) (l := hh) (x := ⟨4, 0, ⟨none, 0, 0⟩, ⟨some ⟨bn, 0, none⟩, 2, 2⟩, ⟨some ⟨bp, 0, none⟩, 2, 2⟩⟩) tabOk rfl rfl rfl rfl rfl (by decide) (fun _ => rfl) (by simp [Value.oneCell']) H (by show (hh.length + 1) * 88 ≤ _; omega) (by omega) ?_
      clear H
      intro pr1 w H
      (first | (refine H.wg ?_; clear H; intros; rename_i w H; constructor) | refine wk ?_)
      have H0 : Rel W V [.blk bn [str sAt, str sData] 9, .blk bp (valC (numH (xa : Int)) ++ valC (bytH xs)) 27, .row pr1 27 5 ((hh ++ [(⟨4, 0, ⟨none, 0, 0⟩, ⟨some ⟨bn, 0, none⟩, 2, 2⟩, ⟨some ⟨bp, 0, none⟩, 2, 2⟩⟩ : VH)]).flatMap valC), .blk b3 [iv 3, iv 0, .slice none 0 0, .slice none 0 0, pr1.v] 27, .blk b2 (valC zeroH) 27] V3 w := H.pick
      obtain ⟨V4, hV4, H, hbn⟩ := H0.freezeBlk
      obtain ⟨V5, hV5, H, hbp⟩ := H.freezeBlk
      have hV45 := hV4.trans hV5
      refine ⟨(by repeat (first | exact trivial | refine ⟨rfl, ?_⟩)), (kk + 1, pr1, hh ++ [⟨4, 0, ⟨none, 0, 0⟩, ⟨some ⟨bn, 0, none⟩, 2, 2⟩, ⟨some ⟨bp, 0, none⟩, 2, 2⟩⟩]), (by repeat (first | exact trivial | refine ⟨rfl, ?_⟩)), ⟨by dsimp only; omega, V5, hV3.trans hV45, ?_, H⟩, by dsimp only; omega⟩
      dsimp only
      rw [hst]
      exact (hP.up segV_up hV45).snoc (segV_at ⟨rfl, Nat.le_refl _, hbn.cells.sub' hV5⟩ ⟨rfl, Nat.le_refl _, hbp.cells⟩ (hby.up (hV3.trans hV45)))
    · rename_i bp wx bn bt
      refine Rel.app1_2 (f := valC) (l := hh) (x := ⟨4, 0, ⟨none, 0, 0⟩, ⟨some ⟨bn, 0, none⟩, 2, 2⟩, ⟨some ⟨bp, 0, none⟩, 2, 2⟩⟩) tabOk rfl rfl rfl rfl rfl (by decide) (fun _ => rfl) (by simp [Value.oneCell']) H (by show (hh.length + 1) * 88 ≤ _; omega) (by omega) ?_
      clear H
      intro pr1 w H
      (first | (refine H.wg ?_; clear H; intros; rename_i w H; constructor) | refine wk ?_)
      have H0 : Rel W V [.blk bn [str sAt, str sData] 9, .blk bp (valC (numH (xa : Int)) ++ valC (bytH xs)) 27, .row pr1 27 5 ((hh ++ [(⟨4, 0, ⟨none, 0, 0⟩, ⟨some ⟨bn, 0, none⟩, 2, 2⟩, ⟨some ⟨bp, 0, none⟩, 2, 2⟩⟩ : VH)]).flatMap valC), .blk b3 [iv 3, iv 0, .slice none 0 0, .slice none 0 0, pr1.v] 27, .blk b2 (valC zeroH) 27] V3 w := H.pick
      obtain ⟨V4, hV4, H, hbn⟩ := H0.freezeBlk
      obtain ⟨V5, hV5, H, hbp⟩ := H.freezeBlk
      have hV45 := hV4.trans hV5
      refine ⟨(by repeat (first | exact trivial | refine ⟨rfl, ?_⟩)), (kk + 1, pr1, hh ++ [⟨4, 0, ⟨none, 0, 0⟩, ⟨some ⟨bn, 0, none⟩, 2, 2⟩, ⟨some ⟨bp, 0, none⟩, 2, 2⟩⟩]), (by repeat (first | exact trivial | refine ⟨rfl, ?_⟩)), ⟨by dsimp only; omega, V5, hV3.trans hV45, ?_, H⟩, by dsimp only; omega⟩
      dsimp only
      rw [hst]
      exact (hP.up segV_up hV45).snoc (segV_at ⟨rfl, Nat.le_refl _, hbn.cells.sub' hV5⟩ ⟨rfl, Nat.le_refl _, hbp.cells⟩ (hby.up (hV3.trans hV45)))
  · obtain rfl : kk = S.length := by omega
    rw [List.take_length] at hP
    obtain ⟨V4, hV4, H, hr⟩ := Rel.freezeF H (fun _ => rfl) (by decide)
    (first | (refine H.wg ?_; clear H; intros; rename_i w H; constructor) | refine wk ?_)
    exact ⟨V4, ⟨3, 0, ⟨none, 0, 0⟩, ⟨none, 0, 0⟩, pr⟩, hV3.trans hV4, H.sx, rfl, hexVal_at hr (hP.up segV_up hV4)⟩
set_option maxRecDepth 100000 in
set_option maxHeartbeats 1000000 in
theorem usualLengths_ref (hV : Sub V W) {s : Sl} {S : List Seg} (hs : SegsAt V s S) (hl : S.length ≤ 1000) (hok : segOk S) : Ret Try.prog 60 [s.v].toArray W fun v w' => ∃ r : Sl, v = r.v ∧ Rel W V [.row r 3 1 ((ints (usual S)).flatMap itC)] V w' := by
  have H := Rel.start hV
  have hsl := hs.len
  obtain ⟨gs, hgs, hpw⟩ := hs
  have hgl := hpw.len
  refine cal_of_vc tabOk Try.func60 rfl (by kernel_rfl) 30 rfl (by simp) [0, 2, 3, 4, 5, 9, 19] ?_
  (first | (refine H.wg ?_; clear H; intros; rename_i w H; constructor) | refine wk ?_)
  replace H := H.rowNil 3 1
  refine loop_inv (S := Nat × Sl) tabOk [0, 2] (fun q => [(3, q.2.v), (4, iv q.1)]) (fun q w' => q.1 ≤ S.length ∧ Rel W V [.row q.2 3 1 ((ints (usual (S.take q.1))).flatMap itC)] V w') (fun q _ => S.length - q.1) (0, ⟨none, 0, 0⟩) ?_
  (conv => whnf)
  refine ⟨(by repeat (first | exact trivial | refine ⟨rfl, ?_⟩)), ⟨by omega, H⟩, ?_⟩
  clear H
  rintro ⟨kk, r0⟩ w ⟨hkk, H⟩
  dsimp only at hkk H ⊢
  by_cases hlt : kk < S.length
  · obtain ⟨p0, c0, c1⟩ := hgs.at2 (g := fun h : Nat × Sl => iv (h.1 : Int)) (g' := fun h : Nat × Sl => h.2.v) (fun _ => rfl) (i := kk) (by omega)
    have hR := hpw.all kk _ _ (List.getElem?_eq_getElem (by omega)) (List.getElem?_eq_getElem hlt)
    obtain ⟨x, hx⟩ : ∃ x, x = gs[kk]'(by omega) := ⟨_, rfl⟩
    obtain ⟨y, hy⟩ : ∃ y, y = S[kk] := ⟨_, rfl⟩
    rw [← hx, ← hy] at hR
    rw [← hx] at c0 c1
    have hyo := hok y (by rw [hy]; exact List.getElem_mem hlt)
    have hyn := List.length_pos_iff.2 hyo.2.1
    have hus := usual_le (S := S.take kk) fun z hz => by have := hok z (List.mem_of_mem_take hz); omega
    rw [List.length_take] at hus
    have hsn := usual_snoc hlt
    rw [← hy] at hsn
    obtain ⟨xa, xs⟩ := x
    obtain ⟨_, hby⟩ := hR
    dsimp only at hby c0 c1
    have hbl := hby.len
    have hul := usualN_le y.2.length
    (first | (refine H.wg ?_; clear H; intros; rename_i w H; constructor) | refine wk ?_)
    refine loop_inv (S := Sl × List Nat × Nat) tabOk [0, 2, 4, 9] (fun q => [(3, q.1.v), (5, iv q.2.2)]) (fun q w' => 1 ≤ q.2.2 ∧ q.2.2 ≤ 65536 ∧ q.2.1 ++ usualN q.2.2 = usualN y.2.length ∧ Rel W V [.row q.1 3 1 ((ints (usual (S.take kk) ++ q.2.1)).flatMap itC)] V w') (fun q _ => q.2.2) (r0, [], y.2.length) ?_
    (conv => whnf)
    refine ⟨⟨rfl, congrArg (fun z => some (iv z)) (by dsimp only; omega), trivial⟩, ⟨by dsimp only; omega, by dsimp only; omega, rfl, by dsimp only; rw [List.append_nil]; exact H⟩, ?_⟩
    clear H
    rintro ⟨r, pre, n⟩ w ⟨hn1, hn2, hpre, H⟩
    dsimp only at hn1 hn2 hpre H ⊢
    have hpl := congrArg List.length hpre
    rw [List.length_append] at hpl
    by_cases h16 : 16 < n
    · (first | (refine H.wg ?_; clear H; intros; rename_i w H; constructor) | refine wk ?_)
      refine Rel.app1_0 (f := itC) (l := ints (usual (S.take kk) ++ pre)) (x := 16) tabOk rfl rfl rfl rfl rfl (by decide) (fun _ => rfl) (by simp [Value.oneCell']) H (by show ((ints (usual (S.take kk) ++ pre)).length + 1) * 8 ≤ _; simp only [List.length_map, List.length_append]; omega) (by simp only [List.length_map, List.length_append]; omega) ?_
      clear H
      intro r1 w H
      rw [show ints (usual (S.take kk) ++ pre) ++ [16] = ints (usual (S.take kk) ++ (pre ++ [16])) by simp] at H
      (first | (refine H.wg ?_; clear H; intros; rename_i w H; constructor) | refine wk ?_)
      exact ⟨(by repeat (first | exact trivial | refine ⟨rfl, ?_⟩)), (r1, pre ++ [16], n - 16), ⟨rfl, congrArg (fun z => some (iv z)) (by dsimp only; omega), trivial⟩, ⟨by dsimp only; omega, by dsimp only; omega, by dsimp only; rw [List.append_assoc, ← hpre, usualN_big h16]; rfl, H⟩, by dsimp only; omega⟩
    · (first | (refine H.wg ?_; clear H; intros; rename_i w H; constructor) | refine wk ?_)
      refine Rel.app1_0 (f := itC) (l := ints (usual (S.take kk) ++ pre)) (x := (n : Int)) tabOk rfl rfl rfl rfl rfl (by decide) (fun _ => rfl) (by simp [Value.oneCell']) H (by show ((ints (usual (S.take kk) ++ pre)).length + 1) * 8 ≤ _; simp only [List.length_map, List.length_append]; omega) (by simp only [List.length_map, List.length_append]; omega) ?_
      clear H
      intro r1 w H
      rw [show ints (usual (S.take kk) ++ pre) ++ [(n : Int)] = ints (usual (S.take kk) ++ (pre ++ [n])) by simp, show pre ++ [n] = usualN y.2.length by rw [← hpre, usualN_small (by omega) (by omega)], ← hsn] at H
      (first | (refine H.wg ?_; clear H; intros; rename_i w H; constructor) | refine wk ?_)
      exact ⟨(by repeat (first | exact trivial | refine ⟨rfl, ?_⟩)), (kk + 1, r1), (by repeat (first | exact trivial | refine ⟨rfl, ?_⟩)), ⟨by dsimp only; omega, H⟩, by dsimp only; omega⟩
  · obtain rfl : kk = S.length := by omega
    rw [List.take_length] at H
    (first | (refine H.wg ?_; clear H; intros; rename_i w H; constructor) | refine wk ?_)
    exact ⟨r0, rfl, H⟩
set_option maxRecDepth 100000 in
set_option maxHeartbeats 1000000 in
theorem tableResidue_ref (hV : Sub V W) {fl : Nat} (hf : fl < 1000) {s : Sl} {Z : List Nat} (hs : SlF itC V s (ints Z)) (hZl : Z.length ≤ 1000) (hZ : ∀ n ∈ Z, n ≤ 255) : Ret Try.prog 39 [iv (fl : Int), s.v].toArray W fun v w' => ∃ (V' : World) (r : Sl), Sub V V' ∧ Rel W V [] V' w' ∧ v = r.v ∧ Byt V' r (resB fl Z) := by
  have H := Rel.start hV
  have hsl := hs.len
  rw [List.length_map] at hsl
  refine cal_of_vc tabOk Try.func39 rfl (by kernel_rfl) 34 rfl (by simp) [0, 1, 4, 5, 6, 13, 23] ?_
  by_cases h0 : fl = 0 ∧ Z = []
  · have e : resB fl Z = [] := by unfold resB; rw [if_pos h0]
    obtain ⟨h1, h2⟩ := h0
    have h3 : Z.length = 0 := by rw [h2]; rfl
    rw [e]
    (first | (refine H.wg ?_; clear H; intros; rename_i w H; constructor) | refine wk ?_)
    exact ⟨V, ⟨none, 0, 0⟩, Sub.refl _, H.sx, rfl, SlF.nil _ _⟩
  have e : resB fl Z = putN fl ++ putL putN (ints Z) := by unfold resB; rw [if_neg h0]
  rw [e]
  have hpl := putL_ints_len (Z := Z) hZl hZ
  have hpn := putN_len (n := (fl : Int)) (by omega) (by omega)
  have hpz := putN_len (n := (Z.length : Int)) (by omega) (by omega)
  have hil : (ints Z).length = Z.length := by simp
  by_cases h1 : fl = 0
  · have h3 : Z.length ≠ 0 := fun q => h0 ⟨h1, List.eq_nil_of_length_eq_zero q⟩
    (first | (refine H.wg ?_; clear H; intros; rename_i w H; constructor) | refine wk ?_)
    refine (put_ref (n := (fl : Int)) H.data (by constructor <;> omega)).use ?_
    rintro v w ⟨r1, rfl, K⟩
    (have hKb := K.base; replace H := Rel.call H K)
    simp only [List.nil_append, List.append_nil] at H
    obtain ⟨V2, hV2, H, hr1⟩ := Rel.freezeF H (fun _ => rfl) (by decide)
    (first | (refine H.wg ?_; clear H; intros; rename_i w H; constructor) | refine wk ?_)
    rw [hsl]
    refine (put_ref (n := (Z.length : Int)) H.data (by constructor <;> omega)).use ?_
    rintro v w ⟨r2, rfl, K⟩
    (have hKb := K.base; replace H := Rel.call H K)
    simp only [List.nil_append, List.append_nil] at H
    obtain ⟨V3, hV3, H, hr2⟩ := Rel.freezeF H (fun _ => rfl) (by decide)
    (first | (refine H.wg ?_; clear H; intros; rename_i w H; constructor) | refine wk ?_)
    refine (join_ref H.data (hr1.up hV3) hr2 (by omega)).use ?_
    rintro v w ⟨r3, rfl, K⟩
    (have hKb := K.base; replace H := Rel.call H K)
    simp only [List.nil_append, List.append_nil] at H
    have hV23 := hV2.trans hV3
    (first | (refine H.wg ?_; clear H; intros; rename_i w H; constructor) | refine wk ?_)
    refine loop_inv (S := Nat × Sl) tabOk [0, 1, 4, 13] (fun q => [(5, q.2.v), (6, iv q.1)]) (fun q w' => q.1 ≤ Z.length ∧ Rel W V [.row q.2 5 1 ((putN fl ++ putN Z.length ++ ((ints Z).take q.1).flatMap putN).flatMap byC)] V3 w') (fun q _ => Z.length - q.1) (0, r3) ?_
    (conv => whnf)
    refine ⟨(by repeat (first | exact trivial | refine ⟨rfl, ?_⟩)), ⟨by omega, by rw [List.take_zero, List.flatMap_nil, List.append_nil]; exact H⟩, ?_⟩
    clear H
    rintro ⟨k, r⟩ w ⟨hk, H⟩
    dsimp only at hk H ⊢
    by_cases hlt : k < Z.length
    · have hli : k < (ints Z).length := by omega
      obtain ⟨p0, c0⟩ := (hs.up hV23).at1 (g := iv) (fun _ => rfl) hli
      have ht := List.take_succ_eq_append_getElem hli
      obtain ⟨z, hz⟩ : ∃ z, z = (ints Z)[k] := ⟨_, rfl⟩
      have hzb : 0 ≤ z ∧ z ≤ 255 := by
        obtain ⟨n, hn, e⟩ := List.mem_map.1 (show z ∈ ints Z by rw [hz]; exact List.getElem_mem hli)
        have := hZ n hn
        omega
      rw [← hz] at c0 ht
      have hfl : (((ints Z).take k).flatMap putN).length + (putN z).length ≤ ((ints Z).flatMap putN).length := by
        have := flat_part (enc := putN) hli
        rw [← hz] at this
        exact this
      unfold putL at hpl
      rw [List.length_append] at hpl
      (first | (refine H.wg ?_; clear H; intros; rename_i w H; constructor) | refine wk ?_)
      refine (put_ref (n := z) H.data (by constructor <;> omega)).use ?_
      rintro v w ⟨rz, rfl, K⟩
      (have hKb := K.base; replace H := Rel.call H K)
      simp only [List.cons_append, List.nil_append] at H
      (first | (refine H.wg ?_; clear H; intros; rename_i w H; constructor) | refine wk ?_)
      refine Rel.appB H (i := 0) rfl (by simp only [List.length_append]; omega) ?_
      clear H
      intro rn w H
      simp only [List.set_cons_zero] at H
      rw [show putN (fl : Int) ++ putN (Z.length : Int) ++ ((ints Z).take k).flatMap putN ++ putN z = putN (fl : Int) ++ putN (Z.length : Int) ++ ((ints Z).take (k + 1)).flatMap putN by rw [ht, List.flatMap_append, List.append_assoc]; simp] at H
      (first | (refine H.wg ?_; clear H; intros; rename_i w H; constructor) | refine wk ?_)
      exact ⟨(by repeat (first | exact trivial | refine ⟨rfl, ?_⟩)), (k + 1, rn), (by repeat (first | exact trivial | refine ⟨rfl, ?_⟩)), ⟨by dsimp only; omega, H⟩, by dsimp only; omega⟩
    · obtain rfl : k = Z.length := by omega
      rw [List.take_of_length_le (by omega)] at H
      rw [show putN (fl : Int) ++ putN (Z.length : Int) ++ (ints Z).flatMap putN = putN (fl : Int) ++ putL putN (ints Z) by unfold putL; rw [hil, List.append_assoc]] at H
      obtain ⟨V4, hV4, H, hr⟩ := Rel.freezeF H (fun _ => rfl) (by decide)
      (first | (refine H.wg ?_; clear H; intros; rename_i w H; constructor) | refine wk ?_)
      exact ⟨V4, r, hV23.trans hV4, H.sx, rfl, hr⟩
  · (first | (refine H.wg ?_; clear H; intros; rename_i w H; constructor) | refine wk ?_)
    refine (put_ref (n := (fl : Int)) H.data (by constructor <;> omega)).use ?_
    rintro v w ⟨r1, rfl, K⟩
    (have hKb := K.base; replace H := Rel.call H K)
    simp only [List.nil_append, List.append_nil] at H
    obtain ⟨V2, hV2, H, hr1⟩ := Rel.freezeF H (fun _ => rfl) (by decide)
    (first | (refine H.wg ?_; clear H; intros; rename_i w H; constructor) | refine wk ?_)
    rw [hsl]
    refine (put_ref (n := (Z.length : Int)) H.data (by constructor <;> omega)).use ?_
    rintro v w ⟨r2, rfl, K⟩
    (have hKb := K.base; replace H := Rel.call H K)
    simp only [List.nil_append, List.append_nil] at H
    obtain ⟨V3, hV3, H, hr2⟩ := Rel.freezeF H (fun _ => rfl) (by decide)
    (first | (refine H.wg ?_; clear H; intros; rename_i w H; constructor) | refine wk ?_)
    refine (join_ref H.data (hr1.up hV3) hr2 (by omega)).use ?_
    rintro v w ⟨r3, rfl, K⟩
    (have hKb := K.base; replace H := Rel.call H K)
    simp only [List.nil_append, List.append_nil] at H
    have hV23 := hV2.trans hV3
    (first | (refine H.wg ?_; clear H; intros; rename_i w H; constructor) | refine wk ?_)
    refine loop_inv (S := Nat × Sl) tabOk [0, 1, 4, 13] (fun q => [(5, q.2.v), (6, iv q.1)]) (fun q w' => q.1 ≤ Z.length ∧ Rel W V [.row q.2 5 1 ((putN fl ++ putN Z.length ++ ((ints Z).take q.1).flatMap putN).flatMap byC)] V3 w') (fun q _ => Z.length - q.1) (0, r3) ?_
    (conv => whnf)
    refine ⟨(by repeat (first | exact trivial | refine ⟨rfl, ?_⟩)), ⟨by omega, by rw [List.take_zero, List.flatMap_nil, List.append_nil]; exact H⟩, ?_⟩
    clear H
    rintro ⟨k, r⟩ w ⟨hk, H⟩
    dsimp only at hk H ⊢
    by_cases hlt : k < Z.length
    · have hli : k < (ints Z).length := by omega
      obtain ⟨p0, c0⟩ := (hs.up hV23).at1 (g := iv) (fun _ => rfl) hli
      have ht := List.take_succ_eq_append_getElem hli
      obtain ⟨z, hz⟩ : ∃ z, z = (ints Z)[k] := ⟨_, rfl⟩
      have hzb : 0 ≤ z ∧ z ≤ 255 := by
        obtain ⟨n, hn, e⟩ := List.mem_map.1 (show z ∈ ints Z by rw [hz]; exact List.getElem_mem hli)
        have := hZ n hn
        omega
      rw [← hz] at c0 ht
      have hfl : (((ints Z).take k).flatMap putN).length + (putN z).length ≤ ((ints Z).flatMap putN).length := by
        have := flat_part (enc := putN) hli
        rw [← hz] at this
        exact this
      unfold putL at hpl
      rw [List.length_append] at hpl
      (first | (refine H.wg ?_; clear H; intros; rename_i w H; constructor) | refine wk ?_)
      refine (put_ref (n := z) H.data (by constructor <;> omega)).use ?_
      rintro v w ⟨rz, rfl, K⟩
      (have hKb := K.base; replace H := Rel.call H K)
      simp only [List.cons_append, List.nil_append] at H
      (first | (refine H.wg ?_; clear H; intros; rename_i w H; constructor) | refine wk ?_)
      refine Rel.appB H (i := 0) rfl (by simp only [List.length_append]; omega) ?_
      clear H
      intro rn w H
      simp only [List.set_cons_zero] at H
      rw [show putN (fl : Int) ++ putN (Z.length : Int) ++ ((ints Z).take k).flatMap putN ++ putN z = putN (fl : Int) ++ putN (Z.length : Int) ++ ((ints Z).take (k + 1)).flatMap putN by rw [ht, List.flatMap_append, List.append_assoc]; simp] at H
      (first | (refine H.wg ?_; clear H; intros; rename_i w H; constructor) | refine wk ?_)
      exact ⟨(by repeat (first | exact trivial | refine ⟨rfl, ?_⟩)), (k + 1, rn), (by repeat (first | exact trivial | refine ⟨rfl, ?_⟩)), ⟨by dsimp only; omega, H⟩, by dsimp only; omega⟩
    · obtain rfl : k = Z.length := by omega
      rw [List.take_of_length_le (by omega)] at H
      rw [show putN (fl : Int) ++ putN (Z.length : Int) ++ (ints Z).flatMap putN = putN (fl : Int) ++ putL putN (ints Z) by unfold putL; rw [hil, List.append_assoc]] at H
      obtain ⟨V4, hV4, H, hr⟩ := Rel.freezeF H (fun _ => rfl) (by decide)
      (first | (refine H.wg ?_; clear H; intros; rename_i w H; constructor) | refine wk ?_)
      exact ⟨V4, r, hV23.trans hV4, H.sx, rfl, hr⟩
end
end Go.Proofs.Ytjfcpnlacodjjaa
