/-
  Files of hexadecimal records, the reference: PlainHex, usualLengths, TableResidue.
-/
import Derived.Test.YtjfcpnlacodjjaaGreatHexH
import Derived.Test.YtjfcpnlacodjjaaGreatLibC
import Derived.Test.YtjfcpnlacodjjaaGreatValI
namespace Go.Proofs.YtjfcpnlacodjjaaGreat
open Go Go.RowKit

section
variable {V W : World}
set_option maxRecDepth 100000 in
set_option maxHeartbeats 1000000 in
theorem plainHex_ref (hV : Sub V W) {s : Sl} {S : List Seg} (hs : SegsAt V s S) (hl : S.length ≤ 1000) : Ret Tryz.prog 14 [s.v].toArray W fun v w' => ∃ (V' : World) (h : VH), Sub V V' ∧ Rel W V [] V' w' ∧ v = valV h ∧ ValAt V' h (hexVal S) := by
  have H := Rel.start hV
  have hsl := hs.len
  obtain ⟨gs, hgs, hpw⟩ := hs
  have hgl := hpw.len
  refine cal_of_vc tabOk Tryz.func14 rfl (by kernel_rfl) 33 rfl (by simp) [0, 2, 3, 4, 9] ?_
  (first | (refine H.wh ?_; clear H; intros; rename_i w H; constructor) | refine wk ?_)
  ((first | refine Rel.nwD H ?_ | refine Rel.nw H ?_); clear H; intro w b2 H)
  (first | (refine H.wh ?_; clear H; intros; rename_i w H; constructor) | refine wk ?_)
  ((first | refine Rel.nwD H ?_ | refine Rel.nw H ?_); clear H; intro w b3 H)
  (first | (refine H.wg ?_; clear H; intros; rename_i w H; constructor) | refine wk ?_)
  replace H := H.rowNil 26 5
  refine loop_inv (S := Nat × Sl × List VH) tabOk [0, 2, 3] (fun q => [(4, iv q.1)]) (fun q w' => q.1 ≤ S.length ∧ ∃ V3, Sub V V3 ∧ Pw SegV V3 q.2.2 (S.take q.1) ∧ Rel W V [.row q.2.1 26 5 (q.2.2.flatMap valC), .blk b3 [iv 3, iv 0, .slice none 0 0, .slice none 0 0, q.2.1.v] 26, .blk b2 (valC zeroH) 26] V3 w') (fun q _ => S.length - q.1) (0, ⟨none, 0, 0⟩, []) ?_
  (conv => whnf)
  refine ⟨(by repeat (first | exact trivial | refine ⟨rfl, ?_⟩)), ⟨by omega, V, Sub.refl _, Pw.nil, H⟩, ?_⟩
  clear H
  rintro ⟨kk, pr, hh⟩ w ⟨hkk, V3, hV3, hP, H⟩
  dsimp only at hkk hP H ⊢
  by_cases hlt : kk < S.length
  · obtain ⟨p0, c0, c1⟩ := (hgs.up hV3).at2 (g := fun h : Nat × Sl => iv (h.1 : Int)) (g' := fun h : Nat × Sl => h.2.v) (fun _ => rfl) (i := kk) (by omega)
    have hR := hpw.all kk _ _ (List.getElem?_eq_getElem (by omega)) (List.getElem?_eq_getElem hlt)
    obtain ⟨x, hx⟩ : ∃ x, x = gs[kk]'(by omega) := ⟨_, rfl⟩
    obtain ⟨y, hy⟩ : ∃ y, y = S[kk] := ⟨_, rfl⟩
    rw [← hx, ← hy] at hR
    rw [← hx] at c0 c1
    have hst := List.take_succ_eq_append_getElem hlt
    rw [← hy] at hst
    obtain ⟨xa, xs⟩ := x
    obtain ⟨ya, yd⟩ := y
    obtain ⟨hxy, hby⟩ := hR
    dsimp only at hby hxy c0 c1
    subst hxy
    have hpl := hP.len
    rw [List.length_take] at hpl
    (first | (refine H.wg ?_; clear H; intros; rename_i w H; constructor) | refine wk ?_)
    ((first | refine draw_vcT (id := 5) tabOk mixed [2, 15, 17] [0, 1, 3, 4, 5, 6, 7, 8, 9, 10, 11, 12, 13, 14, 2, 15, 16, 17, 18, 19, 20] [(2, []), (15, []), (17, [2, 15]), (18, [2, 15, 17]), (20, [2, 15, 17, 18])] (by kernel_rfl) ?_); intro w hdw; replace H := Rel.ext H hdw.ext)
    repeat' ((first | (refine H.wh ?_; clear H; intros; rename_i w H; constructor) | refine wk ?_); first | refine And.intro ?_ ?_ | ((first | refine Rel.nwD H ?_ | refine Rel.nw H ?_); clear H; intro w _ H))
    · rename_i bn wx bp bt
      refine Rel.app1_2 (f := valC) (l := hh) (x := ⟨4, 0, ⟨none, 0, 0⟩, ⟨some ⟨bn, 0, none⟩, 2, 2⟩, ⟨some ⟨bp, 0, none⟩, 2, 2⟩⟩) tabOk rfl rfl rfl rfl rfl (by decide) (fun _ => rfl) (by simp [Value.oneCell']) H (by show (hh.length + 1) * 88 ≤ _; omega) (by omega) ?_
      clear H
      intro pr1 w H
      (first | (refine H.wg ?_; clear H; intros; rename_i w H; constructor) | refine wk ?_)
      have H0 : Rel W V [.blk bn [str sAt, str sData] 9, .blk bp (valC (numH (xa : Int)) ++ valC (bytH xs)) 26, .row pr1 26 5 ((hh ++ [(⟨4, 0, ⟨none, 0, 0⟩, ⟨some ⟨bn, 0, none⟩, 2, 2⟩, ⟨some ⟨bp, 0, none⟩, 2, 2⟩⟩ : VH)]).flatMap valC), .blk b3 [iv 3, iv 0, .slice none 0 0, .slice none 0 0, pr1.v] 26, .blk b2 (valC zeroH) 26] V3 w := H.pick
      obtain ⟨V4, hV4, H, hbn⟩ := H0.freezeBlk
      obtain ⟨V5, hV5, H, hbp⟩ := H.freezeBlk
      have hV45 := hV4.trans hV5
      refine ⟨(by repeat (first | exact trivial | refine ⟨rfl, ?_⟩)), (kk + 1, pr1, hh ++ [⟨4, 0, ⟨none, 0, 0⟩, ⟨some ⟨bn, 0, none⟩, 2, 2⟩, ⟨some ⟨bp, 0, none⟩, 2, 2⟩⟩]), (by repeat (first | exact trivial | refine ⟨rfl, ?_⟩)), ⟨by dsimp only; omega, V5, hV3.trans hV45, ?_, H⟩, by dsimp only; omega⟩
      dsimp only
      rw [hst]
      exact (hP.up segV_up hV45).snoc (segV_at ⟨rfl, Nat.le_refl _, hbn.cells.sub' hV5⟩ ⟨rfl, Nat.le_refl _, hbp.cells⟩ (hby.up (hV3.trans hV45)))
    · rename_i bp wx bn bt
      refine Rel.app1_2 (f := valC) (l := hh) (x := ⟨4, 0, ⟨none, 0, 0⟩, ⟨some ⟨bn, 0, none⟩, 2, 2⟩, ⟨some ⟨bp, 0, none⟩, 2, 2⟩⟩) tabOk rfl rfl rfl rfl rfl (by decide) (fun _ => rfl) (by simp [Value.oneCell']) H (by show (hh.length + 1) * 88 ≤ _; omega) (by omega) ?_
      clear H
      intro pr1 w H
      (first | (refine H.wg ?_; clear H; intros; rename_i w H; constructor) | refine wk ?_)
      have H0 : Rel W V [.blk bn [str sAt, str sData] 9, .blk bp (valC (numH (xa : Int)) ++ valC (bytH xs)) 26, .row pr1 26 5 ((hh ++ [(⟨4, 0, ⟨none, 0, 0⟩, ⟨some ⟨bn, 0, none⟩, 2, 2⟩, ⟨some ⟨bp, 0, none⟩, 2, 2⟩⟩ : VH)]).flatMap valC), .blk b3 [iv 3, iv 0, .slice none 0 0, .slice none 0 0, pr1.v] 26, .blk b2 (valC zeroH) 26] V3 w := H.pick
      obtain ⟨V4, hV4, H, hbn⟩ := H0.freezeBlk
      obtain ⟨V5, hV5, H, hbp⟩ := H.freezeBlk
      have hV45 := hV4.trans hV5
      refine ⟨(by repeat (first | exact trivial | refine ⟨rfl, ?_⟩)), (kk + 1, pr1, hh ++ [⟨4, 0, ⟨none, 0, 0⟩, ⟨some ⟨bn, 0, none⟩, 2, 2⟩, ⟨some ⟨bp, 0, none⟩, 2, 2⟩⟩]), (by repeat (first | exact trivial | refine ⟨rfl, ?_⟩)), ⟨by dsimp only; omega, V5, hV3.trans hV45, ?_, H⟩, by dsimp only; omega⟩
      dsimp only
      rw [hst]
      exact (hP.up segV_up hV45).snoc (segV_at ⟨rfl, Nat.le_refl _, hbn.cells.sub' hV5⟩ ⟨rfl, Nat.le_refl _, hbp.cells⟩ (hby.up (hV3.trans hV45)))
  · obtain rfl : kk = S.length := by omega
    rw [List.take_length] at hP
    obtain ⟨V4, hV4, H, hr⟩ := Rel.freezeF H (fun _ => rfl) (by decide)
    (first | (refine H.wg ?_; clear H; intros; rename_i w H; constructor) | refine wk ?_)
    exact ⟨V4, ⟨3, 0, ⟨none, 0, 0⟩, ⟨none, 0, 0⟩, pr⟩, hV3.trans hV4, H.sx, rfl, hexVal_at hr (hP.up segV_up hV4)⟩
set_option maxRecDepth 100000 in
set_option maxHeartbeats 1000000 in
theorem usualLengths_ref (hV : Sub V W) {s : Sl} {S : List Seg} (hs : SegsAt V s S) (hl : S.length ≤ 1000) (hok : segOk S) : Ret Tryz.prog 30 [s.v].toArray W fun v w' => ∃ r : Sl, v = r.v ∧ Rel W V [.row r 3 1 ((ints (usual S)).flatMap itC)] V w' := by
  have H := Rel.start hV
  have hsl := hs.len
  obtain ⟨gs, hgs, hpw⟩ := hs
  have hgl := hpw.len
  refine cal_of_vc tabOk Tryz.func30 rfl (by kernel_rfl) 30 rfl (by simp) [0, 2, 3, 4, 5, 9, 19] ?_
  (first | (refine H.wg ?_; clear H; intros; rename_i w H; constructor) | refine wk ?_)
  replace H := H.rowNil 3 1
  refine loop_inv (S := Nat × Sl) tabOk [0, 2] (fun q => [(3, q.2.v), (4, iv q.1)]) (fun q w' => q.1 ≤ S.length ∧ Rel W V [.row q.2 3 1 ((ints (usual (S.take q.1))).flatMap itC)] V w') (fun q _ => S.length - q.1) (0, ⟨none, 0, 0⟩) ?_
  (conv => whnf)
  refine ⟨(by repeat (first | exact trivial | refine ⟨rfl, ?_⟩)), ⟨by omega, H⟩, ?_⟩
  clear H
  rintro ⟨kk, r0⟩ w ⟨hkk, H⟩
  dsimp only at hkk H ⊢
  by_cases hlt : kk < S.length
  · obtain ⟨p0, c0, c1⟩ := hgs.at2 (g := fun h : Nat × Sl => iv (h.1 : Int)) (g' := fun h : Nat × Sl => h.2.v) (fun _ => rfl) (i := kk) (by omega)
    have hR := hpw.all kk _ _ (List.getElem?_eq_getElem (by omega)) (List.getElem?_eq_getElem hlt)
    obtain ⟨x, hx⟩ : ∃ x, x = gs[kk]'(by omega) := ⟨_, rfl⟩
    obtain ⟨y, hy⟩ : ∃ y, y = S[kk] := ⟨_, rfl⟩
    rw [← hx, ← hy] at hR
    rw [← hx] at c0 c1
    have hyo := hok y (by rw [hy]; exact List.getElem_mem hlt)
    have hyn := List.length_pos_iff.2 hyo.2.1
    have hus := usual_le (S := S.take kk) fun z hz => by have := hok z (List.mem_of_mem_take hz); omega
    rw [List.length_take] at hus
    have hsn := usual_snoc hlt
    rw [← hy] at hsn
    obtain ⟨xa, xs⟩ := x
    obtain ⟨_, hby⟩ := hR
    dsimp only at hby c0 c1
    have hbl := hby.len
    have hul := usualN_le y.2.length
    (first | (refine H.wg ?_; clear H; intros; rename_i w H; constructor) | refine wk ?_)
    refine loop_inv (S := Sl × List Nat × Nat) tabOk [0, 2, 4, 9] (fun q => [(3, q.1.v), (5, iv q.2.2)]) (fun q w' => 1 ≤ q.2.2 ∧ q.2.2 ≤ 65536 ∧ q.2.1 ++ usualN q.2.2 = usualN y.2.length ∧ Rel W V [.row q.1 3 1 ((ints (usual (S.take kk) ++ q.2.1)).flatMap itC)] V w') (fun q _ => q.2.2) (r0, [], y.2.length) ?_
    (conv => whnf)
    refine ⟨⟨rfl, congrArg (fun z => some (iv z)) (by dsimp only; omega), trivial⟩, ⟨by dsimp only; omega, by dsimp only; omega, rfl, by dsimp only; rw [List.append_nil]; exact H⟩, ?_⟩
    clear H
    rintro ⟨r, pre, n⟩ w ⟨hn1, hn2, hpre, H⟩
    dsimp only at hn1 hn2 hpre H ⊢
    have hpl := congrArg List.length hpre
    rw [List.length_append] at hpl
    by_cases h16 : 16 < n
    · (first | (refine H.wg ?_; clear H; intros; rename_i w H; constructor) | refine wk ?_)
      refine Rel.app1_0 (f := itC) (l := ints (usual (S.take kk) ++ pre)) (x := 16) tabOk rfl rfl rfl rfl rfl (by decide) (fun _ => rfl) (by simp [Value.oneCell']) H (by show ((ints (usual (S.take kk) ++ pre)).length + 1) * 8 ≤ _; simp only [List.length_map, List.length_append]; omega) (by simp only [List.length_map, List.length_append]; omega) ?_
      clear H
      intro r1 w H
      rw [show ints (usual (S.take kk) ++ pre) ++ [16] = ints (usual (S.take kk) ++ (pre ++ [16])) by simp] at H
      (first | (refine H.wg ?_; clear H; intros; rename_i w H; constructor) | refine wk ?_)
      exact ⟨(by repeat (first | exact trivial | refine ⟨rfl, ?_⟩)), (r1, pre ++ [16], n - 16), ⟨rfl, congrArg (fun z => some (iv z)) (by dsimp only; omega), trivial⟩, ⟨by dsimp only; omega, by dsimp only; omega, by dsimp only; rw [List.append_assoc, ← hpre, usualN_big h16]; rfl, H⟩, by dsimp only; omega⟩
    · (first | (refine H.wg ?_; clear H; intros; rename_i w H; constructor) | refine wk ?_)
      refine Rel.app1_0 (f := itC) (l := ints (usual (S.take kk) ++ pre)) (x := (n : Int)) tabOk rfl rfl rfl rfl rfl (by decide) (fun _ => rfl) (by simp [Value.oneCell']) H (by show ((ints (usual (S.take kk) ++ pre)).length + 1) * 8 ≤ _; simp only [List.length_map, List.length_append]; omega) (by simp only [List.length_map, List.length_append]; omega) ?_
      clear H
      intro r1 w H
      rw [show ints (usual (S.take kk) ++ pre) ++ [(n : Int)] = ints (usual (S.take kk) ++ (pre ++ [n])) by simp, show pre ++ [n] = usualN y.2.length by rw [← hpre, usualN_small (by omega) (by omega)], ← hsn] at H
      (first | (refine H.wg ?_; clear H; intros; rename_i w H; constructor) | refine wk ?_)
      exact ⟨(by repeat (first | exact trivial | refine ⟨rfl, ?_⟩)), (kk + 1, r1), (by repeat (first | exact trivial | refine ⟨rfl, ?_⟩)), ⟨by dsimp only; omega, H⟩, by dsimp only; omega⟩
  · obtain rfl : kk = S.length := by omega
    rw [List.take_length] at H
    (first | (refine H.wg ?_; clear H; intros; rename_i w H; constructor) | refine wk ?_)
    exact ⟨r0, rfl, H⟩
set_option maxRecDepth 100000 in
set_option maxHeartbeats 1000000 in
theorem tableResidue_ref (hV : Sub V W) {fl : Nat} (hf : fl < 1000) {s : Sl} {Z : List Nat} (hs : SlF itC V s (ints Z)) (hZl : Z.length ≤ 1000) (hZ : ∀ n ∈ Z, n ≤ 255) : Ret Tryz.prog 57 [iv (fl : Int), s.v].toArray W fun v w' => ∃ (V' : World) (r : Sl), Sub V V' ∧ Rel W V [] V' w' ∧ v = r.v ∧ Byt V' r (resB fl Z) := by
  have H := Rel.start hV
  have hsl := hs.len
  rw [List.length_map] at hsl
  refine cal_of_vc tabOk Tryz.func57 rfl (by kernel_rfl) 34 rfl (by simp) [0, 1, 4, 5, 6, 13, 23] ?_
  by_cases h0 : fl = 0 ∧ Z = []
  · have e : resB fl Z = [] := by unfold resB; rw [if_pos h0]
    obtain ⟨h1, h2⟩ := h0
    have h3 : Z.length = 0 := by rw [h2]; rfl
    rw [e]
    (first | (refine H.wg ?_; clear H; intros; rename_i w H; constructor) | refine wk ?_)
    exact ⟨V, ⟨none, 0, 0⟩, Sub.refl _, H.sx, rfl, SlF.nil _ _⟩
  have e : resB fl Z = putN fl ++ putL putN (ints Z) := by unfold resB; rw [if_neg h0]
  rw [e]
  have hpl := putL_ints_len (Z := Z) hZl hZ
  have hpn := putN_len (n := (fl : Int)) (by omega) (by omega)
  have hpz := putN_len (n := (Z.length : Int)) (by omega) (by omega)
  have hil : (ints Z).length = Z.length := by simp
  by_cases h1 : fl = 0
  · have h3 : Z.length ≠ 0 := fun q => h0 ⟨h1, List.eq_nil_of_length_eq_zero q⟩
    (first | (refine H.wg ?_; clear H; intros; rename_i w H; constructor) | refine wk ?_)
    refine (put_ref (n := (fl : Int)) H.data (by constructor <;> omega)).use ?_
    rintro v w ⟨r1, rfl, K⟩
    (have hKb := K.base; replace H := Rel.call H K)
    simp only [List.nil_append, List.append_nil] at H
    obtain ⟨V2, hV2, H, hr1⟩ := Rel.freezeF H (fun _ => rfl) (by decide)
    (first | (refine H.wg ?_; clear H; intros; rename_i w H; constructor) | refine wk ?_)
    rw [hsl]
    refine (put_ref (n := (Z.length : Int)) H.data (by constructor <;> omega)).use ?_
    rintro v w ⟨r2, rfl, K⟩
    (have hKb := K.base; replace H := Rel.call H K)
    simp only [List.nil_append, List.append_nil] at H
    obtain ⟨V3, hV3, H, hr2⟩ := Rel.freezeF H (fun _ => rfl) (by decide)
    (first | (refine H.wg ?_; clear H; intros; rename_i w H; constructor) | refine wk ?_)
    refine (join_ref H.data (hr1.up hV3) hr2 (by omega)).use ?_
    rintro v w ⟨r3, rfl, K⟩
    (have hKb := K.base; replace H := Rel.call H K)
    simp only [List.nil_append, List.append_nil] at H
    have hV23 := hV2.trans hV3
    (first | (refine H.wg ?_; clear H; intros; rename_i w H; constructor) | refine wk ?_)
    refine loop_inv (S := Nat × Sl) tabOk [0, 1, 4, 13] (fun q => [(5, q.2.v), (6, iv q.1)]) (fun q w' => q.1 ≤ Z.length ∧ Rel W V [.row q.2 5 1 ((putN fl ++ putN Z.length ++ ((ints Z).take q.1).flatMap putN).flatMap byC)] V3 w') (fun q _ => Z.length - q.1) (0, r3) ?_
    (conv => whnf)
    refine ⟨(by repeat (first | exact trivial | refine ⟨rfl, ?_⟩)), ⟨by omega, by rw [List.take_zero, List.flatMap_nil, List.append_nil]; exact H⟩, ?_⟩
    clear H
    rintro ⟨k, r⟩ w ⟨hk, H⟩
    dsimp only at hk H ⊢
    by_cases hlt : k < Z.length
    · have hli : k < (ints Z).length := by omega
      obtain ⟨p0, c0⟩ := (hs.up hV23).at1 (g := iv) (fun _ => rfl) hli
      have ht := List.take_succ_eq_append_getElem hli
      obtain ⟨z, hz⟩ : ∃ z, z = (ints Z)[k] := ⟨_, rfl⟩
      have hzb : 0 ≤ z ∧ z ≤ 255 := by
        obtain ⟨n, hn, e⟩ := List.mem_map.1 (show z ∈ ints Z by rw [hz]; exact List.getElem_mem hli)
        have := hZ n hn
        omega
      rw [← hz] at c0 ht
      have hfl : (((ints Z).take k).flatMap putN).length + (putN z).length ≤ ((ints Z).flatMap putN).length := by
        have := flat_part (enc := putN) hli
        rw [← hz] at this
        exact this
      unfold putL at hpl
      rw [List.length_append] at hpl
      (first | (refine H.wg ?_; clear H; intros; rename_i w H; constructor) | refine wk ?_)
      refine (put_ref (n := z) H.data (by constructor <;> omega)).use ?_
      rintro v w ⟨rz, rfl, K⟩
      (have hKb := K.base; replace H := Rel.call H K)
      simp only [List.cons_append, List.nil_append] at H
      (first | (refine H.wg ?_; clear H; intros; rename_i w H; constructor) | refine wk ?_)
      refine Rel.appB H (i := 0) rfl (by simp only [List.length_append]; omega) ?_
      clear H
      intro rn w H
      simp only [List.set_cons_zero] at H
      rw [show putN (fl : Int) ++ putN (Z.length : Int) ++ ((ints Z).take k).flatMap putN ++ putN z = putN (fl : Int) ++ putN (Z.length : Int) ++ ((ints Z).take (k + 1)).flatMap putN by rw [ht, List.flatMap_append, List.append_assoc]; simp] at H
      (first | (refine H.wg ?_; clear H; intros; rename_i w H; constructor) | refine wk ?_)
      exact ⟨(by repeat (first | exact trivial | refine ⟨rfl, ?_⟩)), (k + 1, rn), (by repeat (first | exact trivial | refine ⟨rfl, ?_⟩)), ⟨by dsimp only; omega, H⟩, by dsimp only; omega⟩
    · obtain rfl : k = Z.length := by omega
      rw [List.take_of_length_le (by omega)] at H
      rw [show putN (fl : Int) ++ putN (Z.length : Int) ++ (ints Z).flatMap putN = putN (fl : Int) ++ putL putN (ints Z) by unfold putL; rw [hil, List.append_assoc]] at H
      obtain ⟨V4, hV4, H, hr⟩ := Rel.freezeF H (fun _ => rfl) (by decide)
      (first | (refine H.wg ?_; clear H; intros; rename_i w H; constructor) | refine wk ?_)
      exact ⟨V4, r, hV23.trans hV4, H.sx, rfl, hr⟩
  · (first | (refine H.wg ?_; clear H; intros; rename_i w H; constructor) | refine wk ?_)
    refine (put_ref (n := (fl : Int)) H.data (by constructor <;> omega)).use ?_
    rintro v w ⟨r1, rfl, K⟩
    (have hKb := K.base; replace H := Rel.call H K)
    simp only [List.nil_append, List.append_nil] at H
    obtain ⟨V2, hV2, H, hr1⟩ := Rel.freezeF H (fun _ => rfl) (by decide)
    (first | (refine H.wg ?_; clear H; intros; rename_i w H; constructor) | refine wk ?_)
    rw [hsl]
    refine (put_ref (n := (Z.length : Int)) H.data (by constructor <;> omega)).use ?_
    rintro v w ⟨r2, rfl, K⟩
    (have hKb := K.base; replace H := Rel.call H K)
    simp only [List.nil_append, List.append_nil] at H
    obtain ⟨V3, hV3, H, hr2⟩ := Rel.freezeF H (fun _ => rfl) (by decide)
    (first | (refine H.wg ?_; clear H; intros; rename_i w H; constructor) | refine wk ?_)
    refine (join_ref H.data (hr1.up hV3) hr2 (by omega)).use ?_
    rintro v w ⟨r3, rfl, K⟩
    (have hKb := K.base; replace H := Rel.call H K)
    simp only [List.nil_append, List.append_nil] at H
    have hV23 := hV2.trans hV3
    (first | (refine H.wg ?_; clear H; intros; rename_i w H; constructor) | refine wk ?_)
    refine loop_inv (S := Nat × Sl) tabOk [0, 1, 4, 13] (fun q => [(5, q.2.v), (6, iv q.1)]) (fun q w' => q.1 ≤ Z.length ∧ Rel W V [.row q.2 5 1 ((putN fl ++ putN Z.length ++ ((ints Z).take q.1).flatMap putN).flatMap byC)] V3 w') (fun q _ => Z.length - q.1) (0, r3) ?_
    (conv => whnf)
    refine ⟨(by repeat (first | exact trivial | refine ⟨rfl, ?_⟩)), ⟨by omega, by rw [List.take_zero, List.flatMap_nil, List.append_nil]; exact H⟩, ?_⟩
    clear H
    rintro ⟨k, r⟩ w ⟨hk, H⟩
    dsimp only at hk H ⊢
    by_cases hlt : k < Z.length
    · have hli : k < (ints Z).length := by omega
      obtain ⟨p0, c0⟩ := (hs.up hV23).at1 (g := iv) (fun _ => rfl) hli
      have ht := List.take_succ_eq_append_getElem hli
      obtain ⟨z, hz⟩ : ∃ z, z = (ints Z)[k] := ⟨_, rfl⟩
      have hzb : 0 ≤ z ∧ z ≤ 255 := by
        obtain ⟨n, hn, e⟩ := List.mem_map.1 (show z ∈ ints Z by rw [hz]; exact List.getElem_mem hli)
        have := hZ n hn
        omega
      rw [← hz] at c0 ht
      have hfl : (((ints Z).take k).flatMap putN).length + (putN z).length ≤ ((ints Z).flatMap putN).length := by
        have := flat_part (enc := putN) hli
        rw [← hz] at this
        exact this
      unfold putL at hpl
      rw [List.length_append] at hpl
      (first | (refine H.wg ?_; clear H; intros; rename_i w H; constructor) | refine wk ?_)
      refine (put_ref (n := z) H.data (by constructor <;> omega)).use ?_
      rintro v w ⟨rz, rfl, K⟩
      (have hKb := K.base; replace H := Rel.call H K)
      simp only [List.cons_append, List.nil_append] at H
      (first | (refine H.wg ?_; clear H; intros; rename_i w H; constructor) | refine wk ?_)
      refine Rel.appB H (i := 0) rfl (by simp only [List.length_append]; omega) ?_
      clear H
      intro rn w H
      simp only [List.set_cons_zero] at H
      rw [show putN (fl : Int) ++ putN (Z.length : Int) ++ ((ints Z).take k).flatMap putN ++ putN z = putN (fl : Int) ++ putN (Z.length : Int) ++ ((ints Z).take (k + 1)).flatMap putN by rw [ht, List.flatMap_append, List.append_assoc]; simp] at H
      (first | (refine H.wg ?_; clear H; intros; rename_i w H; constructor) | refine wk ?_)
      exact ⟨(by repeat (first | exact trivial | refine ⟨rfl, ?_⟩)), (k + 1, rn), (by repeat (first | exact trivial | refine ⟨rfl, ?_⟩)), ⟨by dsimp only; omega, H⟩, by dsimp only; omega⟩
    · obtain rfl : k = Z.length := by omega
      rw [List.take_of_length_le (by omega)] at H
      rw [show putN (fl : Int) ++ putN (Z.length : Int) ++ (ints Z).flatMap putN = putN (fl : Int) ++ putL putN (ints Z) by unfold putL; rw [hil, List.append_assoc]] at H
      obtain ⟨V4, hV4, H, hr⟩ := Rel.freezeF H (fun _ => rfl) (by decide)
      (first | (refine H.wg ?_; clear H; intros; rename_i w H; constructor) | refine wk ?_)
      exact ⟨V4, r, hV23.trans hV4, H.sx, rfl, hr⟩
end
end Go.Proofs.YtjfcpnlacodjjaaGreat
namespace Go.Proofs.YtjfcpnlacodjjaaGreat
open Go Go.RowKit

structure RecsG (W V : World) (o : Option (List (List UInt8))) (v : Value) (w' : World) : Prop where
  ex : ∃ (V' : World) (r : Sl) (hs : List Sl) (k : Bool), Sub V V' ∧ Rel W V [] V' w' ∧ v = .tuple #[r.v, .bool k] ∧ (match o with
    | none => k = false
    | some rs => k = true ∧ SlF slC V' r hs ∧ Pw BytR V' hs rs)
theorem pairs_short {lo : Bool} {l : List UInt8} (h : l.length ≤ 1) : pairs lo l = ([], l) := by
  match l, h with
  | [], _ => rfl
  | [a], _ => rfl
  | a :: b :: t, h => simp at h
theorem pairs_n1 {lo : Bool} {a b : UInt8} {t : List UInt8} (h : hdg lo a = none) : pairs lo (a :: b :: t) = ([], a :: b :: t) := by
  unfold pairs
  rw [h]
theorem pairs_n2 {lo : Bool} {a b : UInt8} {t : List UInt8} {x : Nat} (h : hdg lo a = some x) (h2 : hdg lo b = none) : pairs lo (a :: b :: t) = ([], a :: b :: t) := by
  unfold pairs
  rw [h, h2]
theorem pairs_y {lo : Bool} {a b : UInt8} {t : List UInt8} {x y : Nat} (h : hdg lo a = some x) (h2 : hdg lo b = some y) : pairs lo (a :: b :: t) = (UInt8.ofNat (16 * x + y) :: (pairs lo t).1, (pairs lo t).2) := by
  conv => lhs; unfold pairs
  rw [h, h2]
theorem sumB_le : ∀ (l : List UInt8), sumB l ≤ 255 * l.length
  | [] => Nat.le_refl _
  | c :: l => by
    have := sumB_le l
    have := c.toNat_lt
    have e : sumB (c :: l) = c.toNat + sumB l := by simp [sumB]
    rw [e, List.length_cons]
    omega
section
variable {V W : World}
set_option maxRecDepth 100000 in
set_option maxHeartbeats 2000000 in
theorem hexRecords_ref (hV : Sub V W) {s : Sl} {l : List UInt8} (hs : Byt V s l) (hl : l.length ≤ 1000) {fl : Nat} (hf : fl < 4) : Ret Tryz.prog 55 [s.v, .bool (lowF fl), .bool (decide (2 ≤ fl))].toArray W (RecsG W V (recs fl l)) := by
  have H := Rel.start hV
  have hlen := hs.len
  refine cal_of_vc tabOk Tryz.func55 rfl (by kernel_rfl) 132 rfl (by simp) [0, 1, 2, 6, 7, 8, 9, 10, 11, 12, 16, 21, 47, 69, 80, 93, 99, 126] ?_
  (first | (refine H.wg ?_; clear H; intros; rename_i w H; constructor) | refine wk ?_)
  replace H := H.rowNil 22 1
  refine loop_inv (S := Nat × Sl × List Sl × List (List UInt8)) tabOk [0, 1, 2] (fun q => [(8, q.2.1.v), (9, iv q.1)]) (fun q w' => q.1 ≤ l.length ∧ q.2.2.2.length ≤ q.1 ∧ (recs fl l = match recs fl (l.drop q.1) with
      | none => none
      | some rs => some (q.2.2.2 ++ rs)) ∧ ∃ V3, Sub V V3 ∧ Pw BytR V3 q.2.2.1 q.2.2.2 ∧ Rel W V [.row q.2.1 22 1 (q.2.2.1.flatMap slC)] V3 w') (fun q _ => l.length - q.1) (0, ⟨none, 0, 0⟩, [], []) ?_
  (conv => whnf)
  refine ⟨(by repeat (first | exact trivial | refine ⟨rfl, ?_⟩)), ⟨by omega, by simp, ?_, V, Sub.refl _, Pw.nil, H⟩, ?_⟩
  · dsimp only
    rw [List.drop_zero]
    cases recs fl l <;> rfl
  clear H
  rintro ⟨p, r, gs, done⟩ w ⟨hp, hdl, hrec, V3, hV3, hP, H⟩
  dsimp only at hp hdl hrec hP H ⊢
  by_cases hlt : p < l.length
  rotate_left
  · obtain rfl : p = l.length := by omega
    rw [List.drop_length, recs_nil] at hrec
    dsimp only at hrec
    rw [List.append_nil] at hrec
    rw [hrec]
    obtain ⟨V4, hV4, H, hr⟩ := Rel.freezeF H (fun _ => rfl) (by decide)
    (first | (refine H.wg ?_; clear H; intros; rename_i w H; constructor) | refine wk ?_)
    exact ⟨V4, r, gs, true, hV3.trans hV4, H.sx, rfl, rfl, hr, hP.up (fun _ _ _ _ k h => h.up k) hV4⟩
  have hd := List.drop_eq_getElem_cons hlt
  have hbad : rdLine fl (l.drop p) = none → recs fl l = none := fun h => by
    rw [hrec, recs_none (by rw [hd]; exact List.cons_ne_nil _ _) h]
  obtain ⟨p0, c0⟩ := (hs.up hV3).at1 (g := bv) (fun _ => rfl) hlt
  by_cases h58 : l[p] = 58
  rotate_left
  · rw [hbad (by rw [hd, rdLine_cons, if_neg fun q => h58 q.1])]
    have hne : l[p].toNat ≠ 58 := fun e => h58 (UInt8.toNat_inj.1 e)
    generalize l[p] = c at c0 hne
    (first | (refine H.wg ?_; clear H; intros; rename_i w H; constructor) | refine wk ?_)
    exact ⟨V3, ⟨none, 0, 0⟩, [], false, hV3, H.sx, rfl, rfl⟩
  rw [h58] at c0 hd
  rw [hd] at hbad
  rw [rdLine_cons] at hbad
  (first | (refine H.wg ?_; clear H; intros; rename_i w H; constructor) | refine wk ?_)
  replace H := H.rowNil 5 1
  refine SemC.cut 2 (fun q : Nat × Sl => [(0, s.v), (1, .bool (lowF fl)), (2, .bool (decide (2 ≤ fl))), (8, r.v), (9, iv q.1), (10, q.2.v)])
    (fun q w' => ∃ raw, p + 1 ≤ q.1 ∧ q.1 ≤ l.length ∧ raw.length ≤ 1000 ∧ pairs (lowF fl) (l.drop (p + 1)) = (raw, l.drop q.1) ∧ Rel W V [.row q.2 5 1 (raw.flatMap byC), .row r 22 1 (gs.flatMap slC)] V3 w') ?_ ?_
  · refine loop_inv (S := Nat × Sl × List UInt8) tabOk [0, 1, 2, 6, 7, 8, 11, 12, 16, 21, 69, 80, 93, 99, 126] (fun q => [(9, iv q.1), (10, q.2.1.v)]) (fun q w' => p + 1 ≤ q.1 ∧ q.1 ≤ l.length ∧ q.2.2.length ≤ q.1 ∧ pairs (lowF fl) (l.drop (p + 1)) = (q.2.2 ++ (pairs (lowF fl) (l.drop q.1)).1, (pairs (lowF fl) (l.drop q.1)).2) ∧ Rel W V [.row q.2.1 5 1 (q.2.2.flatMap byC), .row r 22 1 (gs.flatMap slC)] V3 w') (fun q _ => l.length - q.1) (p + 1, ⟨none, 0, 0⟩, []) ?_
    (conv => whnf)
    refine ⟨⟨congrArg (fun z => some (iv z)) (by dsimp only; omega), rfl, trivial⟩, ⟨by omega, by dsimp only; omega, by simp, rfl, H⟩, ?_⟩
    clear H
    rintro ⟨q, rr, raw⟩ w ⟨hq1, hq2, hrl, hpr, H⟩
    dsimp only at hq1 hq2 hrl hpr H ⊢
    by_cases hq : q + 1 < l.length
    rotate_left
    · have e := pairs_short (lo := lowF fl) (l := l.drop q) (by rw [List.length_drop]; omega)
      rw [e] at hpr
      dsimp only at hpr
      rw [List.append_nil] at hpr
      (first | (refine H.wg ?_; clear H; intros; rename_i w H; constructor) | refine wk ?_)
      exact ⟨(q, rr), (by repeat (first | exact trivial | refine ⟨rfl, ?_⟩)), raw, hq1, hq2, by omega, hpr, H⟩
    have hd1 : l.drop q = l[q] :: l[q + 1] :: l.drop (q + 2) := by rw [List.drop_eq_getElem_cons (show q < l.length by omega), List.drop_eq_getElem_cons hq]
    obtain ⟨pq, d0⟩ := (hs.up hV3).at1 (g := bv) (fun _ => rfl) (show q < l.length by omega)
    obtain ⟨_, d1⟩ := (hs.up hV3).at1 (g := bv) (fun _ => rfl) hq
    generalize l[q] = a at d0 hd1
    generalize l[q + 1] = b at d1 hd1
    (first | (refine H.wg ?_; clear H; intros; rename_i w H; constructor) | refine wk ?_)
    refine (hexDigit_ref a (lowF fl) H.data).use ?_
    rintro v w ⟨rfl, K⟩
    (have hKb := K.base; replace H := H.call0 K)
    cases hx : hdg (lowF fl) a with
    | none =>
      have hn := hdI_neg.2 hx
      have e := pairs_n1 (b := b) (t := l.drop (q + 2)) hx
      rw [← hd1] at e
      rw [e] at hpr
      dsimp only at hpr
      rw [List.append_nil] at hpr
      generalize hdI (lowF fl) a = z at hn
      (first | (refine H.wg ?_; clear H; intros; rename_i w H; constructor) | refine wk ?_)
      exact ⟨(q, rr), (by repeat (first | exact trivial | refine ⟨rfl, ?_⟩)), raw, hq1, hq2, by omega, hpr, H.sx⟩
    | some x =>
    have hx1 := hdI_some hx
    rw [hx1]
    (first | (refine H.wg ?_; clear H; intros; rename_i w H; constructor) | refine wk ?_)
    refine (hexDigit_ref b (lowF fl) H.data).use ?_
    rintro v w ⟨rfl, K⟩
    (have hKb := K.base; replace H := H.call0 K)
    cases hy : hdg (lowF fl) b with
    | none =>
      have hn := hdI_neg.2 hy
      have e := pairs_n2 (t := l.drop (q + 2)) hx hy
      rw [← hd1] at e
      rw [e] at hpr
      dsimp only at hpr
      rw [List.append_nil] at hpr
      generalize hdI (lowF fl) b = z at hn
      (first | (refine H.wg ?_; clear H; intros; rename_i w H; constructor) | refine wk ?_)
      exact ⟨(q, rr), (by repeat (first | exact trivial | refine ⟨rfl, ?_⟩)), raw, hq1, hq2, by omega, hpr, H.sx⟩
    | some y =>
    have hy1 := hdI_some hy
    rw [hy1]
    have hx16 := (hdg_some hx).1
    have hy16 := (hdg_some hy).1
    have e := pairs_y (t := l.drop (q + 2)) hx hy
    rw [← hd1] at e
    rw [e] at hpr
    dsimp only at hpr
    (first | (refine H.wg ?_; clear H; intros; rename_i w H; constructor) | refine wk ?_)
    ((first | refine draw_vc (id := 9) tabOk mixed [6] [0, 1, 2, 3, 4, 5, 8, 9, 10, 11, 12, 13, 6, 7, 14, 15, 16, 17, 18, 19] (by kernel_rfl) ?_); intro w hdw; replace H := Rel.ext H hdw.ext)
    (first | (refine H.wg ?_; clear H; intros; rename_i w H; constructor) | refine wk ?_)
    refine (hexDigit_ref a (lowF fl) H.data).use ?_
    rintro v w ⟨rfl, K⟩
    (have hKb := K.base; replace H := H.call0 K)
    rw [hx1]
    (first | (refine H.wg ?_; clear H; intros; rename_i w H; constructor) | refine wk ?_)
    refine (hexDigit_ref b (lowF fl) H.data).use ?_
    rintro v w ⟨rfl, K⟩
    (have hKb := K.base; replace H := H.call0 K)
    rw [hy1]
    (first | (refine H.wg ?_; clear H; intros; rename_i w H; constructor) | refine wk ?_)
    rw [show Value.int .u8 (wr .u8 (16 * (x : Int) + (y : Int))) = bv (UInt8.ofNat (16 * x + y)) by
      simp only [bv]
      rw [toNat_ofNat_lt (by omega)]
      congr 1
      show (16 * (x : Int) + (y : Int)) % 256 = _
      omega] at H
    refine Rel.app1_0 (f := byC) (l := raw) (x := UInt8.ofNat (16 * x + y)) tabOk rfl rfl rfl rfl rfl (by decide) (fun _ => rfl) (by simp [Value.oneCell', bv]) H (by show (raw.length + 1) * 1 ≤ _; omega) (by omega) ?_
    clear H
    intro r1 w H
    (first | (refine H.wg ?_; clear H; intros; rename_i w H; constructor) | refine wk ?_)
    exact ⟨(by repeat (first | exact trivial | refine ⟨rfl, ?_⟩)), (q + 2, r1, raw ++ [UInt8.ofNat (16 * x + y)]), ⟨congrArg (fun z => some (iv z)) (by dsimp only; omega), rfl, trivial⟩, ⟨by dsimp only; omega, by dsimp only; omega, by simp; omega, by dsimp only; rw [List.append_assoc]; exact hpr, H⟩, by dsimp only; omega⟩
  clear H
  rintro ⟨q, rr⟩ w ⟨raw, hq1, hq2, hrl, hpr, H⟩
  dsimp only at hq1 hq2 hpr H ⊢
  rw [hpr] at hbad
  dsimp only at hbad
  have hbad' : ¬ ((l.drop q).take (endB fl).length = endB fl ∧ recOk raw) → recs fl l = none := fun h => hbad (by rw [if_neg fun z => h z.2])
  have hgood : (l.drop q).take (endB fl).length = endB fl → recOk raw → rdLine fl (l.drop p) = some (raw, (l.drop q).drop (endB fl).length) := fun h1 h2 => by
    rw [hd, rdLine_cons, hpr, if_pos ⟨rfl, h1, h2⟩]
  clear hbad
  obtain ⟨V4, hV4, H, hr⟩ := Rel.freezeF H (fun _ => rfl) (by decide)
  have hV34 := hV3.trans hV4
  have hrn := hr.len
  by_cases h2 : 2 ≤ fl
  · have he : endB fl = [13, 10] := by unfold endB; rw [if_pos h2]
    rw [he] at hbad' hgood
    by_cases hq3 : q < l.length
    rotate_left
    · rw [hbad' fun z => by
        have := z.1
        rw [List.drop_of_length_le (by omega)] at this
        cases this]
      (first | (refine H.wg ?_; clear H; intros; rename_i w H; constructor) | refine wk ?_)
      exact ⟨V4, ⟨none, 0, 0⟩, [], false, hV34, H.sx, rfl, rfl⟩
    obtain ⟨pq, d0⟩ := (hs.up hV34).at1 (g := bv) (fun _ => rfl) hq3
    have hdq := List.drop_eq_getElem_cons hq3
    by_cases h13 : l[q] = 13
    rotate_left
    · rw [hbad' fun z => by
        have := z.1
        rw [hdq] at this
        exact h13 (List.cons.inj this).1]
      have hne : l[q].toNat ≠ 13 := fun e => h13 (UInt8.toNat_inj.1 e)
      generalize l[q] = c at d0 hne
      (first | (refine H.wg ?_; clear H; intros; rename_i w H; constructor) | refine wk ?_)
      exact ⟨V4, ⟨none, 0, 0⟩, [], false, hV34, H.sx, rfl, rfl⟩
    rw [h13] at d0 hdq
    by_cases hq4 : q + 1 < l.length
    rotate_left
    · rw [hbad' fun z => by
        have := z.1
        rw [hdq, List.drop_of_length_le (show l.length ≤ q + 1 by omega)] at this
        cases this]
      (first | (refine H.wg ?_; clear H; intros; rename_i w H; constructor) | refine wk ?_)
      (first | (refine H.wg ?_; clear H; intros; rename_i w H; constructor) | refine wk ?_)
      exact ⟨V4, ⟨none, 0, 0⟩, [], false, hV34, H.sx, rfl, rfl⟩
    obtain ⟨_, d1⟩ := (hs.up hV34).at1 (g := bv) (fun _ => rfl) hq4
    have hdq1 := List.drop_eq_getElem_cons hq4
    rw [hdq1] at hdq
    by_cases h10 : l[q + 1] = 10
    rotate_left
    · rw [hbad' fun z => by
        have := z.1
        rw [hdq] at this
        exact h10 (List.cons.inj (List.cons.inj this).2).1]
      have hne : l[q + 1].toNat ≠ 10 := fun e => h10 (UInt8.toNat_inj.1 e)
      generalize l[q + 1] = c at d1 hne
      (first | (refine H.wg ?_; clear H; intros; rename_i w H; constructor) | refine wk ?_)
      (first | (refine H.wg ?_; clear H; intros; rename_i w H; constructor) | refine wk ?_)
      exact ⟨V4, ⟨none, 0, 0⟩, [], false, hV34, H.sx, rfl, rfl⟩
    rw [h10] at d1 hdq
    have htk : (l.drop q).take 2 = [13, 10] := by rw [hdq]; rfl
    have hdr : (l.drop q).drop 2 = l.drop (q + 2) := by rw [List.drop_drop]
    (first | (refine H.wg ?_; clear H; intros; rename_i w H; constructor) | refine wk ?_)
    refine loop_inv (S := Nat) tabOk [0, 1, 2, 6, 7, 8, 9, 10, 16, 21, 47, 69, 80, 93, 126] (fun k => [(11, iv ((sumB (raw.take k) : Nat) : Int)), (12, iv k)]) (fun k w' => k ≤ raw.length ∧ Rel W V [.row r 22 1 (gs.flatMap slC)] V4 w') (fun k _ => raw.length - k) 0 ?_
    (conv => whnf)
    refine ⟨(by repeat (first | exact trivial | refine ⟨rfl, ?_⟩)), ⟨by omega, H⟩, ?_⟩
    clear H
    rintro k w ⟨hk, H⟩
    have hsb := sumB_le (raw.take k)
    rw [List.length_take] at hsb
    by_cases hkl : k < raw.length
    · obtain ⟨pr, e0⟩ := hr.at1 (g := bv) (fun _ => rfl) hkl
      have hst := sumB_step hkl
      have hc := (raw[k]).toNat_lt
      generalize raw[k] = c at e0 hst hc
      obtain ⟨z, hz⟩ : ∃ z, z = sumB (raw.take k) := ⟨_, rfl⟩
      rw [← hz] at hst hsb ⊢
      (first | (refine H.wg ?_; clear H; intros; rename_i w H; constructor) | refine wk ?_)
      exact ⟨(by repeat (first | exact trivial | refine ⟨rfl, ?_⟩)), k + 1, ⟨congrArg (fun z => some (iv z)) (by rw [hst]; omega), congrArg (fun z => some (iv z)) (by omega), trivial⟩, ⟨by omega, H⟩, by omega⟩
    obtain rfl : k = raw.length := by omega
    rw [List.take_length] at hsb ⊢
    obtain ⟨z, hz⟩ : ∃ z, z = sumB raw := ⟨_, rfl⟩
    rw [← hz] at hsb ⊢
    by_cases h5 : 5 ≤ raw.length
    rotate_left
    · rw [hbad' fun z => h5 z.2.1]
      (first | (refine H.wg ?_; clear H; intros; rename_i w H; constructor) | refine wk ?_)
      exact ⟨V4, ⟨none, 0, 0⟩, [], false, hV34, H.sx, rfl, rfl⟩
    obtain ⟨pr, e0⟩ := hr.at1 (g := bv) (fun _ => rfl) (i := 0) (by omega)
    have hb0 : b8 raw 0 = (raw[0]'(by omega)).toNat := by simp [b8, show 0 < raw.length by omega]
    have hlt0 := (raw[0]'(by omega)).toNat_lt
    by_cases h6 : raw.length = 5 + b8 raw 0
    rotate_left
    · rw [hbad' fun z => h6 z.2.2.1]
      rw [hb0] at h6
      (first | (refine H.wg ?_; clear H; intros; rename_i w H; constructor) | refine wk ?_)
      exact ⟨V4, ⟨none, 0, 0⟩, [], false, hV34, H.sx, rfl, rfl⟩
    have h6' := h6
    rw [hb0] at h6'
    by_cases h7 : z % 256 = 0
    rotate_left
    · rw [hbad' fun y => h7 (by rw [hz]; exact y.2.2.2)]
      (first | (refine H.wg ?_; clear H; intros; rename_i w H; constructor) | refine wk ?_)
      exact ⟨V4, ⟨none, 0, 0⟩, [], false, hV34, H.sx, rfl, rfl⟩
    have hok : recOk raw := ⟨h5, h6, by rw [← hz]; exact h7⟩
    have hline := hgood htk hok
    replace hline : rdLine fl (l.drop p) = some (raw, l.drop (q + 2)) := by rw [← hdr]; exact hline
    rw [recs_step hline] at hrec
    (first | (refine H.wg ?_; clear H; intros; rename_i w H; constructor) | refine wk ?_)
    refine Rel.app1_0 (f := slC) (l := gs) (x := rr) tabOk rfl rfl rfl rfl rfl (by decide) (fun _ => rfl) (by simp [Value.oneCell']) H (by show (gs.length + 1) * 24 ≤ _; have := hP.len; omega) (by have := hP.len; omega) ?_
    clear H
    intro r1 w H
    (first | (refine H.wg ?_; clear H; intros; rename_i w H; constructor) | refine wk ?_)
    refine ⟨(by repeat (first | exact trivial | refine ⟨rfl, ?_⟩)), ((q + 2), r1, gs ++ [rr], done ++ [raw]), ⟨rfl, congrArg (fun z => some (iv z)) (by dsimp only; omega), trivial⟩, ⟨by dsimp only; omega, by simp; omega, ?_, V4, hV34, (hP.up (fun _ _ _ _ k h => h.up k) hV4).snoc hr, H⟩, by dsimp only; omega⟩
    dsimp only
    rw [hrec]
    cases recs fl (l.drop (q + 2)) with
    | none => rfl
    | some rs => simp only [List.append_assoc, List.cons_append, List.nil_append]
  · have he : endB fl = [10] := by unfold endB; rw [if_neg h2]
    rw [he] at hbad' hgood
    by_cases hq3 : q < l.length
    rotate_left
    · rw [hbad' fun z => by
        have := z.1
        rw [List.drop_of_length_le (by omega)] at this
        cases this]
      (first | (refine H.wg ?_; clear H; intros; rename_i w H; constructor) | refine wk ?_)
      exact ⟨V4, ⟨none, 0, 0⟩, [], false, hV34, H.sx, rfl, rfl⟩
    obtain ⟨pq, d0⟩ := (hs.up hV34).at1 (g := bv) (fun _ => rfl) hq3
    have hdq := List.drop_eq_getElem_cons hq3
    by_cases h10 : l[q] = 10
    rotate_left
    · rw [hbad' fun z => by
        have := z.1
        rw [hdq] at this
        exact h10 (List.cons.inj this).1]
      have hne : l[q].toNat ≠ 10 := fun e => h10 (UInt8.toNat_inj.1 e)
      generalize l[q] = c at d0 hne
      (first | (refine H.wg ?_; clear H; intros; rename_i w H; constructor) | refine wk ?_)
      exact ⟨V4, ⟨none, 0, 0⟩, [], false, hV34, H.sx, rfl, rfl⟩
    rw [h10] at d0 hdq
    have htk : (l.drop q).take 1 = [10] := by rw [hdq]; rfl
    have hdr : (l.drop q).drop 1 = l.drop (q + 1) := by rw [List.drop_drop]
    (first | (refine H.wg ?_; clear H; intros; rename_i w H; constructor) | refine wk ?_)
    refine loop_inv (S := Nat) tabOk [0, 1, 2, 6, 7, 8, 9, 10, 16, 21, 47, 69, 80, 93, 126] (fun k => [(11, iv ((sumB (raw.take k) : Nat) : Int)), (12, iv k)]) (fun k w' => k ≤ raw.length ∧ Rel W V [.row r 22 1 (gs.flatMap slC)] V4 w') (fun k _ => raw.length - k) 0 ?_
    (conv => whnf)
    refine ⟨(by repeat (first | exact trivial | refine ⟨rfl, ?_⟩)), ⟨by omega, H⟩, ?_⟩
    clear H
    rintro k w ⟨hk, H⟩
    have hsb := sumB_le (raw.take k)
    rw [List.length_take] at hsb
    by_cases hkl : k < raw.length
    · obtain ⟨pr, e0⟩ := hr.at1 (g := bv) (fun _ => rfl) hkl
      have hst := sumB_step hkl
      have hc := (raw[k]).toNat_lt
      generalize raw[k] = c at e0 hst hc
      obtain ⟨z, hz⟩ : ∃ z, z = sumB (raw.take k) := ⟨_, rfl⟩
      rw [← hz] at hst hsb ⊢
      (first | (refine H.wg ?_; clear H; intros; rename_i w H; constructor) | refine wk ?_)
      exact ⟨(by repeat (first | exact trivial | refine ⟨rfl, ?_⟩)), k + 1, ⟨congrArg (fun z => some (iv z)) (by rw [hst]; omega), congrArg (fun z => some (iv z)) (by omega), trivial⟩, ⟨by omega, H⟩, by omega⟩
    obtain rfl : k = raw.length := by omega
    rw [List.take_length] at hsb ⊢
    obtain ⟨z, hz⟩ : ∃ z, z = sumB raw := ⟨_, rfl⟩
    rw [← hz] at hsb ⊢
    by_cases h5 : 5 ≤ raw.length
    rotate_left
    · rw [hbad' fun z => h5 z.2.1]
      (first | (refine H.wg ?_; clear H; intros; rename_i w H; constructor) | refine wk ?_)
      exact ⟨V4, ⟨none, 0, 0⟩, [], false, hV34, H.sx, rfl, rfl⟩
    obtain ⟨pr, e0⟩ := hr.at1 (g := bv) (fun _ => rfl) (i := 0) (by omega)
    have hb0 : b8 raw 0 = (raw[0]'(by omega)).toNat := by simp [b8, show 0 < raw.length by omega]
    have hlt0 := (raw[0]'(by omega)).toNat_lt
    by_cases h6 : raw.length = 5 + b8 raw 0
    rotate_left
    · rw [hbad' fun z => h6 z.2.2.1]
      rw [hb0] at h6
      (first | (refine H.wg ?_; clear H; intros; rename_i w H; constructor) | refine wk ?_)
      exact ⟨V4, ⟨none, 0, 0⟩, [], false, hV34, H.sx, rfl, rfl⟩
    have h6' := h6
    rw [hb0] at h6'
    by_cases h7 : z % 256 = 0
    rotate_left
    · rw [hbad' fun y => h7 (by rw [hz]; exact y.2.2.2)]
      (first | (refine H.wg ?_; clear H; intros; rename_i w H; constructor) | refine wk ?_)
      exact ⟨V4, ⟨none, 0, 0⟩, [], false, hV34, H.sx, rfl, rfl⟩
    have hok : recOk raw := ⟨h5, h6, by rw [← hz]; exact h7⟩
    have hline := hgood htk hok
    replace hline : rdLine fl (l.drop p) = some (raw, l.drop (q + 1)) := by rw [← hdr]; exact hline
    rw [recs_step hline] at hrec
    (first | (refine H.wg ?_; clear H; intros; rename_i w H; constructor) | refine wk ?_)
    refine Rel.app1_0 (f := slC) (l := gs) (x := rr) tabOk rfl rfl rfl rfl rfl (by decide) (fun _ => rfl) (by simp [Value.oneCell']) H (by show (gs.length + 1) * 24 ≤ _; have := hP.len; omega) (by have := hP.len; omega) ?_
    clear H
    intro r1 w H
    (first | (refine H.wg ?_; clear H; intros; rename_i w H; constructor) | refine wk ?_)
    refine ⟨(by repeat (first | exact trivial | refine ⟨rfl, ?_⟩)), ((q + 1), r1, gs ++ [rr], done ++ [raw]), ⟨rfl, congrArg (fun z => some (iv z)) (by dsimp only; omega), trivial⟩, ⟨by dsimp only; omega, by simp; omega, ?_, V4, hV34, (hP.up (fun _ _ _ _ k h => h.up k) hV4).snoc hr, H⟩, by dsimp only; omega⟩
    dsimp only
    rw [hrec]
    cases recs fl (l.drop (q + 1)) with
    | none => rfl
    | some rs => simp only [List.append_assoc, List.cons_append, List.nil_append]
end
end Go.Proofs.YtjfcpnlacodjjaaGreat
namespace Go.Proofs.YtjfcpnlacodjjaaGreat
open Go Go.RowKit

section
variable {V W : World}
theorem intsEq_ref (hV : Sub V W) {x y : Sl} {a b : List Int} (hx : SlF itC V x a) (hy : SlF itC V y b) (ha : a.length ≤ 1099511627776) : Ret Tryz.prog 56 [x.v, y.v].toArray W fun v w' => v = .bool (decide (a = b)) ∧ Rel W V [] V w' := by
  have H := Rel.start hV
  have h1 := hx.len
  have h2 := hy.len
  refine cal_of_vc tabOk Tryz.func56 rfl (by kernel_rfl) 26 rfl (by simp) [0, 1, 4, 5, 10, 14, 25] ?_
  by_cases hl : a.length = b.length
  rotate_left
  · (first | (refine H.wg ?_; clear H; intros; rename_i w H; constructor) | refine wk ?_)
    rw [decide_eq_false (fun h => hl (by rw [h]))]
    exact ⟨rfl, H⟩
  (first | (refine H.wg ?_; clear H; intros; rename_i w H; constructor) | refine wk ?_)
  refine loop_inv (S := Nat) tabOk [0, 1, 10] (fun k => [(5, iv k)]) (fun k w' => k ≤ a.length ∧ a.take k = b.take k ∧ Rel W V [] V w') (fun k _ => a.length - k) 0 ?_
  (conv => whnf)
  refine ⟨(by repeat (first | exact trivial | refine ⟨rfl, ?_⟩)), ⟨by omega, rfl, H⟩, ?_⟩
  clear H
  rintro k w ⟨hk, hz, H⟩
  by_cases hka : k < a.length
  rotate_left
  · rw [List.take_of_length_le (by omega), List.take_of_length_le (by omega)] at hz
    (first | (refine H.wg ?_; clear H; intros; rename_i w H; constructor) | refine wk ?_)
    rw [decide_eq_true hz]
    exact ⟨rfl, H⟩
  have hkb : k < b.length := by omega
  obtain ⟨hp, hc⟩ := hx.at1 (g := iv) (fun _ => rfl) hka
  obtain ⟨hp', hc'⟩ := hy.at1 (g := iv) (fun _ => rfl) hkb
  have ta := List.take_succ_eq_append_getElem hka
  have tb := List.take_succ_eq_append_getElem hkb
  by_cases he : a[k] = b[k]
  · rw [he] at hc ta
    (first | (refine H.wg ?_; clear H; intros; rename_i w H; constructor) | refine wk ?_)
    ((first | refine draw_vc (id := 6) tabOk mixed [] [0, 1, 2, 3, 4, 5, 6, 7, 8] (by kernel_rfl) ?_); intro w hdw; replace H := Rel.ext H hdw.ext)
    (first | (refine H.wg ?_; clear H; intros; rename_i w H; constructor) | refine wk ?_)
    exact ⟨(by repeat (first | exact trivial | refine ⟨rfl, ?_⟩)), k + 1, (by repeat (first | exact trivial | refine ⟨rfl, ?_⟩)), ⟨by omega, by rw [ta, tb, hz], H.sx⟩, by omega⟩
  · have hne : a ≠ b := fun h => he (by subst h; rfl)
    generalize a[k] = u at hc he
    generalize b[k] = v at hc' he
    (first | (refine H.wg ?_; clear H; intros; rename_i w H; constructor) | refine wk ?_)
    ((first | refine draw_vc (id := 6) tabOk mixed [] [0, 1, 2, 3, 4, 5, 6, 7, 8] (by kernel_rfl) ?_); intro w hdw; replace H := Rel.ext H hdw.ext)
    (first | (refine H.wg ?_; clear H; intros; rename_i w H; constructor) | refine wk ?_)
    rw [decide_eq_false hne]
    exact ⟨rfl, H.sx⟩
/- a new segment, and its size -/
theorem pw_snoc_inv {α β : Type} {R : World → β → α → Prop} {V : World} {hs : List β} {P : List α} {y : α} (h : Pw R V hs (P ++ [y])) : ∃ hP x, hs = hP ++ [x] ∧ Pw R V hP P ∧ R V x y := by
  have hl := h.len
  rw [List.length_append, List.length_singleton] at hl
  rcases List.eq_nil_or_concat hs with rfl | ⟨hP, x, rfl⟩
  · simp at hl
  · rw [List.concat_eq_append] at h hl ⊢
    rw [List.length_append, List.length_singleton] at hl
    refine ⟨hP, x, rfl, ⟨by omega, fun k a b ha hb => ?_⟩, ?_⟩
    · have h1 := (List.getElem?_eq_some_iff.1 ha).1
      exact h.all k a b (by rw [List.getElem?_append_left h1]; exact ha) (by rw [List.getElem?_append_left (by omega)]; exact hb)
    · exact h.all P.length x y (by rw [show P.length = hP.length by omega]; simp) (by simp)
set_option maxRecDepth 100000 in
set_option maxHeartbeats 4000000 in
theorem hxrTo_ref (hV : Sub V W) {s : Sl} {l : List UInt8} (hs : Byt V s l) (hl : l.length ≤ 1000) : Ret Tryz.prog 33 [s.v].toArray W (ToG W V (hexTo l)) := by
  have H := Rel.start hV
  have hlen := hs.len
  refine cal_of_vc tabOk Tryz.func33 rfl (by kernel_rfl) 165 rfl (by simp) [0, 2, 3, 4, 5, 6, 7, 8, 9, 10, 11, 12, 13, 14, 15, 17, 36, 40, 65, 94, 116, 154, 159] ?_
  (first | (refine H.wh ?_; clear H; intros; rename_i w H; constructor) | refine wk ?_)
  ((first | refine Rel.nwD H ?_ | refine Rel.nw H ?_); clear H; intro w b2 H)
  (first | (refine H.wg ?_; clear H; intros; rename_i w H; constructor) | refine wk ?_)
  refine loop_inv (S := Nat) tabOk [0, 2] (fun f => [(5, iv f)]) (fun f w' => f ≤ 4 ∧ (∀ g, g < f → hexOne g l = none) ∧ ∃ V2, Sub V V2 ∧ Rel W V [.blk b2 (valC zeroH) 26] V2 w') (fun f _ => 4 - f) 0 ?_
  (conv => whnf)
  refine ⟨(by repeat (first | exact trivial | refine ⟨rfl, ?_⟩)), ⟨by omega, fun g hg => by omega, V, Sub.refl _, H⟩, ?_⟩
  clear H
  rintro f w ⟨hf4, hno, V2, hV2, H⟩
  by_cases hf : f < 4
  rotate_left
  · obtain rfl : f = 4 := by omega
    rw [hexTo_no hno]
    (first | (refine H.wg ?_; clear H; intros; rename_i w H; constructor) | refine wk ?_)
    exact ⟨V2, zeroH, ⟨none, 0, 0⟩, zeroV, [], hV2, H.sx, valAt_zero _, SlF.nil _ _, rfl⟩
  (first | (refine H.wg ?_; clear H; intros; rename_i w H; constructor) | refine wk ?_)
  rw [show decide ((f : Int) % 2 = 1) = lowF f from decide_eq_decide.2 (by omega), show decide ((2 : Int) ≤ (f : Int)) = decide (2 ≤ f) from decide_eq_decide.2 (by omega)]
  refine (hexRecords_ref H.data (hs.up hV2) hl hf).use ?_
  rintro v w ⟨V3, rr, gs, k, hV3, K, rfl, hres⟩
  (have hKb := K.base; replace H := H.call0 K)
  have hV23 := hV2.trans hV3
  cases hr : recs f l with
  | none =>
    rw [hr] at hres
    dsimp only at hres
    subst hres
    have hone := hexOne_none hr
    (first | (refine H.wg ?_; clear H; intros; rename_i w H; constructor) | refine wk ?_)
    exact ⟨(by repeat (first | exact trivial | refine ⟨rfl, ?_⟩)), f + 1, (by repeat (first | exact trivial | refine ⟨rfl, ?_⟩)), ⟨by omega, fun g hg => by
      by_cases e : g = f
      · rw [e]; exact hone
      · exact hno g (by omega), V3, hV23, H.sx⟩, by omega⟩
  | some rs =>
  rw [hr] at hres
  dsimp only at hres
  obtain ⟨rfl, hrr, hgp⟩ := hres
  have hrl := hrr.len
  have hgl := hgp.len
  obtain ⟨hflat, hrok⟩ := recs_iff.1 hr
  have hrsl := lines_len f rs
  rw [← hflat] at hrsl
  have hone := hexOne_recs hr
  have hfirst := hexTo_first hf hno hr
  by_cases h0 : rs = []
  · have hone0 : hexOne f l = none := by rw [hone, h0, foldR_nil]
    have h00 : rs.length = 0 := by rw [h0]; rfl
    (first | (refine H.wg ?_; clear H; intros; rename_i w H; constructor) | refine wk ?_)
    exact ⟨(by repeat (first | exact trivial | refine ⟨rfl, ?_⟩)), f + 1, (by repeat (first | exact trivial | refine ⟨rfl, ?_⟩)), ⟨by omega, fun g hg => by
      by_cases e : g = f
      · rw [e]; exact hone0
      · exact hno g (by omega), V3, hV23, H.sx⟩, by omega⟩
  have h0l : 0 < rs.length := List.length_pos_iff.2 h0
  (first | (refine H.wg ?_; clear H; intros; rename_i w H; constructor) | refine wk ?_)
  replace H := H.rowNil 47 2
  replace H := H.rowNil 3 1
  refine SemC.cut 2 (fun q : Bool × Sl × Sl => [(0, s.v), (2, .pointer (some ⟨b2, 0, none⟩)), (5, iv f), (7, .bool q.1), (8, q.2.1.v), (9, q.2.2.v)])
    (fun q w' => ∃ V4 S Z hs, Sub V3 V4 ∧ Pw SegR V4 hs S ∧ segOk S ∧ S.length ≤ rs.length ∧ Z.length ≤ rs.length ∧ (∀ n ∈ Z, n ≤ 255) ∧ foldR [] [] rs = (if q.1 = true then some (S, Z) else none) ∧ Rel W V [.row q.2.2 3 1 ((ints Z).flatMap itC), .row q.2.1 47 2 (hs.flatMap sgC), .blk b2 (valC zeroH) 26] V4 w') ?_ ?_
  · refine loop_inv (S := Nat × Sl × Sl × List Seg × List Nat × List (Nat × Sl)) tabOk [0, 2, 5, 6, 15, 17, 36, 154, 159] (fun q => [(7, .bool true), (8, q.2.1.v), (9, q.2.2.1.v), (10, iv q.1)]) (fun q w' => q.1 < rs.length ∧ foldR [] [] rs = foldR q.2.2.2.1 q.2.2.2.2.1 (rs.drop q.1) ∧ segOk q.2.2.2.1 ∧ q.2.2.2.1.length ≤ q.1 ∧ q.2.2.2.2.1.length = q.1 ∧ (∀ n ∈ q.2.2.2.2.1, n ≤ 255) ∧ ∃ V4, Sub V3 V4 ∧ Pw SegR V4 q.2.2.2.2.2 q.2.2.2.1 ∧ Rel W V [.row q.2.2.1 3 1 ((ints q.2.2.2.2.1).flatMap itC), .row q.2.1 47 2 (q.2.2.2.2.2.flatMap sgC), .blk b2 (valC zeroH) 26] V4 w') (fun q _ => rs.length - q.1) (0, ⟨none, 0, 0⟩, ⟨none, 0, 0⟩, [], [], []) ?_
    (conv => whnf)
    refine ⟨(by repeat (first | exact trivial | refine ⟨rfl, ?_⟩)), ⟨h0l, by rw [List.drop_zero], by intro s hs; simp at hs, by simp, rfl, by simp, V3, Sub.refl _, Pw.nil, H⟩, ?_⟩
    clear H
    rintro ⟨i, lr, zr, S, Z, hs⟩ w ⟨hi, hfold, hok, hSl, hZl, hZ, V4, hV4, hP, H⟩
    dsimp only at hi hfold hok hSl hZl hZ hP H ⊢
    have hV24 := hV23.trans hV4
    have hpl := hP.len
    obtain ⟨pr, cr⟩ := (hrr.up hV4).at1 (g := Sl.v) (fun _ => rfl) (i := i) (by omega)
    have hbr := (hgp.all i _ _ (List.getElem?_eq_getElem (by omega)) (List.getElem?_eq_getElem hi)).up hV4
    have hraw := hrok _ (List.getElem_mem hi)
    have hdi := List.drop_eq_getElem_cons hi
    obtain ⟨raw, hrw⟩ : ∃ raw, raw = rs[i] := ⟨_, rfl⟩
    obtain ⟨rb, hrbe⟩ : ∃ rb, rb = gs[i]'(by omega) := ⟨_, rfl⟩
    rw [← hrw, ← hrbe] at hbr
    rw [← hrw] at hraw hdi
    rw [← hrbe] at cr
    have hrn := hbr.len
    have hrc := hbr.cap
    have ⟨r5, r6, _⟩ := hraw
    obtain ⟨p0, c0⟩ := hbr.at1 (g := bv) (fun _ => rfl) (i := 0) (by omega)
    obtain ⟨_, c1⟩ := hbr.at1 (g := bv) (fun _ => rfl) (i := 1) (by omega)
    obtain ⟨_, c2⟩ := hbr.at1 (g := bv) (fun _ => rfl) (i := 2) (by omega)
    obtain ⟨_, c3⟩ := hbr.at1 (g := bv) (fun _ => rfl) (i := 3) (by omega)
    have hb0 : b8 raw 0 = (raw[0]'(by omega)).toNat := by simp [b8, show 0 < raw.length by omega]
    have hb1 : b8 raw 1 = (raw[1]'(by omega)).toNat := by simp [b8, show 1 < raw.length by omega]
    have hb2 : b8 raw 2 = (raw[2]'(by omega)).toNat := by simp [b8, show 2 < raw.length by omega]
    have hb3 : b8 raw 3 = (raw[3]'(by omega)).toNat := by simp [b8, show 3 < raw.length by omega]
    have hat : rAt raw = 256 * (raw[1]'(by omega)).toNat + (raw[2]'(by omega)).toNat := by unfold rAt; rw [hb1, hb2]
    have htc := hbr.sub (n := 1) (fun _ => rfl) (a := 4) (b := 4 + b8 raw 0) (by omega) (by omega)
    rw [show (raw.take (4 + b8 raw 0)).drop 4 = rCont raw by unfold rCont; rw [List.drop_take, show 4 + b8 raw 0 - 4 = b8 raw 0 by omega]] at htc
    have hcl := rCont_len hraw
    obtain ⟨n0, hn0⟩ : ∃ n0, n0 = b8 raw 0 := ⟨_, rfl⟩
    rw [← hn0] at htc hcl r6
    have hn0' := hn0
    rw [hb0] at hn0'
    obtain ⟨x0, hx0⟩ : ∃ x, x = raw[0]'(by omega) := ⟨_, rfl⟩
    obtain ⟨x1, hx1⟩ : ∃ x, x = raw[1]'(by omega) := ⟨_, rfl⟩
    obtain ⟨x2, hx2⟩ : ∃ x, x = raw[2]'(by omega) := ⟨_, rfl⟩
    obtain ⟨x3, hx3⟩ : ∃ x, x = raw[3]'(by omega) := ⟨_, rfl⟩
    rw [← hx0] at c0 hn0' hb0
    rw [← hx1, ← hx2] at hat
    rw [← hx1] at c1
    rw [← hx2] at c2
    rw [← hx3] at c3 hb3
    have l0 := x0.toNat_lt
    have l1 := x1.toNat_lt
    have l2 := x2.toNat_lt
    have l3 := x3.toNat_lt
    have hrAl : rAt raw < 65536 := by omega
    (first | (refine H.wg ?_; clear H; intros; rename_i w H; constructor) | refine wk ?_)
    ((first | refine draw_vc (id := 12) tabOk mixed [] [0, 1, 2, 3, 4, 5, 6, 7, 8, 9, 10] (by kernel_rfl) ?_ | refine draw_vc (id := 19) tabOk mixed [] [0, 1, 2, 3, 4, 5, 6, 7, 8, 9, 10, 11, 12, 13, 14, 15, 16, 17] (by kernel_rfl) ?_ | refine draw_vc (id := 20) tabOk mixed [] [0, 1, 2, 3, 4, 5, 6, 7, 8, 9, 10, 11, 12, 13, 14] (by kernel_rfl) ?_ | refine draw_vc (id := 28) tabOk mixed [3] [0, 1, 2, 3, 4, 5, 6] (by kernel_rfl) ?_); intro w hdw; replace H := Rel.ext H hdw.ext)
    (first | (refine H.wg ?_; clear H; intros; rename_i w H; constructor) | refine wk ?_)
    rw [show 256 * (x1.toNat : Int) + (x2.toNat : Int) = ((rAt raw : Nat) : Int) by omega]
    by_cases hlast : i + 1 = rs.length
    · rw [hdi, List.drop_of_length_le (by omega), foldR_one] at hfold
      by_cases e1 : b8 raw 0 = 0
      rotate_left
      · rw [if_neg fun q => e1 q.1] at hfold
        (first | (refine H.wg ?_; clear H; intros; rename_i w H; constructor) | refine wk ?_)
        exact ⟨(false, lr, zr), (by repeat (first | exact trivial | refine ⟨rfl, ?_⟩)), V4, S, Z, hs, hV4, hP, hok, by omega, by omega, hZ, (by rw [if_neg Bool.false_ne_true]; exact hfold), H⟩
      by_cases e2 : rAt raw = 0
      rotate_left
      · rw [if_neg fun q => e2 q.2.1] at hfold
        (first | (refine H.wg ?_; clear H; intros; rename_i w H; constructor) | refine wk ?_)
        exact ⟨(false, lr, zr), (by repeat (first | exact trivial | refine ⟨rfl, ?_⟩)), V4, S, Z, hs, hV4, hP, hok, by omega, by omega, hZ, (by rw [if_neg Bool.false_ne_true]; exact hfold), H⟩
      by_cases e3 : b8 raw 3 = 1
      rotate_left
      · rw [if_neg fun q => e3 q.2.2] at hfold
        rw [hb3] at e3
        (first | (refine H.wg ?_; clear H; intros; rename_i w H; constructor) | refine wk ?_)
        rw [decide_eq_false (show ¬ (x3.toNat : Int) = 1 by omega)]
        exact ⟨(false, lr, zr), (by repeat (first | exact trivial | refine ⟨rfl, ?_⟩)), V4, S, Z, hs, hV4, hP, hok, by omega, by omega, hZ, (by rw [if_neg Bool.false_ne_true]; exact hfold), H⟩
      rw [if_pos ⟨e1, e2, e3⟩] at hfold
      rw [hb3] at e3
      (first | (refine H.wg ?_; clear H; intros; rename_i w H; constructor) | refine wk ?_)
      rw [decide_eq_true (show (x3.toNat : Int) = 1 by omega)]
      exact ⟨(true, lr, zr), (by repeat (first | exact trivial | refine ⟨rfl, ?_⟩)), V4, S, Z, hs, hV4, hP, hok, by omega, by omega, hZ, (by rw [if_pos rfl]; exact hfold), H⟩
    have hdne : rs.drop (i + 1) ≠ [] := by
      intro q
      have := congrArg List.length q
      rw [List.length_drop] at this
      simp at this
      omega
    rw [hdi, foldR_cons _ _ _ hdne] at hfold
    have hbadT : foldR [] [] rs = none → hexTo l = none := fun h => by rw [hfirst, hone, h]
    by_cases d1 : b8 raw 0 = 0
    · rw [if_neg fun q => q.2.1 d1] at hfold
      rw [hbadT hfold]
      (first | (refine H.wg ?_; clear H; intros; rename_i w H; constructor) | refine wk ?_)
      exact ⟨V4, zeroH, ⟨none, 0, 0⟩, zeroV, [], hV24, H.sx, valAt_zero _, SlF.nil _ _, rfl⟩
    by_cases d2 : b8 raw 3 = 0
    rotate_left
    · rw [if_neg fun q => d2 q.1] at hfold
      rw [hbadT hfold]
      rw [hb3] at d2
      (first | (refine H.wg ?_; clear H; intros; rename_i w H; constructor) | refine wk ?_)
      exact ⟨V4, zeroH, ⟨none, 0, 0⟩, zeroV, [], hV24, H.sx, valAt_zero _, SlF.nil _ _, rfl⟩
    by_cases d3 : rAt raw + b8 raw 0 ≤ 65536
    rotate_left
    · rw [if_neg fun q => d3 q.2.2] at hfold
      rw [hbadT hfold]
      rw [hb3] at d2
      (first | (refine H.wg ?_; clear H; intros; rename_i w H; constructor) | refine wk ?_)
      exact ⟨V4, zeroH, ⟨none, 0, 0⟩, zeroV, [], hV24, H.sx, valAt_zero _, SlF.nil _ _, rfl⟩
    rw [if_pos ⟨d2, d1, d3⟩, ← hn0] at hfold
    rw [hb3] at d2
    have hcn : rCont raw ≠ [] := by
      intro q
      rw [q] at hcl
      simp at hcl
      omega
    have hok' := segOk_add (a := rAt raw) hok hcn (by omega)
    obtain ⟨_, hadl⟩ := addSeg_ne (rAt raw) (rCont raw) S
    have hsl := H.rowLen (i := 1) rfl (fun _ => rfl) (by decide)
    have hz9 : ((4 : Int) + (x0.toNat : Int)).toNat = 4 + n0 := by omega
    rcases List.eq_nil_or_concat S with hSe | ⟨P, y, hSe⟩
    · subst hSe
      have h00 : hs = [] := List.eq_nil_of_length_eq_zero (by rw [hpl]; rfl)
      subst h00
      rw [List.length_nil] at hsl
      (first | (refine H.wg ?_; clear H; intros; rename_i w H; constructor) | refine wk ?_)
      ((first | refine draw_vc (id := 12) tabOk mixed [] [0, 1, 2, 3, 4, 5, 6, 7, 8, 9, 10] (by kernel_rfl) ?_ | refine draw_vc (id := 19) tabOk mixed [] [0, 1, 2, 3, 4, 5, 6, 7, 8, 9, 10, 11, 12, 13, 14, 15, 16, 17] (by kernel_rfl) ?_ | refine draw_vc (id := 20) tabOk mixed [] [0, 1, 2, 3, 4, 5, 6, 7, 8, 9, 10, 11, 12, 13, 14] (by kernel_rfl) ?_ | refine draw_vc (id := 28) tabOk mixed [3] [0, 1, 2, 3, 4, 5, 6] (by kernel_rfl) ?_); intro w hdw; replace H := Rel.ext H hdw.ext)
      (first | (refine H.wg ?_; clear H; intros; rename_i w H; constructor) | refine wk ?_)
      rw [hz9]
      refine (copy_ref H.data htc (by omega)).use ?_
      rintro v w ⟨r5, rfl, K⟩
      (have hKb := K.base; replace H := Rel.call H K)
      simp only [List.cons_append, List.nil_append] at H
      obtain ⟨V5, hV5, H, hr5⟩ := Rel.freezeF H (fun _ => rfl) (by decide)
      (first | (refine H.wg ?_; clear H; intros; rename_i w H; constructor) | refine wk ?_)
      refine Rel.app1_1 (f := sgC) (l := []) (x := (rAt raw, r5)) tabOk rfl rfl rfl rfl rfl (by decide) (fun _ => rfl) (by simp [Value.oneCell']) H (by show (([] : List (Nat × Sl)).length + 1) * 32 ≤ _; simp only [List.length_nil, List.length_append, List.length_singleton]; omega) (by simp only [List.length_nil, List.length_append, List.length_singleton]; omega) ?_
      clear H
      intro lr1 w H
      (first | (refine H.wg ?_; clear H; intros; rename_i w H; constructor) | refine wk ?_)
      refine Rel.app1_0 (f := itC) (l := ints Z) (x := (x0.toNat : Int)) tabOk rfl rfl rfl rfl rfl (by decide) (fun _ => rfl) (by simp [Value.oneCell']) H (by show ((ints Z).length + 1) * 8 ≤ _; rw [List.length_map]; omega) (by rw [List.length_map]; omega) ?_
      clear H
      intro zr1 w H
      rw [show ints Z ++ [(x0.toNat : Int)] = ints (Z ++ [n0]) by simp [hn0']] at H
      (first | (refine H.wg ?_; clear H; intros; rename_i w H; constructor) | refine wk ?_)
      refine ⟨(by repeat (first | exact trivial | refine ⟨rfl, ?_⟩)), (i + 1, lr1, zr1, addSeg (rAt raw) (rCont raw) [], Z ++ [n0], [] ++ [(rAt raw, r5)]), (by repeat (first | exact trivial | refine ⟨rfl, ?_⟩)), ⟨by dsimp only; omega, hfold, hok', by dsimp only; omega, by simp; omega, fun n hn => ?_, V5, hV4.trans hV5, ?_, H⟩, by dsimp only; omega⟩
      · rcases List.mem_append.1 hn with hn | hn
        · exact hZ n hn
        · obtain rfl := List.mem_singleton.1 hn
          omega
      · exact Pw.nil.snoc ⟨rfl, hr5⟩
    · rw [List.concat_eq_append] at hSe
      subst hSe
      obtain ⟨hP', h, rfl, hPw, hRh⟩ := pw_snoc_inv hP
      obtain ⟨hx, hsl2⟩ := h
      obtain ⟨x, d⟩ := y
      obtain ⟨hxe, hby⟩ := hRh
      dsimp only at hxe hby
      subst hxe
      have hyo := hok (hx, d) (by simp)
      dsimp only at hyo
      have hbn := hby.len
      have hpn := hPw.len
      rw [List.length_append, List.length_singleton] at hsl hSl hpl
      have eI : (((lr.len : Nat) : Int) - 1).toNat = hP'.length := by omega
      have gl : (hP' ++ [(hx, hsl2)])[hP'.length]'(by simp) = (hx, hsl2) := by simp
      have hpla : Plain lr.a := ((H.slfAt (i := 1) rfl (fun _ => rfl) (by decide)).at2 (g := fun h : Nat × Sl => iv (h.1 : Int)) (g' := fun h : Nat × Sl => h.2.v) (fun _ => rfl) (i := hP'.length) (by simp)).1
      (first | (refine H.wg ?_; clear H; intros; rename_i w H; constructor) | refine wk ?_)
      ((first | refine draw_vc (id := 12) tabOk mixed [] [0, 1, 2, 3, 4, 5, 6, 7, 8, 9, 10] (by kernel_rfl) ?_ | refine draw_vc (id := 19) tabOk mixed [] [0, 1, 2, 3, 4, 5, 6, 7, 8, 9, 10, 11, 12, 13, 14, 15, 16, 17] (by kernel_rfl) ?_ | refine draw_vc (id := 20) tabOk mixed [] [0, 1, 2, 3, 4, 5, 6, 7, 8, 9, 10, 11, 12, 13, 14] (by kernel_rfl) ?_ | refine draw_vc (id := 28) tabOk mixed [3] [0, 1, 2, 3, 4, 5, 6] (by kernel_rfl) ?_); intro w hdw; replace H := Rel.ext H hdw.ext)
      (first | (refine H.wg ?_; clear H; intros; rename_i w H; constructor) | refine wk ?_)
      rw [eI]
      obtain ⟨_, u1, u2⟩ := (H.slfAt (i := 1) rfl (fun _ => rfl) (by decide)).at2 (g := fun h : Nat × Sl => iv (h.1 : Int)) (g' := fun h : Nat × Sl => h.2.v) (fun _ => rfl) (i := hP'.length) (by simp)
      rw [gl] at u1 u2
      dsimp only at u1 u2
      refine ⟨_, u1, ?_⟩
      (first | (refine H.wg ?_; clear H; intros; rename_i w H; constructor) | refine wk ?_)
      rw [eI]
      obtain ⟨_, u1, u2⟩ := (H.slfAt (i := 1) rfl (fun _ => rfl) (by decide)).at2 (g := fun h : Nat × Sl => iv (h.1 : Int)) (g' := fun h : Nat × Sl => h.2.v) (fun _ => rfl) (i := hP'.length) (by simp)
      rw [gl] at u1 u2
      dsimp only at u1 u2
      refine ⟨_, u2, ?_⟩
      by_cases he : hx + d.length = rAt raw
      · (first | (refine H.wg ?_; clear H; intros; rename_i w H; constructor) | refine wk ?_)
        ((first | refine draw_vc (id := 12) tabOk mixed [] [0, 1, 2, 3, 4, 5, 6, 7, 8, 9, 10] (by kernel_rfl) ?_ | refine draw_vc (id := 19) tabOk mixed [] [0, 1, 2, 3, 4, 5, 6, 7, 8, 9, 10, 11, 12, 13, 14, 15, 16, 17] (by kernel_rfl) ?_ | refine draw_vc (id := 20) tabOk mixed [] [0, 1, 2, 3, 4, 5, 6, 7, 8, 9, 10, 11, 12, 13, 14] (by kernel_rfl) ?_ | refine draw_vc (id := 28) tabOk mixed [3] [0, 1, 2, 3, 4, 5, 6] (by kernel_rfl) ?_); intro w hdw; replace H := Rel.ext H hdw.ext)
        (first | (refine H.wg ?_; clear H; intros; rename_i w H; constructor) | refine wk ?_)
        rw [eI]
        obtain ⟨_, u1, u2⟩ := (H.slfAt (i := 1) rfl (fun _ => rfl) (by decide)).at2 (g := fun h : Nat × Sl => iv (h.1 : Int)) (g' := fun h : Nat × Sl => h.2.v) (fun _ => rfl) (i := hP'.length) (by simp)
        rw [gl] at u1 u2
        dsimp only at u1 u2
        refine ⟨_, u2, ?_⟩
        (first | (refine H.wg ?_; clear H; intros; rename_i w H; constructor) | refine wk ?_)
        rw [hz9]
        refine (join_ref H.data hby htc (by omega)).use ?_
        rintro v w ⟨r5, rfl, K⟩
        (have hKb := K.base; replace H := Rel.call H K)
        simp only [List.cons_append, List.nil_append] at H
        obtain ⟨V5, hV5, H, hr5⟩ := Rel.freezeF H (fun _ => rfl) (by decide)
        (first | (refine H.wg ?_; clear H; intros; rename_i w H; constructor) | refine wk ?_)
        rw [eI]
        refine Rel.stRowN (i := 1) H rfl (hP'.length * 2 + 1) (by omega) rfl rfl ?_
        clear H
        intro w H
        simp only [List.set_cons_zero, List.set_cons_succ] at H
        rw [show ((hP' ++ [(hx, hsl2)]).flatMap sgC).set (hP'.length * 2 + 1) r5.v = (hP' ++ [(hx, r5)]).flatMap sgC from sgC_set hP' hx hsl2 r5] at H
        (first | (refine H.wg ?_; clear H; intros; rename_i w H; constructor) | refine wk ?_)
        refine Rel.app1_0 (f := itC) (l := ints Z) (x := (x0.toNat : Int)) tabOk rfl rfl rfl rfl rfl (by decide) (fun _ => rfl) (by simp [Value.oneCell']) H (by show ((ints Z).length + 1) * 8 ≤ _; rw [List.length_map]; omega) (by rw [List.length_map]; omega) ?_
        clear H
        intro zr1 w H
        rw [show ints Z ++ [(x0.toNat : Int)] = ints (Z ++ [n0]) by simp [hn0']] at H
        (first | (refine H.wg ?_; clear H; intros; rename_i w H; constructor) | refine wk ?_)
        refine ⟨(by repeat (first | exact trivial | refine ⟨rfl, ?_⟩)), (i + 1, lr, zr1, addSeg (rAt raw) (rCont raw) (P ++ [(hx, d)]), Z ++ [n0], hP' ++ [(hx, r5)]), (by repeat (first | exact trivial | refine ⟨rfl, ?_⟩)), ⟨by dsimp only; omega, hfold, hok', by dsimp only; omega, by simp; omega, fun n hn => ?_, V5, hV4.trans hV5, ?_, H⟩, by dsimp only; omega⟩
        · rcases List.mem_append.1 hn with hn | hn
          · exact hZ n hn
          · obtain rfl := List.mem_singleton.1 hn
            omega
        · dsimp only
          rw [addSeg_snoc, if_pos he]
          exact (hPw.up SegR.up hV5).snoc ⟨rfl, hr5⟩
      · (first | (refine H.wg ?_; clear H; intros; rename_i w H; constructor) | refine wk ?_)
        rw [hz9]
        refine (copy_ref H.data htc (by omega)).use ?_
        rintro v w ⟨r5, rfl, K⟩
        (have hKb := K.base; replace H := Rel.call H K)
        simp only [List.cons_append, List.nil_append] at H
        obtain ⟨V5, hV5, H, hr5⟩ := Rel.freezeF H (fun _ => rfl) (by decide)
        (first | (refine H.wg ?_; clear H; intros; rename_i w H; constructor) | refine wk ?_)
        refine Rel.app1_1 (f := sgC) (l := (hP' ++ [(hx, hsl2)])) (x := (rAt raw, r5)) tabOk rfl rfl rfl rfl rfl (by decide) (fun _ => rfl) (by simp [Value.oneCell']) H (by show (((hP' ++ [(hx, hsl2)]) : List (Nat × Sl)).length + 1) * 32 ≤ _; simp only [List.length_nil, List.length_append, List.length_singleton]; omega) (by simp only [List.length_nil, List.length_append, List.length_singleton]; omega) ?_
        clear H
        intro lr1 w H
        (first | (refine H.wg ?_; clear H; intros; rename_i w H; constructor) | refine wk ?_)
        refine Rel.app1_0 (f := itC) (l := ints Z) (x := (x0.toNat : Int)) tabOk rfl rfl rfl rfl rfl (by decide) (fun _ => rfl) (by simp [Value.oneCell']) H (by show ((ints Z).length + 1) * 8 ≤ _; rw [List.length_map]; omega) (by rw [List.length_map]; omega) ?_
        clear H
        intro zr1 w H
        rw [show ints Z ++ [(x0.toNat : Int)] = ints (Z ++ [n0]) by simp [hn0']] at H
        (first | (refine H.wg ?_; clear H; intros; rename_i w H; constructor) | refine wk ?_)
        refine ⟨(by repeat (first | exact trivial | refine ⟨rfl, ?_⟩)), (i + 1, lr1, zr1, addSeg (rAt raw) (rCont raw) (P ++ [(hx, d)]), Z ++ [n0], (hP' ++ [(hx, hsl2)]) ++ [(rAt raw, r5)]), (by repeat (first | exact trivial | refine ⟨rfl, ?_⟩)), ⟨by dsimp only; omega, hfold, hok', by dsimp only; omega, by simp; omega, fun n hn => ?_, V5, hV4.trans hV5, ?_, H⟩, by dsimp only; omega⟩
        · rcases List.mem_append.1 hn with hn | hn
          · exact hZ n hn
          · obtain rfl := List.mem_singleton.1 hn
            omega
        dsimp only
        rw [addSeg_snoc, if_neg he]
        exact (hP.up SegR.up hV5).snoc ⟨rfl, hr5⟩
  clear H
  rintro ⟨k, lr, zr⟩ w ⟨V4, S, Z, hs, hV4, hP, hok, hSl, hZl, hZ, hfold, H⟩
  dsimp only at hfold H ⊢
  have hd : ∀ x ∈ S, x.2.length ≤ 65536 := fun x hx => by have := hok x hx; omega
  obtain ⟨V5, hV5, H, hz⟩ := Rel.freezeF H (fun _ => rfl) (by decide)
  obtain ⟨V6, hV6, H, hg⟩ := Rel.freezeF H (fun _ => rfl) (by decide)
  have hV26 := (hV23.trans hV4).trans (hV5.trans hV6)
  have hseg : SegsAt V6 lr S := ⟨hs, hg, (hP.up SegR.up hV5).up SegR.up hV6⟩
  have hB := vb_hex hok (by omega)
  (first | (refine H.wg ?_; clear H; intros; rename_i w H; constructor) | refine wk ?_)
  refine (plainHex_ref H.data hseg (by omega)).use ?_
  rintro v w ⟨V7, h, hV7, K, rfl, hv⟩
  (have hKb := K.base; replace H := H.call0 K)
  (first | (refine H.wh ?_; clear H; intros; rename_i w H; constructor) | refine wk ?_)
  ((first | refine Rel.nwD H ?_ | refine Rel.nw H ?_); clear H; intro w b15 H)
  have hV27 := hV26.trans hV7
  cases k with
  | false =>
    rw [if_neg (by decide)] at hfold
    have e : hexTo l = none := by rw [hfirst, hone, hfold]
    rw [e]
    (first | (refine H.wg ?_; clear H; intros; rename_i w H; constructor) | refine wk ?_)
    exact ⟨V7, zeroH, ⟨none, 0, 0⟩, zeroV, [], hV27, H.sx, valAt_zero _, SlF.nil _ _, rfl⟩
  | true =>
    rw [if_pos rfl] at hfold
    (first | (refine H.wg ?_; clear H; intros; rename_i w H; constructor) | refine wk ?_)
    refine (valueFault_ref H.data hv hB).use ?_
    rintro v w ⟨rfl, K⟩
    (have hKb := K.base; replace H := H.call0 K)
    by_cases hvf : (vfault (hexVal S)).1 = 0
    rotate_left
    · have e : hexTo l = none := by rw [hfirst, hone, hfold]; simp only; rw [if_neg hvf]
      rw [e]
      (first | (refine H.wg ?_; clear H; intros; rename_i w H; constructor) | refine wk ?_)
      exact ⟨V7, zeroH, ⟨none, 0, 0⟩, zeroV, [], hV27, H.sx, valAt_zero _, SlF.nil _ _, rfl⟩
    have e : hexTo l = some (hexVal S, resB f (szOf S Z)) := by rw [hfirst, hone, hfold]; simp only; rw [if_pos hvf]
    rw [e]
    (first | (refine H.wg ?_; clear H; intros; rename_i w H; constructor) | refine wk ?_)
    refine (usualLengths_ref H.data (hseg.up hV7) (by omega) hok).use ?_
    rintro v w ⟨ur, rfl, K⟩
    (have hKb := K.base; replace H := Rel.call H K)
    simp only [List.cons_append, List.nil_append] at H
    obtain ⟨V8, hV8, H, hur⟩ := Rel.freezeF H (fun _ => rfl) (by decide)
    have hz8 := ((hz.up hV6).up hV7).up hV8
    have hV28 := hV27.trans hV8
    (first | (refine H.wg ?_; clear H; intros; rename_i w H; constructor) | refine wk ?_)
    refine (intsEq_ref H.data hz8 hur (by rw [List.length_map]; omega)).use ?_
    rintro v w ⟨rfl, K⟩
    (have hKb := K.base; replace H := H.call0 K)
    by_cases he : Z = usual S
    · rw [decide_eq_true (ints_inj.2 he)]
      have e2 : szOf S Z = [] := by unfold szOf; rw [if_pos he]
      rw [e2]
      (first | (refine H.wg ?_; clear H; intros; rename_i w H; constructor) | refine wk ?_)
      ((first | refine draw_vc (id := 12) tabOk mixed [] [0, 1, 2, 3, 4, 5, 6, 7, 8, 9, 10] (by kernel_rfl) ?_ | refine draw_vc (id := 19) tabOk mixed [] [0, 1, 2, 3, 4, 5, 6, 7, 8, 9, 10, 11, 12, 13, 14, 15, 16, 17] (by kernel_rfl) ?_ | refine draw_vc (id := 20) tabOk mixed [] [0, 1, 2, 3, 4, 5, 6, 7, 8, 9, 10, 11, 12, 13, 14] (by kernel_rfl) ?_ | refine draw_vc (id := 28) tabOk mixed [3] [0, 1, 2, 3, 4, 5, 6] (by kernel_rfl) ?_); intro w hdw; replace H := Rel.ext H hdw.ext)
      (first | (refine H.wg ?_; clear H; intros; rename_i w H; constructor) | refine wk ?_)
      refine (tableResidue_ref (fl := f) (Z := []) (s := ⟨none, 0, 0⟩) H.data (by omega) (SlF.nil _ _) (by simp) (by simp)).use ?_
      rintro v w ⟨V9, r9, hV9, K, rfl, hr9⟩
      (have hKb := K.base; replace H := H.call0 K)
      (first | (refine H.wg ?_; clear H; intros; rename_i w H; constructor) | refine wk ?_)
      exact ⟨V9, h, r9, hexVal S, _, hV28.trans hV9, H.sx, (hv.up hV8).up hV9, hr9, rfl, rfl⟩
    · rw [decide_eq_false (fun q => he (ints_inj.1 q))]
      have e2 : szOf S Z = Z := by unfold szOf; rw [if_neg he]
      rw [e2]
      (first | (refine H.wg ?_; clear H; intros; rename_i w H; constructor) | refine wk ?_)
      ((first | refine draw_vc (id := 12) tabOk mixed [] [0, 1, 2, 3, 4, 5, 6, 7, 8, 9, 10] (by kernel_rfl) ?_ | refine draw_vc (id := 19) tabOk mixed [] [0, 1, 2, 3, 4, 5, 6, 7, 8, 9, 10, 11, 12, 13, 14, 15, 16, 17] (by kernel_rfl) ?_ | refine draw_vc (id := 20) tabOk mixed [] [0, 1, 2, 3, 4, 5, 6, 7, 8, 9, 10, 11, 12, 13, 14] (by kernel_rfl) ?_ | refine draw_vc (id := 28) tabOk mixed [3] [0, 1, 2, 3, 4, 5, 6] (by kernel_rfl) ?_); intro w hdw; replace H := Rel.ext H hdw.ext)
      (first | (refine H.wg ?_; clear H; intros; rename_i w H; constructor) | refine wk ?_)
      refine (tableResidue_ref (fl := f) H.data (by omega) hz8 (by omega) hZ).use ?_
      rintro v w ⟨V9, r9, hV9, K, rfl, hr9⟩
      (have hKb := K.base; replace H := H.call0 K)
      (first | (refine H.wg ?_; clear H; intros; rename_i w H; constructor) | refine wk ?_)
      exact ⟨V9, h, r9, hexVal S, _, hV28.trans hV9, H.sx, (hv.up hV8).up hV9, hr9, rfl, rfl⟩
end
end Go.Proofs.YtjfcpnlacodjjaaGreat
