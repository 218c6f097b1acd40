/-
  Files of hexadecimal records: a data record is added to the segments.
-/
import Derived.Test.YtjfcpnlacodjjaaGreatHexB
import Derived.Test.YtjfcpnlacodjjaaGreatHexP
import Derived.Test.YtjfcpnlacodjjaaGreatLibD
namespace Go.Proofs.YtjfcpnlacodjjaaGreat
open Go Go.RowKit

abbrev sgC (h : Nat × Sl) : List Value := [iv (h.1 : Int), h.2.v]
abbrev SegR (V : World) (h : Nat × Sl) (s : Seg) : Prop := h.1 = s.1 ∧ Byt V h.2 s.2
theorem SegR.up : ∀ (V V' : World) (x : Nat × Sl) (y : Seg), Sub V V' → SegR V x y → SegR V' x y := fun _ _ _ _ k h => ⟨h.1, h.2.up k⟩
/-- segments while they grow: the last one's bytes are one's own -/
structure SegsN (V : World) (S : List Seg) (hs : List (Nat × Sl)) (dl : Sl) (d : List UInt8) : Prop where
  ex : (S = [] ∧ hs = []) ∨ ∃ (P : List Seg) (a : Nat) (hP : List (Nat × Sl)), S = P ++ [(a, d)] ∧ hs = hP ++ [(a, dl)] ∧ Pw SegR V hP P
theorem SegsN.up {V V' : World} {S : List Seg} {hs : List (Nat × Sl)} {dl : Sl} {d : List UInt8} (h : SegsN V S hs dl d) (k : Sub V V') : SegsN V' S hs dl d := by
  rcases h.ex with h | ⟨P, a, hP, h1, h2, h3⟩
  · exact ⟨.inl h⟩
  · exact ⟨.inr ⟨P, a, hP, h1, h2, h3.up SegR.up k⟩⟩
theorem SegsN.len {V : World} {S : List Seg} {hs : List (Nat × Sl)} {dl : Sl} {d : List UInt8} (h : SegsN V S hs dl d) : hs.length = S.length := by
  rcases h.ex with ⟨h1, h2⟩ | ⟨P, a, hP, h1, h2, h3⟩
  · rw [h1, h2]; rfl
  · rw [h1, h2, List.length_append, List.length_append, h3.len]; rfl
/-- when the last one's bytes are read only, too -/
theorem SegsN.all {V : World} {S : List Seg} {hs : List (Nat × Sl)} {dl : Sl} {d : List UInt8} (h : SegsN V S hs dl d) (hd : Byt V dl d) : Pw SegR V hs S := by
  rcases h.ex with ⟨h1, h2⟩ | ⟨P, a, hP, h1, h2, h3⟩
  · rw [h1, h2]; exact Pw.nil
  · rw [h1, h2]; exact h3.snoc ⟨rfl, hd⟩
theorem Rel.stRowN {w0 V0 V w : World} {own : List Res} (H : Rel w0 V0 own V w) {i sz : Nat} {s : Sl} {e : TypeId} {xs : List Value} (hi : own[i]? = some (.row s e sz xs)) (j : Nat) (hj : j < s.len * sz) {b o : Nat} (hb : b = ablk s.a) (ho : o = aoff s.a + j) {v : Value} {k : World → Prop}
    (hk : ∀ w', Rel w0 V0 (own.set i (.row s e sz (xs.set j v))) V w' → k w') : ∃ c t', BlkF w b c t' ∧ replK c o [v] fun c' => ∀ w', UpdF w b c' t' w' → k w' := by
  have hr := H.rowAt hi
  rcases hr.at_ with ⟨_, h2, _⟩ | ⟨b0, cur, h1, h2, h3, h4, h5, h6⟩
  · rw [h2, Nat.zero_mul] at hj; omega
  · rw [h1] at hb ho
    simp only [ablk, aoff, Nat.zero_add] at hb ho
    subst hb ho
    have hbl : BlkF w b cur.toList e := h2
    have hle := Nat.mul_le_mul_right sz h3
    refine ⟨cur.toList, e, hbl, replK_set1 (by rw [Array.length_toList, h5]; omega) fun w' hu => hk w' ?_⟩
    have hu' := hu
    obtain ⟨fz, cs, hz1, rfl⟩ := hu.wd
    refine H.put hi rfl rfl rfl (by simp) (fun k _ hk => hu'.other fun e => hk (by rw [e]; simp [Res.at_, h1])) ⟨by rw [List.length_set, hr.len], .inr ⟨b, (cur.toList.set o v).toArray, h1, hu'.row hbl (by simp), h3, h4, by simp [h5], ?_⟩⟩ fun k hk => .inl hk
    rw [← h6]
    simp [List.take_set]
theorem sgC_set (hP : List (Nat × Sl)) (x : Nat) (a b : Sl) : ((hP ++ [(x, a)]).flatMap sgC).set (hP.length * 2 + 1) b.v = (hP ++ [(x, b)]).flatMap sgC := by
  have hl : (hP.flatMap sgC).length = hP.length * 2 := flat_len (n := 2) (fun _ => rfl) hP
  rw [List.flatMap_append, List.flatMap_append, List.set_append_right _ _ (by omega), hl, show hP.length * 2 + 1 - hP.length * 2 = 1 by omega]
  rfl
section
variable {V W : World}
theorem clone_b (hV : Sub V W) {s : Sl} {l : List UInt8} (hs : Byt V s l) (hl : l.length ≤ 1000000000) : Ret Tryz.prog 79 [s.v].toArray W fun v w' => ∃ r : Sl, v = r.v ∧ Rel W V [.row r 5 1 (l.flatMap byC)] V w' := by
  have H := Rel.start hV
  have hlen := hs.len
  refine cal_of_vc tabOk Tryz.func79 rfl (by kernel_rfl) 8 rfl (by simp) [0, 2, 4] ?_
  rcases s with ⟨_ | p, n, c⟩
  · have hl0 : l = [] := by
      rcases l with _ | ⟨b, l⟩
      · rfl
      · have := hs.cells.1 (by simp [byC_map])
        simp [Plain] at this
    subst hl0
    (first | (refine H.wg ?_; clear H; intros; rename_i w H; constructor) | refine wk ?_)
    exact ⟨⟨none, 0, 0⟩, rfl, H.rowNil _ _⟩
  · (first | (refine H.wh ?_; clear H; intros; rename_i w H; constructor) | refine wk ?_)
    ((first | refine Rel.nwD H ?_ | refine Rel.nw H ?_); clear H; intro w b5 H)
    (first | (refine H.wg ?_; clear H; intros; rename_i w H; constructor) | refine wk ?_)
    replace H := H.toRow (n := 0) (e := 5) (sz := 1) rfl (by simp [maxLen])
    refine Rel.appD (s := ⟨some ⟨b5, 0, none⟩, 0, 0⟩) (xs := []) H (i := 0) rfl hs (by simp; omega) ?_
    clear H
    intro r1 w H
    simp only [List.set_cons_zero] at H
    rw [List.nil_append] at H
    (first | (refine H.wg ?_; clear H; intros; rename_i w H; constructor) | refine wk ?_)
    exact ⟨r1, rfl, H⟩
set_option maxRecDepth 100000 in
set_option maxHeartbeats 1000000 in
theorem add_spec {w0 V0 : World} {bx b4 : Nat} {c4 : List Value} {t4 : TypeId} {sz sg dl c : Sl} {S : List Seg} {Z : List Nat} {hs : List (Nat × Sl)} {d cs : List UInt8} {fl a : Nat}
    (H : Rel w0 V0 [.row sz 3 1 ((ints Z).flatMap itC), .row sg 83 2 (hs.flatMap sgC), .row dl 5 1 (d.flatMap byC), .blk bx [sg.v, sz.v, iv (fl : Int)] 74, .blk b4 c4 t4] V W)
    (hS : SegsN V S hs dl d) (hSl : S.length ≤ 100000) (hZl : Z.length ≤ 100000) (hdl : d.length ≤ 100000) (hc : Byt V c cs) (hcl : cs.length ≤ 1000) (ha : a ≤ 65536) (hok : segOk S) :
    Ret Tryz.prog 61 [.pointer (some ⟨bx, 0, none⟩), iv (a : Int), c.v].toArray W fun _ w' => ∃ (V' : World) (sz' sg' dl' : Sl) (hs' : List (Nat × Sl)) (d' : List UInt8), Sub V V' ∧ SegsN V' (addSeg a cs S) hs' dl' d' ∧
      Rel w0 V0 [.row sz' 3 1 ((ints (Z ++ [cs.length])).flatMap itC), .row sg' 83 2 (hs'.flatMap sgC), .row dl' 5 1 (d'.flatMap byC), .blk bx [sg'.v, sz'.v, iv (fl : Int)] 74, .blk b4 c4 t4] V' w' := by
  generalize hw0 : W = wz at H
  subst hw0
  have hcn := hc.len
  have hhl := hS.len
  have hsl := H.rowLen (i := 1) rfl (fun _ => rfl) (by decide)
  have hil : (ints Z).length = Z.length := by simp
  refine cal_of_vc tabOk Tryz.func61 rfl (by kernel_rfl) 67 rfl (by simp) [0, 1, 2, 6, 7, 25, 44] ?_
  (first | (refine H.wg ?_; clear H; intros; rename_i w H; constructor) | refine wk ?_)
  refine Rel.app1_0 (f := itC) (l := ints Z) (x := (c.len : Int)) tabOk rfl rfl rfl rfl rfl (by decide) (fun _ => rfl) (by simp [Value.oneCell']) H (by show ((ints Z).length + 1) * 8 ≤ _; omega) (by omega) ?_
  clear H
  intro sz' w H
  rw [show ints Z ++ [(c.len : Int)] = ints (Z ++ [cs.length]) by simp [hcn]] at H
  (first | (refine H.wg ?_; clear H; intros; rename_i w H; constructor) | refine wk ?_)
  rcases hS.ex with ⟨rfl, rfl⟩ | ⟨P, x, hP, rfl, rfl, hPw⟩
  · have hsl0 : sg.len = 0 := by simpa using hsl
    (first | (refine H.wg ?_; clear H; intros; rename_i w H; constructor) | refine wk ?_)
    ((first | refine draw_vc (id := 4) tabOk mixed [] [0, 1, 2, 3, 4, 5, 6, 7, 8, 9, 10, 11] (by kernel_rfl) ?_ | refine draw_vc (id := 6) tabOk mixed [7, 9] [0, 1, 2, 3, 4, 5, 6, 7, 8, 9, 10, 11, 12, 13] (by kernel_rfl) ?_); intro w hdw; replace H := Rel.ext H hdw.ext)
    (first | (refine H.wg ?_; clear H; intros; rename_i w H; constructor) | refine wk ?_)
    refine (clone_b H.data hc (by omega)).use ?_
    rintro v w ⟨r, rfl, K⟩
    (have hKb := K.base; replace H := Rel.call H K)
    simp only [List.cons_append, List.nil_append] at H
    (first | (refine H.wg ?_; clear H; intros; rename_i w H; constructor) | refine wk ?_)
    refine Rel.app1_2 (f := sgC) (l := []) (x := (a, r)) tabOk rfl rfl rfl rfl rfl (by decide) (fun _ => rfl) (by simp [Value.oneCell']) H (by show (0 + 1) * 32 ≤ _; omega) (by simp) ?_
    clear H
    intro sg' w H
    (first | (refine H.wg ?_; clear H; intros; rename_i w H; constructor) | refine wk ?_)
    have H0 : Rel w0 V0 [.row dl 5 1 (d.flatMap byC), .row sz' 3 1 ((ints (Z ++ [cs.length])).flatMap itC), .row sg' 83 2 ([(a, r)].flatMap sgC), .row r 5 1 (cs.flatMap byC), .blk bx [sg'.v, sz'.v, iv (fl : Int)] 74, .blk b4 c4 t4] V w := H.pick
    obtain ⟨V2, hV2, H, hd⟩ := Rel.freezeF H0 (fun _ => rfl) (by decide)
    exact ⟨V2, sz', sg', r, [(a, r)], cs, hV2, ⟨.inr ⟨[], a, [], by rw [addSeg_nil]; rfl, rfl, Pw.nil⟩⟩, H⟩
  · have hpn := hPw.len
    rw [List.length_append, List.length_singleton] at hsl hSl
    have hpl : Plain sg.a := ((H.slfAt (i := 1) rfl (fun _ => rfl) (by decide)).at2 (g := fun h : Nat × Sl => iv (h.1 : Int)) (g' := fun h : Nat × Sl => h.2.v) (fun _ => rfl) (i := hP.length) (by simp)).1
    have eI : (((sg.len : Nat) : Int) - 1).toNat = hP.length := by omega
    have gl : (hP ++ [(x, dl)])[hP.length]'(by simp) = (x, dl) := by simp
    have hdn := H.rowLen (i := 2) rfl (fun _ => rfl) (by decide)
    have hx : x < 65536 := (hok (x, d) (by simp)).1
    (first | (refine H.wg ?_; clear H; intros; rename_i w H; constructor) | refine wk ?_)
    ((first | refine draw_vc (id := 4) tabOk mixed [] [0, 1, 2, 3, 4, 5, 6, 7, 8, 9, 10, 11] (by kernel_rfl) ?_ | refine draw_vc (id := 6) tabOk mixed [7, 9] [0, 1, 2, 3, 4, 5, 6, 7, 8, 9, 10, 11, 12, 13] (by kernel_rfl) ?_); intro w hdw; replace H := Rel.ext H hdw.ext)
    (first | (refine H.wg ?_; clear H; intros; rename_i w H; constructor) | refine wk ?_)
    rw [eI]
    obtain ⟨_, u1, u2⟩ := (H.slfAt (i := 1) rfl (fun _ => rfl) (by decide)).at2 (g := fun h : Nat × Sl => iv (h.1 : Int)) (g' := fun h : Nat × Sl => h.2.v) (fun _ => rfl) (i := hP.length) (by simp)
    rw [gl] at u1 u2
    dsimp only at u1 u2
    refine ⟨_, u1, ?_⟩
    (first | (refine H.wg ?_; clear H; intros; rename_i w H; constructor) | refine wk ?_)
    by_cases he : x + d.length = a
    · (first | (refine H.wg ?_; clear H; intros; rename_i w H; constructor) | refine wk ?_)
      refine Rel.appD H (i := 2) rfl hc (by omega) ?_
      clear H
      intro dl' w H
      simp only [List.set_cons_zero, List.set_cons_succ] at H
      (first | (refine H.wg ?_; clear H; intros; rename_i w H; constructor) | refine wk ?_)
      refine Rel.stRowN (i := 1) H rfl (hP.length * 2 + 1) (by omega) rfl rfl ?_
      clear H
      intro w H
      simp only [List.set_cons_zero, List.set_cons_succ] at H
      rw [show ((hP ++ [(x, dl)]).flatMap sgC).set (hP.length * 2 + 1) dl'.v = (hP ++ [(x, dl')]).flatMap sgC from sgC_set hP x dl dl'] at H
      (first | (refine H.wg ?_; clear H; intros; rename_i w H; constructor) | refine wk ?_)
      refine ⟨V, sz', sg, dl', hP ++ [(x, dl')], d ++ cs, Sub.refl _, ⟨.inr ⟨P, x, hP, ?_, rfl, hPw⟩⟩, H⟩
      rw [addSeg_snoc, if_pos he]
    · (first | (refine H.wg ?_; clear H; intros; rename_i w H; constructor) | refine wk ?_)
      ((first | refine draw_vc (id := 4) tabOk mixed [] [0, 1, 2, 3, 4, 5, 6, 7, 8, 9, 10, 11] (by kernel_rfl) ?_ | refine draw_vc (id := 6) tabOk mixed [7, 9] [0, 1, 2, 3, 4, 5, 6, 7, 8, 9, 10, 11, 12, 13] (by kernel_rfl) ?_); intro w hdw; replace H := Rel.ext H hdw.ext)
      (first | (refine H.wg ?_; clear H; intros; rename_i w H; constructor) | refine wk ?_)
      refine (clone_b H.data hc (by omega)).use ?_
      rintro v w ⟨r, rfl, K⟩
      (have hKb := K.base; replace H := Rel.call H K)
      simp only [List.cons_append, List.nil_append] at H
      (first | (refine H.wg ?_; clear H; intros; rename_i w H; constructor) | refine wk ?_)
      refine Rel.app1_2 (f := sgC) (l := hP ++ [(x, dl)]) (x := (a, r)) tabOk rfl rfl rfl rfl rfl (by decide) (fun _ => rfl) (by simp [Value.oneCell']) H (by show ((hP ++ [(x, dl)]).length + 1) * 32 ≤ _; rw [List.length_append, List.length_singleton]; omega) (by rw [List.length_append, List.length_singleton]; omega) ?_
      clear H
      intro sg' w H
      (first | (refine H.wg ?_; clear H; intros; rename_i w H; constructor) | refine wk ?_)
      have H0 : Rel w0 V0 [.row dl 5 1 (d.flatMap byC), .row sz' 3 1 ((ints (Z ++ [cs.length])).flatMap itC), .row sg' 83 2 ((hP ++ [(x, dl)] ++ [(a, r)]).flatMap sgC), .row r 5 1 (cs.flatMap byC), .blk bx [sg'.v, sz'.v, iv (fl : Int)] 74, .blk b4 c4 t4] V w := H.pick
      obtain ⟨V2, hV2, H, hd⟩ := Rel.freezeF H0 (fun _ => rfl) (by decide)
      refine ⟨V2, sz', sg', r, hP ++ [(x, dl)] ++ [(a, r)], cs, hV2, ⟨.inr ⟨P ++ [(x, d)], a, hP ++ [(x, dl)], ?_, rfl, ?_⟩⟩, H⟩
      · rw [addSeg_snoc, if_neg he]
      · exact (hPw.up SegR.up hV2).snoc ⟨rfl, hd⟩
end
end Go.Proofs.YtjfcpnlacodjjaaGreat
