/-
  Files of hexadecimal records: the plain image.
-/
import Derived.Test.YtjfcpnlacodjjaaGreatHexF
namespace Go.Proofs.YtjfcpnlacodjjaaGreat
open Go Go.RowKit

abbrev SegV (V : World) (h : VH) (s : Seg) : Prop := ValAt V h (segV s)
theorem segV_up : ∀ (V V' : World) (x : VH) (y : Seg), Sub V V' → SegV V x y → SegV V' x y := fun _ _ _ _ k h => h.up k
theorem hexVal_at {V : World} {s : Sl} {hs : List VH} {S : List Seg} (h1 : SlF valC V s hs) (h2 : Pw SegV V hs S) : ValAt V ⟨3, 0, ⟨none, 0, 0⟩, ⟨none, 0, 0⟩, s⟩ (hexVal S) :=
  .mk hs rfl rfl (SlF.nil _ _) (SlF.nil _ _) h1 (by show hs.length = (S.map segV).length; rw [h2.len, List.length_map]) fun i x p hx hp => by
    have hp : (S.map segV)[i]? = some p := hp
    rw [List.getElem?_map] at hp
    cases hS : S[i]? with
    | none => rw [hS] at hp; cases hp
    | some y =>
      rw [hS] at hp
      cases hp
      exact h2.all i x y hx hS
theorem segV_at {V : World} {a : Nat} {d : List UInt8} {sn sp xs : Sl} (h1 : SlF strC V sn [sAt, sData]) (h2 : SlF valC V sp [numH (a : Int), bytH xs]) (h3 : Byt V xs d) : SegV V ⟨4, 0, ⟨none, 0, 0⟩, sn, sp⟩ (a, d) :=
  valAt_rec h1 h2 rfl fun i x p hx hp => by
    match i, hx, hp with
    | 0, hx, hp => cases hx; cases hp; exact valAt_num _ _
    | 1, hx, hp => cases hx; cases hp; exact valAt_byt h3
    | i + 2, hx, hp => simp at hx
section
variable {V W : World}
theorem names_hex (hV : Sub V W) : Ret Tryz.prog 40 [].toArray W fun v w' => ∃ (V' : World) (s : Sl), Sub V V' ∧ Rel W V [] V' w' ∧ v = s.v ∧ SlF strC V' s [sAt, sData] := by
  have H := Rel.start hV
  refine cal_of_vc tabOk Tryz.func40 rfl (by kernel_rfl) 2 rfl (by simp) [0] ?_
  (first | (refine H.wh ?_; clear H; intros; rename_i w H; constructor) | refine wk ?_)
  ((first | refine Rel.nwD H ?_ | refine Rel.nw H ?_); clear H; intro w b1 H)
  obtain ⟨V2, hV2, H, hb⟩ := H.freezeBlk
  (first | (refine H.wg ?_; clear H; intros; rename_i w H; constructor) | refine wk ?_)
  exact ⟨V2, ⟨some ⟨b1, 0, none⟩, 2, 2⟩, hV2, H.sx, rfl, rfl, Nat.le_refl _, hb.cells⟩
set_option maxRecDepth 100000 in
set_option maxHeartbeats 1000000 in
theorem plain_hex (hV : Sub V W) {s : Sl} {S : List Seg} (hs : SegsAt V s S) (hl : S.length ≤ 1000) : Ret Tryz.prog 35 [s.v].toArray W fun v w' => ∃ (V' : World) (h : VH), Sub V V' ∧ Rel W V [] V' w' ∧ v = valV h ∧ ValAt V' h (hexVal S) := by
  have H := Rel.start hV
  have hsl := hs.len
  obtain ⟨gs, hgs, hpw⟩ := hs
  have hgl := hpw.len
  refine cal_of_vc tabOk Tryz.func35 rfl (by kernel_rfl) 31 rfl (by simp) [0, 2, 3, 5, 6, 8, 9, 10, 11] ?_
  (first | (refine H.wh ?_; clear H; intros; rename_i w H; constructor) | refine wk ?_)
  ((first | refine Rel.nwD H ?_ | refine Rel.nw H ?_); clear H; intro w b2 H)
  (first | (refine H.wh ?_; clear H; intros; rename_i w H; constructor) | refine wk ?_)
  ((first | refine Rel.nwD H ?_ | refine Rel.nw H ?_); clear H; intro w b3 H)
  (first | (refine H.wg ?_; clear H; intros; rename_i w H; constructor) | refine wk ?_)
  replace H := H.rowNil 26 5
  refine loop_inv (S := Nat × Sl × List VH) tabOk [0, 2, 3, 8, 9] (fun q => [(10, iv q.1)]) (fun q w' => q.1 ≤ S.length ∧ ∃ V3, Sub V V3 ∧ Pw SegV V3 q.2.2 (S.take q.1) ∧ Rel W V [.row q.2.1 26 5 (q.2.2.flatMap valC), .blk b3 [iv 3, iv 0, .slice none 0 0, .slice none 0 0, q.2.1.v] 26, .blk b2 (valC zeroH) 26] V3 w') (fun q _ => S.length - q.1) (0, ⟨none, 0, 0⟩, []) ?_
  (conv => whnf)
  refine ⟨(by repeat (first | exact trivial | refine ⟨rfl, ?_⟩)), ⟨by omega, V, Sub.refl _, Pw.nil, H⟩, ?_⟩
  clear H
  rintro ⟨kk, pr, hh⟩ w ⟨hkk, V3, hV3, hP, H⟩
  dsimp only at hkk hP H ⊢
  by_cases hlt : kk < S.length
  · obtain ⟨p0, c0, c1⟩ := (hgs.up hV3).at2 (g := fun h : Nat × Sl => iv (h.1 : Int)) (g' := fun h : Nat × Sl => h.2.v) (fun _ => rfl) (i := kk) (by omega)
    have hR := hpw.all kk _ _ (List.getElem?_eq_getElem (by omega)) (List.getElem?_eq_getElem hlt)
    obtain ⟨x, hx⟩ : ∃ x, x = gs[kk]'(by omega) := ⟨_, rfl⟩
    obtain ⟨y, hy⟩ : ∃ y, y = S[kk] := ⟨_, rfl⟩
    rw [← hx, ← hy] at hR
    rw [← hx] at c0 c1
    have hst := List.take_succ_eq_append_getElem hlt
    rw [← hy] at hst
    obtain ⟨xa, xs⟩ := x
    obtain ⟨ya, yd⟩ := y
    obtain ⟨hxy, hby⟩ := hR
    dsimp only at hby hxy c0 c1
    subst hxy
    have hpl := hP.len
    rw [List.length_take] at hpl
    (first | (refine H.wh ?_; clear H; intros; rename_i w H; constructor) | refine wk ?_)
    ((first | refine Rel.nwD H ?_ | refine Rel.nw H ?_); clear H; intro w b5 H)
    (first | (refine H.wh ?_; clear H; intros; rename_i w H; constructor) | refine wk ?_)
    ((first | refine Rel.nwD H ?_ | refine Rel.nw H ?_); clear H; intro w b6 H)
    obtain ⟨V4, hV4, H, hb6⟩ := H.freezeBlk
    (first | (refine H.wg ?_; clear H; intros; rename_i w H; constructor) | refine wk ?_)
    ((first | refine draw_vc (id := 6) tabOk mixed [2, 5] [0, 1, 3, 2, 4, 5, 6, 7, 8] (by kernel_rfl) ?_); intro w hdw; replace H := Rel.ext H hdw.ext)
    (first | (refine H.wg ?_; clear H; intros; rename_i w H; constructor) | refine wk ?_)
    refine (names_hex H.data).use ?_
    rintro v w ⟨V5, sn, hV5, K, rfl, hsn⟩
    (have hKb := K.base; replace H := H.call0 K)
    (first | (refine H.wg ?_; clear H; intros; rename_i w H; constructor) | refine wk ?_)
    refine Rel.app1_1 (f := valC) (l := hh) (x := ⟨4, 0, ⟨none, 0, 0⟩, sn, ⟨some ⟨b6, 0, none⟩, 2, 2⟩⟩) tabOk rfl rfl rfl rfl rfl (by decide) (fun _ => rfl) (by simp [Value.oneCell']) H (by show (hh.length + 1) * 88 ≤ _; omega) (by omega) ?_
    clear H
    intro pr1 w H
    (first | (refine H.wg ?_; clear H; intros; rename_i w H; constructor) | refine wk ?_)
    have hV45 := hV4.trans hV5
    refine ⟨(by repeat (first | exact trivial | refine ⟨rfl, ?_⟩)), (kk + 1, pr1, hh ++ [⟨4, 0, ⟨none, 0, 0⟩, sn, ⟨some ⟨b6, 0, none⟩, 2, 2⟩⟩]), (by repeat (first | exact trivial | refine ⟨rfl, ?_⟩)), ⟨by dsimp only; omega, V5, hV3.trans hV45, ?_, H.sx⟩, by dsimp only; omega⟩
    dsimp only
    rw [hst]
    exact (hP.up segV_up hV45).snoc (segV_at hsn ⟨rfl, Nat.le_refl _, hb6.cells.sub' hV5⟩ (hby.up (hV3.trans hV45)))
  · obtain rfl : kk = S.length := by omega
    rw [List.take_length] at hP
    obtain ⟨V4, hV4, H, hr⟩ := Rel.freezeF H (fun _ => rfl) (by decide)
    (first | (refine H.wg ?_; clear H; intros; rename_i w H; constructor) | refine wk ?_)
    exact ⟨V4, ⟨3, 0, ⟨none, 0, 0⟩, ⟨none, 0, 0⟩, pr⟩, hV3.trans hV4, H.sx, rfl, hexVal_at hr (hP.up segV_up hV4)⟩
end
end Go.Proofs.YtjfcpnlacodjjaaGreat
