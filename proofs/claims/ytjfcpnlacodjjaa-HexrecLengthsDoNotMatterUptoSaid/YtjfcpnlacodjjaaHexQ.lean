/-
  Files of hexadecimal records: segmentsOf; value.Compare.
-/
import Derived.Test.YtjfcpnlacodjjaaHexP
import Derived.Test.YtjfcpnlacodjjaaHexH
import Derived.Test.YtjfcpnlacodjjaaValQ
import Derived.Test.YtjfcpnlacodjjaaLibB
namespace Go.Proofs.Ytjfcpnlacodjjaa
open Go Go.RowKit

structure SegO (W V : World) (o : Option (List Seg)) (q : Value) (w' : World) : Prop where
  ex : ∃ (V' : World) (r : Sl), Sub V V' ∧ Rel W V [] V' w' ∧ (match o with
    | none => q = .tuple #[(⟨none, 0, 0⟩ : Sl).v, .bool false]
    | some S => q = .tuple #[r.v, .bool true] ∧ SegsAt V' r S)
theorem two_parts {v : Val} (h : v.parts.length = 2) : ∃ a d, v.parts = [a, d] := by
  match hp : v.parts, h with
  | [a, d], _ => exact ⟨a, d, rfl⟩
section
variable {V W : World}
set_option maxRecDepth 100000 in
set_option maxHeartbeats 1000000 in
theorem compare_value (hV : Sub V W) {h g : VH} {v u : Val} (hv : ValAt V h v) (hu : ValAt V g u) (hB : VB 1048576 v) (hB' : VB 1048576 u) (hf : (vfault v).1 = 0) (hf' : (vfault u).1 = 0) : Ret Try.prog 73 [valV h, valV g].toArray W fun q w' => ∃ (V' : World) (c : Int), Sub V V' ∧ Rel W V [] V' w' ∧ q = .tuple #[iv c, faultV 0 0] ∧ (c = 0 ↔ v = u) := by
  have H := Rel.start hV
  have hv0 := hv
  have hu0 := hu
  obtain ⟨k, n, bs, ss, pl⟩ := h
  obtain ⟨k', n', bs', ss', pl'⟩ := g
  change Ret Try.prog 73 [.agg [iv k, iv n, bs.v, ss.v, pl.v].toArray, .agg [iv k', iv n', bs'.v, ss'.v, pl'.v].toArray].toArray W _
  refine cal_of_vc tabOk Try.func73 rfl (by kernel_rfl) 31 rfl (by simp) [0, 1, 2, 3, 4, 5, 6, 7, 8, 16, 25] ?_
  (first | (refine H.wh ?_; clear H; intros; rename_i w H; constructor) | refine wk ?_)
  ((first | refine Rel.nwD H ?_ | refine Rel.nw H ?_); clear H; intro w b2 H)
  (first | (refine H.wh ?_; clear H; intros; rename_i w H; constructor) | refine wk ?_)
  ((first | refine Rel.nwD H ?_ | refine Rel.nw H ?_); clear H; intro w b3 H)
  (first | (refine H.wh ?_; clear H; intros; rename_i w H; constructor) | refine wk ?_)
  ((first | refine Rel.nwD H ?_ | refine Rel.nw H ?_); clear H; intro w b5 H)
  (first | (refine H.wg ?_; clear H; intros; rename_i w H; constructor) | refine wk ?_)
  refine (encodeV_spec H.data hv0 hB).use ?_
  rintro q w ⟨V2, r2, hV2, K, rfl, hr2⟩
  (have hKb := K.base; replace H := H.call0 K)
  rw [vfault_zz hf] at hr2 ⊢
  obtain ⟨_, hr2⟩ := hr2.resolve_left fun h => h.1 rfl
  (first | (refine H.wh ?_; clear H; intros; rename_i w H; constructor) | refine wk ?_)
  ((first | refine Rel.nwD H ?_ | refine Rel.nw H ?_); clear H; intro w b7 H)
  (first | (refine H.wg ?_; clear H; intros; rename_i w H; constructor) | refine wk ?_)
  refine (encodeV_spec H.data (hu0.up hV2) hB').use ?_
  rintro q w ⟨V3, r3, hV3, K, rfl, hr3⟩
  (have hKb := K.base; replace H := H.call0 K)
  rw [vfault_zz hf'] at hr3 ⊢
  obtain ⟨_, hr3⟩ := hr3.resolve_left fun h => h.1 rfl
  (first | (refine H.wg ?_; clear H; intros; rename_i w H; constructor) | refine wk ?_)
  refine (compare_bytes H.data (hr2.up hV3) hr3).use ?_
  rintro q w ⟨rfl, K⟩
  (have hKb := K.base; replace H := H.call0 K)
  (first | (refine H.wg ?_; clear H; intros; rename_i w H; constructor) | refine wk ?_)
  exact ⟨V3, _, hV2.trans hV3, H.sx, rfl, by rw [compareBytes_zero, enc_eq_iff hB hf hB' hf']⟩
set_option maxRecDepth 100000 in
set_option maxHeartbeats 2000000 in
theorem segmentsOf_spec (hV : Sub V W) {h : VH} {v : Val} (hv : ValAt V h v) (hB : VB 1048576 v) (hf : (vfault v).1 = 0) : Ret Try.prog 71 [valV h].toArray W (SegO W V (hexShape v)) := by
  have H := Rel.start hV
  have hv0 := hv
  have e1 := hv.kind
  have hpl := hv.plen
  have hcnt := valid_count hf
  obtain ⟨k, n, bs, ss, pl⟩ := h
  dsimp only at e1 hpl
  subst e1
  change Ret Try.prog 71 [.agg [iv v.kind, iv n, bs.v, ss.v, pl.v].toArray].toArray W _
  refine cal_of_vc tabOk Try.func71 rfl (by kernel_rfl) 80 rfl (by simp) [0, 1, 2, 3, 4, 6, 7, 8, 11, 13, 14, 15, 16, 28, 69] ?_
  (first | (refine H.wh ?_; clear H; intros; rename_i w H; constructor) | refine wk ?_)
  ((first | refine Rel.nwD H ?_ | refine Rel.nw H ?_); clear H; intro w b1 H)
  by_cases h3 : v.kind = 3
  rotate_left
  · rw [show hexShape v = none by unfold hexShape; rw [if_neg h3]]
    (first | (refine H.wg ?_; clear H; intros; rename_i w H; constructor) | refine wk ?_)
    exact ⟨V, ⟨none, 0, 0⟩, Sub.refl _, H.sx, rfl⟩
  have hsh : hexShape v = allM segOf v.parts := by unfold hexShape; rw [if_pos h3]
  rw [hsh]
  (first | (refine H.wg ?_; clear H; intros; rename_i w H; constructor) | refine wk ?_)
  replace H := H.rowNil 144 2
  refine loop_inv (S := Nat × Sl × List (Nat × Sl) × List Seg) tabOk [0, 1, 11, 13, 14] (fun q => [(4, q.2.1.v), (15, iv q.1)]) (fun q w' => q.1 ≤ v.parts.length ∧ allM segOf (v.parts.take q.1) = some q.2.2.2 ∧ ∃ V2, Sub V V2 ∧ Pw SegR V2 q.2.2.1 q.2.2.2 ∧ Rel W V [.row q.2.1 144 2 (q.2.2.1.flatMap sgC), .blk b1 [iv v.kind, iv n, bs.v, ss.v, pl.v] 27] V2 w') (fun q _ => v.parts.length - q.1) (0, ⟨none, 0, 0⟩, [], []) ?_
  (conv => whnf)
  refine ⟨(by repeat (first | exact trivial | refine ⟨rfl, ?_⟩)), ⟨by omega, rfl, V, Sub.refl _, Pw.nil, H⟩, ?_⟩
  clear H
  rintro ⟨kk, r0, hh, S⟩ w ⟨hkk, hall, V2, hV2, hP, H⟩
  dsimp only at hkk hall hP H ⊢
  by_cases hlt : kk < v.parts.length
  rotate_left
  · obtain rfl : kk = v.parts.length := by omega
    rw [List.take_length] at hall
    rw [hall]
    obtain ⟨V3, hV3, H, hr⟩ := Rel.freezeF H (fun _ => rfl) (by decide)
    (first | (refine H.wg ?_; clear H; intros; rename_i w H; constructor) | refine wk ?_)
    exact ⟨V3, r0, hV2.trans hV3, H.sx, rfl, hh, hr, hP.up SegR.up hV3⟩
  have hPl := hP.len
  have hSl := (allM_some hall).1
  rw [List.length_take] at hSl
  obtain ⟨hp0, x, hx, a0, a1, a2, a3, a4⟩ := (hv0.up hV2).part5 (i := kk) hlt
  obtain ⟨r, hr⟩ : ∃ r, r = v.parts[kk] := ⟨_, rfl⟩
  rw [← hr] at hx
  have hmem : r ∈ v.parts := by rw [hr]; exact List.getElem_mem hlt
  have hno : segOf r = none → allM segOf v.parts = none := fun h => allM_none hmem h
  have hrB := hB.part r hmem
  have hnb := hrB.names
  have k1 := hx.kind
  have hrn := hx.names
  have hrl := hx.plen
  have hx0 := hx
  obtain ⟨xk, xn, xb, xs, xp⟩ := x
  dsimp only at k1 hrn hrl a0 a1 a2 a3 a4
  subst k1
  (first | (refine H.wh ?_; clear H; intros; rename_i w H; constructor) | refine wk ?_)
  ((first | refine Rel.nwD H ?_ | refine Rel.nw H ?_); clear H; intro w b6 H)
  (first | (refine H.wg ?_; clear H; intros; rename_i w H; constructor) | refine wk ?_)
  by_cases h4 : r.kind = 4
  rotate_left
  · rw [hno (segOf_no fun h => h4 h.1)]
    ((first | refine draw_vc (id := 7) tabOk mixed [6] [0, 1, 2, 3, 4, 5, 6, 7, 8, 9] (by kernel_rfl) ?_); intro w hdw; replace H := Rel.ext H hdw.ext)
    (first | (refine H.wg ?_; clear H; intros; rename_i w H; constructor) | refine wk ?_)
    exact ⟨V2, ⟨none, 0, 0⟩, hV2, H.sx, rfl⟩
  ((first | refine draw_vc (id := 7) tabOk mixed [6] [0, 1, 2, 3, 4, 5, 6, 7, 8, 9] (by kernel_rfl) ?_); intro w hdw; replace H := Rel.ext H hdw.ext)
  (first | (refine H.wg ?_; clear H; intros; rename_i w H; constructor) | refine wk ?_)
  refine (names_hex H.data).use ?_
  rintro q w ⟨V3, sn, hV3, K, rfl, hsn⟩
  (have hKb := K.base; replace H := Rel.call H K)
  simp only [List.nil_append] at H
  (first | (refine H.wg ?_; clear H; intros; rename_i w H; constructor) | refine wk ?_)
  have hV23 := hV2.trans hV3
  refine (equal_strs H.data (hrn.up hV3) hsn (by omega)).use ?_
  rintro q w ⟨rfl, K⟩
  (have hKb := K.base; replace H := Rel.call H K)
  simp only [List.nil_append] at H
  by_cases hnn : r.names = [sAt, sData]
  rotate_left
  · rw [decide_eq_false hnn, hno (segOf_no fun h => hnn h.2)]
    (first | (refine H.wg ?_; clear H; intros; rename_i w H; constructor) | refine wk ?_)
    exact ⟨V3, ⟨none, 0, 0⟩, hV23, H.sx, rfl⟩
  rw [decide_eq_true hnn]
  have h2 : r.parts.length = 2 := by rw [← valid_part hf hmem h4, hnn]; rfl
  obtain ⟨a, d, hps⟩ := two_parts h2
  have hseg := segOf_two ⟨h4, hnn⟩ hps
  have H0 : Rel W V [.blk b6 [iv r.kind, iv xn, xb.v, xs.v, xp.v] 27, .row r0 144 2 (hh.flatMap sgC), .blk b1 [iv v.kind, iv n, bs.v, ss.v, pl.v] 27] V3 w := H.sx
  clear H
  obtain ⟨V4, hV4, H, hb6⟩ := H0.freezeBlk
  clear H0
  have o4 := hb6.cel (i := 4) rfl
  have hV24 := hV23.trans hV4
  obtain ⟨_, xa, hxa, c0, c1, c2, c3, c4⟩ := (hx0.up (hV3.trans hV4)).part5 (i := 0) (by omega)
  obtain ⟨_, xd, hxd, d0, d1, d2, d3, d4⟩ := (hx0.up (hV3.trans hV4)).part5 (i := 1) (by omega)
  have g0 : r.parts[0] = a := by simp [hps]
  have g1 : r.parts[1] = d := by simp [hps]
  rw [g0] at hxa
  rw [g1] at hxd
  (first | (refine H.wg ?_; clear H; intros; rename_i w H; constructor) | refine wk ?_)
  refine SemC.cutN (fun q : Nat × Nat => [(0, .agg [iv v.kind, iv n, bs.v, ss.v, pl.v].toArray), (1, .pointer (some ⟨b1, 0, none⟩)), (4, r0.v), (7, .pointer (some ⟨q.1, 0, none⟩)), (8, .pointer (some ⟨q.2, 0, none⟩)), (11, .bool (decide (v.kind ≠ 3))), (13, pl.v), (14, iv (pl.len : Int)), (15, iv (kk : Int))])
    (fun q w' => Rel W V [.blk q.1 (valC xa) 27, .blk q.2 (valC xd) 27, .row r0 144 2 (hh.flatMap sgC), .blk b1 [iv v.kind, iv n, bs.v, ss.v, pl.v] 27] V4 w') ?_ ?_
  · ((first | refine draw_vcTX (id := 7) tabOk mixed (Kv V4) Kv.trans [6] [5] [0, 1, 2, 3, 4, 5, 6, 7, 8, 9] [(6, []), (7, [6])] (by kernel_rfl) ?_ | refine draw_vcTX (id := 9) tabOk mixed (Kv V4) Kv.trans [8, 9, 10] [1, 3, 5, 7] [0, 1, 2, 3, 4, 5, 6, 7, 8, 9, 10, 11] [(8, []), (9, []), (10, [8, 9]), (11, [8, 9, 10])] (by kernel_rfl) ?_); intro w hdw; replace H := Rel.ext H hdw.ext)
    repeat' ((first | (refine H.wh ?_; clear H; intros; rename_i w H; constructor) | refine wk ?_); (first | refine Kv.go H ?_ | refine Kv.go2 H (by assumption) ?_ | (refine And.intro (fun w1 hkp => ?_) ?_; focus ((first | have H := Kv.in H hkp | have H := Kv.in2 H (by assumption) hkp); ((repeat ((conv => whnf); first | refine an ?_ | refine H.ce ?_ | refine H.db ?_ | refine ea ?_ | refine ol ?_ | fail | refine cT ?_ | refine cF ?_ | refine cN ?_ | refine cM ?_ | refine H.lw ?_ | refine H.ll ?_)); (conv => whnf)); all_goals (first | exact ⟨rfl, rfl⟩ | exact rfl))) | refine And.intro ?_ ?_ | ((first | refine Rel.nwD H ?_ | refine Rel.nw H ?_); clear H; intro w _ H)))
    all_goals
      (first | (refine H.wg ?_; clear H; intros; rename_i w H; constructor) | refine wk ?_)
      exact ⟨(_, _), (by repeat (first | exact trivial | refine ⟨rfl, ?_⟩)), H.pick⟩
  clear H
  rintro ⟨b7, b8⟩ w H
  dsimp only at H
  have ka := hxa.kind
  have na := hxa.num
  have kd := hxd.kind
  have hdb := hxd.bytes
  have hdl := hdb.len
  have hdB := (hrB.part d (by rw [hps]; simp)).bytes
  obtain ⟨ak, an, ab, al, ap⟩ := xa
  obtain ⟨dk, dn, db, ds, dp⟩ := xd
  dsimp only at ka na kd hdb hdl
  dsimp only [valC] at H
  subst ka na kd
  (first | (refine H.wg ?_; clear H; intros; rename_i w H; constructor) | refine wk ?_)
  have bad : ¬ (a.kind = 1 ∧ d.kind = 2 ∧ 0 ≤ a.num ∧ a.num < 65536 ∧ d.bytes ≠ [] ∧ (d.bytes.length : Int) ≤ 65536 - a.num) → allM segOf v.parts = none := fun h => hno (by rw [hseg, if_neg h])
  by_cases q1 : a.kind = 1
  rotate_left
  · rw [bad fun h => q1 h.1]
    (first | (refine H.wg ?_; clear H; intros; rename_i w H; constructor) | refine wk ?_)
    exact ⟨V4, ⟨none, 0, 0⟩, hV24, H.sx, rfl⟩
  by_cases q2 : d.kind = 2
  rotate_left
  · rw [bad fun h => q2 h.2.1]
    (first | (refine H.wg ?_; clear H; intros; rename_i w H; constructor) | refine wk ?_)
    exact ⟨V4, ⟨none, 0, 0⟩, hV24, H.sx, rfl⟩
  by_cases q3 : 0 ≤ a.num
  rotate_left
  · rw [bad fun h => q3 h.2.2.1]
    (first | (refine H.wg ?_; clear H; intros; rename_i w H; constructor) | refine wk ?_)
    exact ⟨V4, ⟨none, 0, 0⟩, hV24, H.sx, rfl⟩
  by_cases q4 : a.num < 65536
  rotate_left
  · rw [bad fun h => q4 h.2.2.2.1]
    (first | (refine H.wg ?_; clear H; intros; rename_i w H; constructor) | refine wk ?_)
    exact ⟨V4, ⟨none, 0, 0⟩, hV24, H.sx, rfl⟩
  by_cases q5 : d.bytes.length = 0
  · rw [bad fun h => h.2.2.2.2.1 (List.eq_nil_of_length_eq_zero q5)]
    (first | (refine H.wg ?_; clear H; intros; rename_i w H; constructor) | refine wk ?_)
    exact ⟨V4, ⟨none, 0, 0⟩, hV24, H.sx, rfl⟩
  by_cases q6 : (d.bytes.length : Int) ≤ 65536 - a.num
  rotate_left
  · rw [bad fun h => q6 h.2.2.2.2.2]
    (first | (refine H.wg ?_; clear H; intros; rename_i w H; constructor) | refine wk ?_)
    exact ⟨V4, ⟨none, 0, 0⟩, hV24, H.sx, rfl⟩
  rw [if_pos ⟨q1, q2, q3, q4, fun e => q5 (by rw [e]; rfl), q6⟩] at hseg
  obtain ⟨m, hm⟩ : ∃ m : Nat, a.num = m := ⟨a.num.toNat, by omega⟩
  rw [hm] at H hseg q4 q6
  rw [Int.toNat_natCast] at hseg
  have hall2 := allM_step hlt hall (by rw [← hr]; exact hseg)
  (first | (refine H.wg ?_; clear H; intros; rename_i w H; constructor) | refine wk ?_)
  refine Rel.app1_2 (f := sgC) (s := r0) (l := hh) (x := (m, db)) tabOk rfl rfl rfl rfl rfl (by decide) (fun _ => rfl) (by simp [Value.oneCell']) H (by show (hh.length + 1) * 32 ≤ _; omega) (by omega) ?_
  clear H
  intro r1 w H
  (first | (refine H.wg ?_; clear H; intros; rename_i w H; constructor) | refine wk ?_)
  exact ⟨(by repeat (first | exact trivial | refine ⟨rfl, ?_⟩)), (kk + 1, r1, hh ++ [(m, db)], S ++ [(m, d.bytes)]), (by repeat (first | exact trivial | refine ⟨rfl, ?_⟩)), ⟨by dsimp only; omega, hall2, V4, hV24, (hP.up SegR.up (hV3.trans hV4)).snoc ⟨rfl, hdb⟩, H.sx⟩, by dsimp only; omega⟩
end
end Go.Proofs.Ytjfcpnlacodjjaa
