/-
  Files of hexadecimal records: segmentsOf; value.Compare.
-/
import Derived.Test.YtjfcpnlacodjjaaGreatHexP
import Derived.Test.YtjfcpnlacodjjaaGreatHexH
import Derived.Test.YtjfcpnlacodjjaaGreatValQ
import Derived.Test.YtjfcpnlacodjjaaGreatLibB
import Derived.Test.YtjfcpnlacodjjaaGreatHexL
namespace Go.Proofs.YtjfcpnlacodjjaaGreat
open Go Go.RowKit

structure SegO (W V : World) (o : Option (List Seg)) (q : Value) (w' : World) : Prop where
  ex : ∃ (V' : World) (r : Sl), Sub V V' ∧ Rel W V [] V' w' ∧ (match o with
    | none => q = .tuple #[(⟨none, 0, 0⟩ : Sl).v, .bool false]
    | some S => q = .tuple #[r.v, .bool true] ∧ SegsAt V' r S)
theorem two_parts {v : Val} (h : v.parts.length = 2) : ∃ a d, v.parts = [a, d] := by
  match hp : v.parts, h with
  | [a, d], _ => exact ⟨a, d, rfl⟩
section
variable {V W : World}
set_option maxRecDepth 100000 in
set_option maxHeartbeats 1000000 in
theorem compare_value (hV : Sub V W) {h g : VH} {v u : Val} (hv : ValAt V h v) (hu : ValAt V g u) (hB : VB 1048576 v) (hB' : VB 1048576 u) (hf : (vfault v).1 = 0) (hf' : (vfault u).1 = 0) : Ret Tryz.prog 22 [valV h, valV g].toArray W fun q w' => ∃ (V' : World) (c : Int), Sub V V' ∧ Rel W V [] V' w' ∧ q = .tuple #[iv c, faultV 0 0] ∧ (c = 0 ↔ v = u) := by
  have H := Rel.start hV
  have hv0 := hv
  have hu0 := hu
  obtain ⟨k, n, bs, ss, pl⟩ := h
  obtain ⟨k', n', bs', ss', pl'⟩ := g
  change Ret Tryz.prog 22 [.agg [iv k, iv n, bs.v, ss.v, pl.v].toArray, .agg [iv k', iv n', bs'.v, ss'.v, pl'.v].toArray].toArray W _
  refine cal_of_vc tabOk Tryz.func22 rfl (by kernel_rfl) 31 rfl (by simp) [0, 1, 2, 3, 4, 5, 6, 7, 8, 16, 25] ?_
  (first | (refine H.wh ?_; clear H; intros; rename_i w H; constructor) | refine wk ?_)
  ((first | refine Rel.nwD H ?_ | refine Rel.nw H ?_); clear H; intro w b2 H)
  (first | (refine H.wh ?_; clear H; intros; rename_i w H; constructor) | refine wk ?_)
  ((first | refine Rel.nwD H ?_ | refine Rel.nw H ?_); clear H; intro w b3 H)
  (first | (refine H.wh ?_; clear H; intros; rename_i w H; constructor) | refine wk ?_)
  ((first | refine Rel.nwD H ?_ | refine Rel.nw H ?_); clear H; intro w b5 H)
  (first | (refine H.wg ?_; clear H; intros; rename_i w H; constructor) | refine wk ?_)
  refine (encodeV_spec H.data hv0 hB).use ?_
  rintro q w ⟨V2, r2, hV2, K, rfl, hr2⟩
  (have hKb := K.base; replace H := H.call0 K)
  rw [vfault_zz hf] at hr2 ⊢
  obtain ⟨_, hr2⟩ := hr2.resolve_left fun h => h.1 rfl
  (first | (refine H.wh ?_; clear H; intros; rename_i w H; constructor) | refine wk ?_)
  ((first | refine Rel.nwD H ?_ | refine Rel.nw H ?_); clear H; intro w b7 H)
  (first | (refine H.wg ?_; clear H; intros; rename_i w H; constructor) | refine wk ?_)
  refine (encodeV_spec H.data (hu0.up hV2) hB').use ?_
  rintro q w ⟨V3, r3, hV3, K, rfl, hr3⟩
  (have hKb := K.base; replace H := H.call0 K)
  rw [vfault_zz hf'] at hr3 ⊢
  obtain ⟨_, hr3⟩ := hr3.resolve_left fun h => h.1 rfl
  (first | (refine H.wg ?_; clear H; intros; rename_i w H; constructor) | refine wk ?_)
  refine (compare_bytes H.data (hr2.up hV3) hr3).use ?_
  rintro q w ⟨rfl, K⟩
  (have hKb := K.base; replace H := H.call0 K)
  (first | (refine H.wg ?_; clear H; intros; rename_i w H; constructor) | refine wk ?_)
  exact ⟨V3, _, hV2.trans hV3, H.sx, rfl, by rw [compareBytes_zero, enc_eq_iff hB hf hB' hf']⟩
set_option maxRecDepth 100000 in
set_option maxHeartbeats 2000000 in
theorem segmentsOf_spec (hV : Sub V W) {h : VH} {v : Val} (hv : ValAt V h v) (hB : VB 1048576 v) (hf : (vfault v).1 = 0) : Ret Tryz.prog 17 [valV h].toArray W (SegO W V (hexShape v)) := by
  have H := Rel.start hV
  have hv0 := hv
  have e1 := hv.kind
  have hpl := hv.plen
  have hcnt := valid_count hf
  obtain ⟨k, n, bs, ss, pl⟩ := h
  dsimp only at e1 hpl
  subst e1
  change Ret Tryz.prog 17 [.agg [iv v.kind, iv n, bs.v, ss.v, pl.v].toArray].toArray W _
  refine cal_of_vc tabOk Tryz.func17 rfl (by kernel_rfl) 80 rfl (by simp) [0, 1, 2, 3, 4, 6, 7, 8, 11, 13, 14, 15, 16, 28, 69] ?_
  (first | (refine H.wh ?_; clear H; intros; rename_i w H; constructor) | refine wk ?_)
  ((first | refine Rel.nwD H ?_ | refine Rel.nw H ?_); clear H; intro w b1 H)
  by_cases h3 : v.kind = 3
  rotate_left
  · rw [show hexShape v = none by unfold hexShape; rw [if_neg h3]]
    (first | (refine H.wg ?_; clear H; intros; rename_i w H; constructor) | refine wk ?_)
    exact ⟨V, ⟨none, 0, 0⟩, Sub.refl _, H.sx, rfl⟩
  have hsh : hexShape v = allM segOf v.parts := by unfold hexShape; rw [if_pos h3]
  rw [hsh]
  (first | (refine H.wg ?_; clear H; intros; rename_i w H; constructor) | refine wk ?_)
  replace H := H.rowNil 83 2
  refine loop_inv (S := Nat × Sl × List (Nat × Sl) × List Seg) tabOk [0, 1, 11, 13, 14] (fun q => [(4, q.2.1.v), (15, iv q.1)]) (fun q w' => q.1 ≤ v.parts.length ∧ allM segOf (v.parts.take q.1) = some q.2.2.2 ∧ ∃ V2, Sub V V2 ∧ Pw SegR V2 q.2.2.1 q.2.2.2 ∧ Rel W V [.row q.2.1 83 2 (q.2.2.1.flatMap sgC), .blk b1 [iv v.kind, iv n, bs.v, ss.v, pl.v] 26] V2 w') (fun q _ => v.parts.length - q.1) (0, ⟨none, 0, 0⟩, [], []) ?_
  (conv => whnf)
  refine ⟨(by repeat (first | exact trivial | refine ⟨rfl, ?_⟩)), ⟨by omega, rfl, V, Sub.refl _, Pw.nil, H⟩, ?_⟩
  clear H
  rintro ⟨kk, r0, hh, S⟩ w ⟨hkk, hall, V2, hV2, hP, H⟩
  dsimp only at hkk hall hP H ⊢
  by_cases hlt : kk < v.parts.length
  rotate_left
  · obtain rfl : kk = v.parts.length := by omega
    rw [List.take_length] at hall
    rw [hall]
    obtain ⟨V3, hV3, H, hr⟩ := Rel.freezeF H (fun _ => rfl) (by decide)
    (first | (refine H.wg ?_; clear H; intros; rename_i w H; constructor) | refine wk ?_)
    exact ⟨V3, r0, hV2.trans hV3, H.sx, rfl, hh, hr, hP.up SegR.up hV3⟩
  have hPl := hP.len
  have hSl := (allM_some hall).1
  rw [List.length_take] at hSl
  obtain ⟨hp0, x, hx, a0, a1, a2, a3, a4⟩ := (hv0.up hV2).part5 (i := kk) hlt
  obtain ⟨r, hr⟩ : ∃ r, r = v.parts[kk] := ⟨_, rfl⟩
  rw [← hr] at hx
  have hmem : r ∈ v.parts := by rw [hr]; exact List.getElem_mem hlt
  have hno : segOf r = none → allM segOf v.parts = none := fun h => allM_none hmem h
  have hrB := hB.part r hmem
  have hnb := hrB.names
  have k1 := hx.kind
  have hrn := hx.names
  have hrl := hx.plen
  have hx0 := hx
  obtain ⟨xk, xn, xb, xs, xp⟩ := x
  dsimp only at k1 hrn hrl a0 a1 a2 a3 a4
  subst k1
  (first | (refine H.wh ?_; clear H; intros; rename_i w H; constructor) | refine wk ?_)
  ((first | refine Rel.nwD H ?_ | refine Rel.nw H ?_); clear H; intro w b6 H)
  (first | (refine H.wg ?_; clear H; intros; rename_i w H; constructor) | refine wk ?_)
  by_cases h4 : r.kind = 4
  rotate_left
  · rw [hno (segOf_no fun h => h4 h.1)]
    ((first | refine draw_vc (id := 7) tabOk mixed [6] [0, 1, 2, 3, 4, 5, 6, 7, 8, 9] (by kernel_rfl) ?_); intro w hdw; replace H := Rel.ext H hdw.ext)
    (first | (refine H.wg ?_; clear H; intros; rename_i w H; constructor) | refine wk ?_)
    exact ⟨V2, ⟨none, 0, 0⟩, hV2, H.sx, rfl⟩
  ((first | refine draw_vc (id := 7) tabOk mixed [6] [0, 1, 2, 3, 4, 5, 6, 7, 8, 9] (by kernel_rfl) ?_); intro w hdw; replace H := Rel.ext H hdw.ext)
  (first | (refine H.wg ?_; clear H; intros; rename_i w H; constructor) | refine wk ?_)
  refine (names_hex H.data).use ?_
  rintro q w ⟨V3, sn, hV3, K, rfl, hsn⟩
  (have hKb := K.base; replace H := Rel.call H K)
  simp only [List.nil_append] at H
  (first | (refine H.wg ?_; clear H; intros; rename_i w H; constructor) | refine wk ?_)
  have hV23 := hV2.trans hV3
  refine (equal_strs H.data (hrn.up hV3) hsn (by omega)).use ?_
  rintro q w ⟨rfl, K⟩
  (have hKb := K.base; replace H := Rel.call H K)
  simp only [List.nil_append] at H
  by_cases hnn : r.names = [sAt, sData]
  rotate_left
  · rw [decide_eq_false hnn, hno (segOf_no fun h => hnn h.2)]
    (first | (refine H.wg ?_; clear H; intros; rename_i w H; constructor) | refine wk ?_)
    exact ⟨V3, ⟨none, 0, 0⟩, hV23, H.sx, rfl⟩
  rw [decide_eq_true hnn]
  have h2 : r.parts.length = 2 := by rw [← valid_part hf hmem h4, hnn]; rfl
  obtain ⟨a, d, hps⟩ := two_parts h2
  have hseg := segOf_two ⟨h4, hnn⟩ hps
  have H0 : Rel W V [.blk b6 [iv r.kind, iv xn, xb.v, xs.v, xp.v] 26, .row r0 83 2 (hh.flatMap sgC), .blk b1 [iv v.kind, iv n, bs.v, ss.v, pl.v] 26] V3 w := H.sx
  clear H
  obtain ⟨V4, hV4, H, hb6⟩ := H0.freezeBlk
  clear H0
  have o4 := hb6.cel (i := 4) rfl
  have hV24 := hV23.trans hV4
  obtain ⟨_, xa, hxa, c0, c1, c2, c3, c4⟩ := (hx0.up (hV3.trans hV4)).part5 (i := 0) (by omega)
  obtain ⟨_, xd, hxd, d0, d1, d2, d3, d4⟩ := (hx0.up (hV3.trans hV4)).part5 (i := 1) (by omega)
  have g0 : r.parts[0] = a := by simp [hps]
  have g1 : r.parts[1] = d := by simp [hps]
  rw [g0] at hxa
  rw [g1] at hxd
  (first | (refine H.wg ?_; clear H; intros; rename_i w H; constructor) | refine wk ?_)
  refine SemC.cutN (fun q : Nat × Nat => [(0, .agg [iv v.kind, iv n, bs.v, ss.v, pl.v].toArray), (1, .pointer (some ⟨b1, 0, none⟩)), (4, r0.v), (7, .pointer (some ⟨q.1, 0, none⟩)), (8, .pointer (some ⟨q.2, 0, none⟩)), (11, .bool (decide (v.kind ≠ 3))), (13, pl.v), (14, iv (pl.len : Int)), (15, iv (kk : Int))])
    (fun q w' => Rel W V [.blk q.1 (valC xa) 26, .blk q.2 (valC xd) 26, .row r0 83 2 (hh.flatMap sgC), .blk b1 [iv v.kind, iv n, bs.v, ss.v, pl.v] 26] V4 w') ?_ ?_
  · ((first | refine draw_vcTX (id := 7) tabOk mixed (Kv V4) Kv.trans [6] [5] [0, 1, 2, 3, 4, 5, 6, 7, 8, 9] [(6, []), (7, [6])] (by kernel_rfl) ?_ | refine draw_vcTX (id := 9) tabOk mixed (Kv V4) Kv.trans [8, 9, 10] [1, 3, 5, 7] [0, 1, 2, 3, 4, 5, 6, 7, 8, 9, 10, 11] [(8, []), (9, []), (10, [8, 9]), (11, [8, 9, 10])] (by kernel_rfl) ?_); intro w hdw; replace H := Rel.ext H hdw.ext)
    repeat' ((first | (refine H.wh ?_; clear H; intros; rename_i w H; constructor) | refine wk ?_); (first | refine Kv.go H ?_ | refine Kv.go2 H (by assumption) ?_ | (refine And.intro (fun w1 hkp => ?_) ?_; focus ((first | have H := Kv.in H hkp | have H := Kv.in2 H (by assumption) hkp); ((repeat ((conv => whnf); first | refine an ?_ | refine H.ce ?_ | refine H.db ?_ | refine ea ?_ | refine ol ?_ | fail | refine cT ?_ | refine cF ?_ | refine cN ?_ | refine cM ?_ | refine H.da (hc1 _ _ (by rfl)) ?_ | refine H.datw hc1 (by rfl) ?_ | refine H.datl hc1 (by rfl) ?_ | refine H.da (hc2 _ _ (by rfl)) ?_ | refine H.datw hc2 (by rfl) ?_ | refine H.datl hc2 (by rfl) ?_ | refine H.lw ?_ | refine H.ll ?_)); (conv => whnf)); all_goals (first | exact ⟨rfl, rfl⟩ | exact rfl))) | refine And.intro ?_ ?_ | ((first | refine Rel.nwD H ?_ | refine Rel.nw H ?_); clear H; intro w _ H)))
    all_goals
      (first | (refine H.wg ?_; clear H; intros; rename_i w H; constructor) | refine wk ?_)
      exact ⟨(_, _), (by repeat (first | exact trivial | refine ⟨rfl, ?_⟩)), H.pick⟩
  clear H
  rintro ⟨b7, b8⟩ w H
  dsimp only at H
  have ka := hxa.kind
  have na := hxa.num
  have kd := hxd.kind
  have hdb := hxd.bytes
  have hdl := hdb.len
  have hdB := (hrB.part d (by rw [hps]; simp)).bytes
  obtain ⟨ak, an, ab, al, ap⟩ := xa
  obtain ⟨dk, dn, db, ds, dp⟩ := xd
  dsimp only at ka na kd hdb hdl
  dsimp only [valC] at H
  subst ka na kd
  (first | (refine H.wg ?_; clear H; intros; rename_i w H; constructor) | refine wk ?_)
  have bad : ¬ (a.kind = 1 ∧ d.kind = 2 ∧ 0 ≤ a.num ∧ a.num < 65536 ∧ d.bytes ≠ [] ∧ (d.bytes.length : Int) ≤ 65536 - a.num) → allM segOf v.parts = none := fun h => hno (by rw [hseg, if_neg h])
  by_cases q1 : a.kind = 1
  rotate_left
  · rw [bad fun h => q1 h.1]
    (first | (refine H.wg ?_; clear H; intros; rename_i w H; constructor) | refine wk ?_)
    exact ⟨V4, ⟨none, 0, 0⟩, hV24, H.sx, rfl⟩
  by_cases q2 : d.kind = 2
  rotate_left
  · rw [bad fun h => q2 h.2.1]
    (first | (refine H.wg ?_; clear H; intros; rename_i w H; constructor) | refine wk ?_)
    exact ⟨V4, ⟨none, 0, 0⟩, hV24, H.sx, rfl⟩
  by_cases q3 : 0 ≤ a.num
  rotate_left
  · rw [bad fun h => q3 h.2.2.1]
    (first | (refine H.wg ?_; clear H; intros; rename_i w H; constructor) | refine wk ?_)
    exact ⟨V4, ⟨none, 0, 0⟩, hV24, H.sx, rfl⟩
  by_cases q4 : a.num < 65536
  rotate_left
  · rw [bad fun h => q4 h.2.2.2.1]
    (first | (refine H.wg ?_; clear H; intros; rename_i w H; constructor) | refine wk ?_)
    exact ⟨V4, ⟨none, 0, 0⟩, hV24, H.sx, rfl⟩
  by_cases q5 : d.bytes.length = 0
  · rw [bad fun h => h.2.2.2.2.1 (List.eq_nil_of_length_eq_zero q5)]
    (first | (refine H.wg ?_; clear H; intros; rename_i w H; constructor) | refine wk ?_)
    exact ⟨V4, ⟨none, 0, 0⟩, hV24, H.sx, rfl⟩
  by_cases q6 : (d.bytes.length : Int) ≤ 65536 - a.num
  rotate_left
  · rw [bad fun h => q6 h.2.2.2.2.2]
    (first | (refine H.wg ?_; clear H; intros; rename_i w H; constructor) | refine wk ?_)
    exact ⟨V4, ⟨none, 0, 0⟩, hV24, H.sx, rfl⟩
  rw [if_pos ⟨q1, q2, q3, q4, fun e => q5 (by rw [e]; rfl), q6⟩] at hseg
  obtain ⟨m, hm⟩ : ∃ m : Nat, a.num = m := ⟨a.num.toNat, by omega⟩
  rw [hm] at H hseg q4 q6
  rw [Int.toNat_natCast] at hseg
  have hall2 := allM_step hlt hall (by rw [← hr]; exact hseg)
  (first | (refine H.wg ?_; clear H; intros; rename_i w H; constructor) | refine wk ?_)
  refine Rel.app1_2 (f := sgC) (s := r0) (l := hh) (x := (m, db)) tabOk rfl rfl rfl rfl rfl (by decide) (fun _ => rfl) (by simp [Value.oneCell']) H (by show (hh.length + 1) * 32 ≤ _; omega) (by omega) ?_
  clear H
  intro r1 w H
  (first | (refine H.wg ?_; clear H; intros; rename_i w H; constructor) | refine wk ?_)
  exact ⟨(by repeat (first | exact trivial | refine ⟨rfl, ?_⟩)), (kk + 1, r1, hh ++ [(m, db)], S ++ [(m, d.bytes)]), (by repeat (first | exact trivial | refine ⟨rfl, ?_⟩)), ⟨by dsimp only; omega, hall2, V4, hV24, (hP.up SegR.up (hV3.trans hV4)).snoc ⟨rfl, hdb⟩, H.sx⟩, by dsimp only; omega⟩
end
end Go.Proofs.YtjfcpnlacodjjaaGreat
namespace Go.Proofs.YtjfcpnlacodjjaaGreat
open Go Go.RowKit

theorem sl_tl {α : Type} {f : α → List Value} {n : Nat} {V : World} {s : Sl} {l : List α} (h : SlF f V s l) (hf : ∀ x, (f x).length = n) {k : Nat} (hk : k ≤ l.length) : SlF f V ⟨subA s.a k s.cap n, s.len - k, s.cap - k⟩ (l.drop k) := by
  have := h.sub hf (a := k) (b := l.length) hk (Nat.le_refl _)
  rw [List.take_length] at this
  rw [h.len]
  exact this
theorem sl_hd {α : Type} {f : α → List Value} {n : Nat} {V : World} {s : Sl} {l : List α} (h : SlF f V s l) (hf : ∀ x, (f x).length = n) {k : Nat} (hk : k ≤ l.length) : SlF f V ⟨subA s.a 0 s.cap n, k - 0, s.cap - 0⟩ (l.take k) := by
  have := h.sub hf (a := 0) (b := k) (Nat.zero_le _) hk
  rwa [List.drop_zero] at this
theorem hd_cells {n a : Nat} (k : UInt8) (hn : n ≤ 255) (ha : a < 65536) : [Value.int .u8 (wr .u8 (n : Int)), Value.int .u8 (wr .u8 ((a : Int) / 2 ^ min (Int.toNat 8) IntKind.i64.bits)), Value.int .u8 (wr .u8 (a : Int)), bv k] = [UInt8.ofNat n, UInt8.ofNat (a / 256), UInt8.ofNat a, k].flatMap byC := by
  have e0 : (2 : Int) ^ min (Int.toNat 8) IntKind.i64.bits = 256 := by decide
  have e1 : wr .u8 ((a : Int) / 256) = ((a / 256 : Nat) : Int) := by show ((a : Int) / 256) % 256 = _; omega
  have e2 : wr .u8 (a : Int) = ((a % 256 : Nat) : Int) := by show (a : Int) % 256 = _; omega
  have e3 : wr .u8 (n : Int) = (n : Int) := by show (n : Int) % 256 = _; omega
  simp only [e0, e1, e2, e3, List.flatMap_cons, List.flatMap_nil, byC, bv, List.cons_append, List.nil_append]
  rw [toNat_ofNat_lt (by omega), toNat_ofNat_lt (by omega), UInt8.toNat_ofNat']
theorem neg_cell {n : Nat} : [Value.int .u8 (wr .u8 (0 - ((n % 256 : Nat) : Int)))] = byC (UInt8.ofNat (256 - n % 256)) := by
  simp only [byC, bv]
  rw [UInt8.toNat_ofNat']
  congr 2
  show (0 - ((n % 256 : Nat) : Int)) % 256 = _
  omega
theorem and15u : ∀ c : Nat, c < 256 → bitsI .and .u8 (c : Int) 15 = ((c % 16 : Nat) : Int) := by decide +kernel
section
variable {V W : World}
set_option maxRecDepth 100000 in
set_option maxHeartbeats 1000000 in
theorem record_spec (hV : Sub V W) {fl : Nat} (hf : fl < 4) {a : Nat} (ha : a < 65536) (k : UInt8) {s : Sl} {c : List UInt8} (hs : Byt V s c) (hc : c.length ≤ 255) : Ret Tryz.prog 46 [iv (fl : Int), iv (a : Int), bv k, s.v].toArray W fun v w' => v = str (lineB fl (mkRec a k.toNat c)) ∧ Rel W V [] V w' := by
  have H := Rel.start hV
  have hlen := hs.len
  refine cal_of_vc tabOk Tryz.func46 rfl (by kernel_rfl) 58 rfl (by simp) [0, 1, 2, 3, 8, 9, 10, 12, 33, 34, 35, 36] ?_
  (first | (refine H.wh ?_; clear H; intros; rename_i w H; constructor) | refine wk ?_)
  ((first | refine Rel.nwD H ?_ | refine Rel.nw H ?_); clear H; intro w bh H)
  (first | (refine H.wh ?_; clear H; intros; rename_i w H; constructor) | refine wk ?_)
  ((first | refine Rel.nwD H ?_ | refine Rel.nw H ?_); clear H; intro w bl H)
  obtain ⟨V2, hV2, H, hbl⟩ := H.freezeBlk
  replace H := H.blkEq (c' := [UInt8.ofNat c.length, UInt8.ofNat (a / 256), UInt8.ofNat a, k].flatMap byC) (by rw [hlen]; exact hd_cells k hc ha)
  obtain ⟨V3, hV3, H, hbh⟩ := H.freezeBlk
  have hll : SlF slC V3 ⟨some ⟨bl, 0, none⟩, 2, 2⟩ [⟨some ⟨bh, 0, none⟩, 4, 4⟩, s] := ⟨rfl, Nat.le_refl _, hbl.cells.sub' hV3⟩
  have hpw : Pw BytR V3 [⟨some ⟨bh, 0, none⟩, 4, 4⟩, s] [[UInt8.ofNat c.length, UInt8.ofNat (a / 256), UInt8.ofNat a, k], c] := ⟨rfl, fun i x y hx hy => by
    match i, hx, hy with
    | 0, hx, hy => cases hx; cases hy; exact ⟨rfl, Nat.le_refl _, hbh.cells⟩
    | 1, hx, hy => cases hx; cases hy; exact (hs.up hV2).up hV3
    | i + 2, hx, hy => simp at hx⟩
  (first | (refine H.wg ?_; clear H; intros; rename_i w H; constructor) | refine wk ?_)
  refine (concat_bytes H.data hll hpw (by show 2 ≤ _; decide) (by simp only [List.flatten_cons, List.flatten_nil, List.length_append, List.length_cons, List.length_nil]; omega)).use ?_
  rintro v w ⟨r, rfl, K⟩
  (have hKb := K.base; replace H := Rel.call H K)
  simp only [List.append_nil] at H
  obtain ⟨X, hX⟩ : ∃ X, X = recHd a k.toNat c := ⟨_, rfl⟩
  have eh : [[UInt8.ofNat c.length, UInt8.ofNat (a / 256), UInt8.ofNat a, k], c].flatten = X := by
    rw [hX]
    simp [recHd]
  have hXl : X.length = c.length + 4 := by rw [← eh]; simp
  have hM : mkRec a k.toNat c = X ++ [sumC X] := by rw [hX]; rfl
  rw [hM]
  rw [eh] at H
  (first | (refine H.wg ?_; clear H; intros; rename_i w H; constructor) | refine wk ?_)
  refine (sum_spec (Sub.refl w) (H.slfAt (i := 0) rfl (fun _ => rfl) (by decide)) (by omega)).use ?_
  rintro v w2 ⟨rfl, K⟩
  replace H := H.ext K.base
  clear K
  generalize w2 = w at H ⊢
  (first | (refine H.wg ?_; clear H; intros; rename_i w H; constructor) | refine wk ?_)
  replace H := H.blkEq (c' := byC (sumC X)) neg_cell
  refine Rel.app1_0 (f := byC) (s := r) (l := X) (x := sumC X) tabOk rfl rfl rfl rfl rfl (by decide) (fun _ => rfl) (by simp [Value.oneCell']) H (by show (X.length + 1) * 1 ≤ _; omega) (by omega) ?_
  clear H
  intro r2 w H
  obtain ⟨M, hM⟩ : ∃ M, M = X ++ [sumC X] := ⟨_, rfl⟩
  have hMl : M.length = c.length + 5 := by rw [hM]; simp; omega
  rw [← hM] at H ⊢
  obtain ⟨V4, hV4, H, hr2⟩ := Rel.freezeF H (fun _ => rfl) (by decide)
  have hr2l := hr2.len
  (first | (refine H.wh ?_; clear H; intros; rename_i w H; constructor) | refine wk ?_)
  ((first | refine Rel.nwD H ?_ | refine Rel.nw H ?_); clear H; intro w b10 H)
  replace H := H.blkEq (c' := ([58] : List UInt8).flatMap byC) rfl
  replace H := H.toRow (n := 1) (e := 5) (sz := 1) rfl (by simp [maxLen])
  (first | (refine H.wg ?_; clear H; intros; rename_i w H; constructor) | refine wk ?_)
  refine loop_inv (S := Nat × Sl) tabOk [0, 1, 2, 3, 8, 9, 33, 34] (fun q => [(10, q.2.v), (35, iv q.1)]) (fun q w' => q.1 ≤ M.length ∧ Rel W V [.row q.2 5 1 ((58 :: hexB (lowF fl) (M.take q.1)).flatMap byC)] V4 w') (fun q _ => M.length - q.1) (0, ⟨some ⟨b10, 0, none⟩, 1, 1⟩) ?_
  (conv => whnf)
  refine ⟨(by repeat (first | exact trivial | refine ⟨rfl, ?_⟩)), ⟨by omega, H⟩, ?_⟩
  clear H
  rintro ⟨i, ro⟩ w ⟨hi, H⟩
  dsimp only at hi H ⊢
  have hbl2 := hexB_len (lowF fl) (M.take i)
  rw [List.length_take] at hbl2
  by_cases hlt : i < M.length
  · obtain ⟨p0, c0⟩ := hr2.at1 (g := bv) (fun _ => rfl) hlt
    have ht := List.take_succ_eq_append_getElem hlt
    obtain ⟨y, hy⟩ : ∃ y, y = M[i] := ⟨_, rfl⟩
    rw [← hy] at c0 ht
    have hyl := y.toNat_lt
    have e16 : (2 : Int) ^ min (Int.toNat 4) IntKind.u8.bits = 16 := by decide
    have g0 : (digL (lowF fl))[((y.toNat : Int) / 2 ^ min (Int.toNat 4) IntKind.u8.bits).toNat]? = some (hdC (lowF fl) (y.toNat / 16)) := by
      rw [show ((y.toNat : Int) / 2 ^ min (Int.toNat 4) IntKind.u8.bits).toNat = y.toNat / 16 from rfl]
      exact digL_get (by omega)
    have g1 : (digL (lowF fl))[(((y.toNat % 16 : Nat) : Int)).toNat]? = some (hdC (lowF fl) (y.toNat % 16)) := by
      rw [Int.toNat_natCast]
      exact digL_get (by omega)
    have ga := and15u y.toNat hyl
    (first | (refine H.wg ?_; clear H; intros; rename_i w H; constructor) | refine wk ?_)
    ((first | refine draw_vc (id := 7) tabOk mixed [] [0, 1, 3, 4, 6, 8, 9, 2, 5, 7, 10, 11, 12, 13] (by kernel_rfl) ?_ | refine draw_vc (id := 9) tabOk mixed [3] [0, 1, 2, 3, 4, 5] (by kernel_rfl) ?_); intro w hdw; replace H := Rel.ext H hdw.ext)
    (first | (refine H.wg ?_; clear H; intros; rename_i w H; constructor) | refine wk ?_)
    refine (digits_spec H.data hf).use ?_
    rintro v w ⟨rfl, K⟩
    (have hKb := K.base; replace H := H.call0 K)
    (first | (refine H.wg ?_; clear H; intros; rename_i w H; constructor) | refine wk ?_)
    refine ⟨by rw [e16]; omega, _, g0, ?_⟩
    (first | (refine H.wg ?_; clear H; intros; rename_i w H; constructor) | refine wk ?_)
    refine (digits_spec H.data hf).use ?_
    rintro v w ⟨rfl, K⟩
    (have hKb := K.base; replace H := H.call0 K)
    (first | (refine H.wg ?_; clear H; intros; rename_i w H; constructor) | refine wk ?_)
    rw [ga]
    (first | (refine H.wg ?_; clear H; intros; rename_i w H; constructor) | refine wk ?_)
    replace H := H.blkEq (c' := [hdC (lowF fl) (y.toNat / 16), hdC (lowF fl) (y.toNat % 16)].flatMap byC) rfl
    replace H := H.toRow (n := 2) (e := 5) (sz := 1) rfl (by simp [maxLen])
    refine Rel.appB H (i := 0) rfl (by simp only [List.length_cons, List.length_nil]; omega) ?_
    clear H
    intro r1 w H
    simp only [List.set_cons_zero] at H
    (first | (refine H.wg ?_; clear H; intros; rename_i w H; constructor) | refine wk ?_)
    refine ⟨(by repeat (first | exact trivial | refine ⟨rfl, ?_⟩)), (i + 1, r1), (by repeat (first | exact trivial | refine ⟨rfl, ?_⟩)), ⟨by dsimp only; omega, ?_⟩, by dsimp only; omega⟩
    dsimp only
    rw [ht, hexB_snoc]
    exact H
  · rw [List.take_of_length_le (by omega)] at H hbl2
    obtain ⟨V5, hV5, H, hro⟩ := Rel.freezeF H (fun _ => rfl) (by decide)
    (first | (refine H.wg ?_; clear H; intros; rename_i w H; constructor) | refine wk ?_)
    ((first | refine draw_vc (id := 7) tabOk mixed [] [0, 1, 3, 4, 6, 8, 9, 2, 5, 7, 10, 11, 12, 13] (by kernel_rfl) ?_ | refine draw_vc (id := 9) tabOk mixed [3] [0, 1, 2, 3, 4, 5] (by kernel_rfl) ?_); intro w hdw; replace H := Rel.ext H hdw.ext)
    (first | (refine H.wg ?_; clear H; intros; rename_i w H; constructor) | refine wk ?_)
    refine ⟨58 :: hexB (lowF fl) M, hro.len, byC_map _ ▸ (hro.up H.data).cells, ?_⟩
    (first | (refine H.wg ?_; clear H; intros; rename_i w H; constructor) | refine wk ?_)
    refine (end_spec H.data hf).use ?_
    rintro v w ⟨rfl, K⟩
    (have hKb := K.base; replace H := H.call0 K)
    (first | (refine H.wg ?_; clear H; intros; rename_i w H; constructor) | refine wk ?_)
    refine ⟨by have := (endB_cons fl); unfold endB; split <;> simp only [List.length_cons, List.length_nil] <;> omega, ?_⟩
    (first | (refine H.wg ?_; clear H; intros; rename_i w H; constructor) | refine wk ?_)
    exact Rel.back H.sx
structure WrH (W V : World) (o : Option (List UInt8)) (q : Value) (w' : World) : Prop where
  ex : ∃ (V' : World) (r : Sl), Sub V V' ∧ Rel W V [] V' w' ∧ q = .tuple #[r.v, .bool o.isSome] ∧ ∀ l, o = some l → Byt V' r l ∧ l.length ≤ 1099511627776
set_option maxRecDepth 100000 in
set_option maxHeartbeats 2000000 in
theorem write_spec (hV : Sub V W) {fl : Nat} (hf : fl < 4) {sg sz : Sl} {S : List Seg} {Z : List Nat} (hs : SegsAt V sg S) (hok : segOk S) (hSl : S.length ≤ 600) (hz : SlF itC V sz (ints Z)) (hZl : Z.length ≤ 1000) (hZ : ∀ n ∈ Z, 1 ≤ n ∧ n ≤ 255) :
    Ret Tryz.prog 20 [sg.v, iv (fl : Int), sz.v].toArray W (WrH W V (hexOut fl S Z)) := by
  have H := Rel.start hV
  have hsl := hs.len
  have hzl := hz.len
  rw [List.length_map] at hzl
  have hd : ∀ x ∈ S, x.2.length ≤ 65536 := fun x hx => by have := hok x hx; omega
  obtain ⟨Z2, hZ2⟩ : ∃ Z2, Z2 = if Z = [] then usual S else Z := ⟨_, rfl⟩
  have hb : Z2.length ≤ 40000000 ∧ ∀ n ∈ Z2, 1 ≤ n ∧ n ≤ 255 := by
    rw [hZ2]
    split
    · have := usual_le hd
      refine ⟨by omega, fun n hn => ?_⟩
      obtain ⟨x, _, hx⟩ := List.mem_flatMap.1 hn
      have := (usualN_sum _ x.2.length (Nat.le_refl _)).2 n hx
      omega
    · exact ⟨by omega, hZ⟩
  obtain ⟨hZ2l, hZ2b⟩ := hb
  refine cal_of_sem tabOk Tryz.func20 rfl (by kernel_rfl) 71 rfl (by simp) [0, 1, 2, 6, 7, 8, 10, 11, 12, 13, 16, 19, 20, 21, 22, 31, 42] ?_
  refine SemC.seqGo tabOk ?_
  (first | (refine H.wg ?_; clear H; intros; rename_i w H; constructor) | refine wk ?_)
  refine SemC.seqCut tabOk (fun q : Sl => [(0, sg.v), (1, iv (fl : Int)), (2, q.v)]) (fun q w' => ∃ V2, Sub V V2 ∧ Rel W V [] V2 w' ∧ SlF itC V2 q (ints Z2)) ?_ ?_
  · by_cases hz0 : Z.length = 0
    · rw [if_pos (List.eq_nil_of_length_eq_zero hz0)] at hZ2
      (first | (refine H.wg ?_; clear H; intros; rename_i w H; constructor) | refine wk ?_)
      refine (plainSizes_spec H.data hs (by omega) hd).use ?_
      rintro q w ⟨V2, r, hV2, K, rfl, hr⟩
      (have hKb := K.base; replace H := H.call0 K)
      rw [← hZ2] at hr
      (first | (refine H.wg ?_; clear H; intros; rename_i w H; constructor) | refine wk ?_)
      exact ⟨r, (by repeat (first | exact trivial | refine ⟨rfl, ?_⟩)), V2, hV2, H.sx, hr⟩
    · rw [if_neg (fun h => hz0 (by rw [h]; rfl))] at hZ2
      (first | (refine H.wg ?_; clear H; intros; rename_i w H; constructor) | refine wk ?_)
      exact ⟨sz, (by repeat (first | exact trivial | refine ⟨rfl, ?_⟩)), V, Sub.refl _, H.sx, by rw [hZ2]; exact hz⟩
  clear H
  rintro q0 w ⟨V2, hV2, H, hq0⟩
  refine SemC.go tabOk ?_
  obtain ⟨gs, hgs, hpw⟩ := hs
  have hgl := hpw.len
  (first | (refine H.wg ?_; clear H; intros; rename_i w H; constructor) | refine wk ?_)
  refine loop_inv (S := Nat × Sl × List (List UInt8) × List Nat) tabOk [0, 1, 16, 19, 20] (fun q => [(2, q.2.1.v), (8, str (q.2.2.1.flatMap (lineB fl))), (21, iv q.1)]) (fun q w' => q.1 ≤ S.length ∧ wrAll S Z2 = preR q.2.2.1 (wrAll (S.drop q.1) q.2.2.2) ∧ SlF itC V2 q.2.1 (ints q.2.2.2) ∧ q.2.2.1.length + q.2.2.2.length = Z2.length ∧ (∀ r ∈ q.2.2.1, r.length ≤ 260) ∧ (∀ n ∈ q.2.2.2, 1 ≤ n ∧ n ≤ 255) ∧ Rel W V [] V2 w') (fun q _ => S.length - q.1) (0, q0, [], Z2) ?_
  (conv => whnf)
  refine ⟨(by repeat (first | exact trivial | refine ⟨rfl, ?_⟩)), ⟨by omega, by rw [preR_nil]; rfl, hq0, by simp, by simp, hZ2b, H⟩, ?_⟩
  clear H
  rintro ⟨kk, q, rs, Zr⟩ w ⟨hkk, hwr, hq, hln, hr2, hzb, H⟩
  dsimp only at hkk hwr hq hln hr2 hzb H ⊢
  have hql := hq.len
  rw [List.length_map] at hql
  have hll := lines_le fl hr2
  by_cases hlt : kk < S.length
  rotate_left
  · obtain rfl : kk = S.length := by omega
    rw [List.drop_length, wrAll_end] at hwr
    (first | (refine H.wg ?_; clear H; intros; rename_i w H; constructor) | refine wk ?_)
    refine (record_spec H.data hf (a := 0) (by decide) 1 (s := ⟨none, 0, 0⟩) (c := []) (SlF.nil _ _) (by decide)).use ?_
    rintro v w ⟨rfl, K⟩
    (have hKb := K.base; replace H := H.call0 K)
    have hle := (lineB_len fl (mkRec 0 1 [])).2
    rw [mkRec_len, List.length_nil] at hle
    (first | (refine H.wg ?_; clear H; intros; rename_i w H; constructor) | refine wk ?_)
    refine ⟨by rw [show (1 : UInt8).toNat = 1 from rfl]; omega, ?_⟩
    rw [show (1 : UInt8).toNat = 1 from rfl]
    (first | (refine H.wg ?_; clear H; intros; rename_i w H; constructor) | refine wk ?_)
    refine Rel.convSB Tryz.underlying9 Tryz.underlying22 Tryz.underlying5 H _ ?_
    clear H
    intro V3 so w _ hV3 hso H
    (first | (refine H.wg ?_; clear H; intros; rename_i w H; constructor) | refine wk ?_)
    refine ⟨V3, so, hV2.trans hV3, H.sx, ?_, fun l hl => ?_⟩
    · rw [hexOut_eq, ← hZ2, hwr]
      by_cases he : Zr = []
      · rw [if_pos he]
        have h0 : Zr.length = 0 := by rw [he]; rfl
        exact congrArg (fun z => Value.tuple #[so.v, .bool z]) (decide_eq_true (by omega) : _ = true)
      · rw [if_neg he]
        have h0 : Zr.length ≠ 0 := fun h => he (List.eq_nil_of_length_eq_zero h)
        exact congrArg (fun z => Value.tuple #[so.v, .bool z]) (decide_eq_false (by omega) : _ = false)
    · rw [hexOut_eq, ← hZ2, hwr] at hl
      by_cases he : Zr = []
      · rw [if_pos he] at hl
        cases hl
        rw [List.append_nil]
        exact ⟨hso, by rw [List.length_append]; omega⟩
      · rw [if_neg he] at hl
        cases hl
  obtain ⟨p0, c0, c1⟩ := (hgs.up hV2).at2 (g := fun h : Nat × Sl => iv (h.1 : Int)) (g' := fun h : Nat × Sl => h.2.v) (fun _ => rfl) (i := kk) (by omega)
  have hR := hpw.all kk _ _ (List.getElem?_eq_getElem (by omega)) (List.getElem?_eq_getElem hlt)
  obtain ⟨x, hx⟩ : ∃ x, x = gs[kk]'(by omega) := ⟨_, rfl⟩
  obtain ⟨y, hy⟩ : ∃ y, y = S[kk] := ⟨_, rfl⟩
  rw [← hx, ← hy] at hR
  rw [← hx] at c0 c1
  have hyk := hok y (by rw [hy]; exact List.getElem_mem hlt)
  rw [List.drop_eq_getElem_cons hlt, ← hy] at hwr
  obtain ⟨T, hT⟩ : ∃ T, T = S.drop (kk + 1) := ⟨_, rfl⟩
  rw [← hT] at hwr
  obtain ⟨xa, xs⟩ := x
  obtain ⟨ya, yd⟩ := y
  obtain ⟨hxy, hby⟩ := hR
  dsimp only at hby hxy c0 c1 hyk
  subst hxy
  replace hby := hby.up hV2
  (first | (refine H.wh ?_; clear H; intros; rename_i w H; constructor) | refine wk ?_)
  ((first | refine Rel.nwD H ?_ | refine Rel.nw H ?_); clear H; intro w b10 H)
  (first | (refine H.wg ?_; clear H; intros; rename_i w H; constructor) | refine wk ?_)
  ((first | refine draw_vc (id := 7) tabOk mixed [] [0, 1, 2, 3, 4, 5] (by kernel_rfl) ?_ | refine draw_vc (id := 13) tabOk mixed [] [0, 1, 2, 3, 4, 5, 6, 7, 8, 9, 10] (by kernel_rfl) ?_); intro w hdw; replace H := Rel.ext H hdw.ext)
  (first | (refine H.wg ?_; clear H; intros; rename_i w H; constructor) | refine wk ?_)
  refine loop_inv (S := Nat × Sl × List UInt8 × Sl × List (List UInt8) × List Nat) tabOk [0, 1, 10, 16, 19, 20, 21, 22] (fun q => [(2, q.2.2.2.1.v), (8, str (q.2.2.2.2.1.flatMap (lineB fl))), (11, iv (q.1 : Int)), (12, q.2.1.v)]) (fun q w' => wrAll S Z2 = preR q.2.2.2.2.1 (wrAll ((q.1, q.2.2.1) :: T) q.2.2.2.2.2) ∧ Byt V2 q.2.1 q.2.2.1 ∧ q.1 + q.2.2.1.length ≤ 65536 ∧ SlF itC V2 q.2.2.2.1 (ints q.2.2.2.2.2) ∧ q.2.2.2.2.1.length + q.2.2.2.2.2.length = Z2.length ∧ (∀ r ∈ q.2.2.2.2.1, r.length ≤ 260) ∧ (∀ n ∈ q.2.2.2.2.2, 1 ≤ n ∧ n ≤ 255) ∧ Rel W V [.blk b10 [iv (xa : Int), xs.v] 83] V2 w') (fun q _ => q.2.2.1.length) (xa, xs, yd, q, rs, Zr) ?_
  (conv => whnf)
  refine ⟨(by repeat (first | exact trivial | refine ⟨rfl, ?_⟩)), ⟨hwr, hby, by dsimp only; omega, hq, hln, hr2, hzb, H⟩, ?_⟩
  clear H hwr hby hq hln hr2 hzb hql hll hx hy
  clear q rs Zr
  rintro ⟨a, dh, D, q, rs, Zr⟩ w ⟨hwr, hby, hal, hq, hln, hr2, hzb, H⟩
  dsimp only at hwr hby hal hq hln hr2 hzb H ⊢
  have hql := hq.len
  rw [List.length_map] at hql
  have hll := lines_le fl hr2
  have hbl := hby.len
  by_cases hD0 : D.length = 0
  · obtain rfl := List.eq_nil_of_length_eq_zero hD0
    rw [wrAll_done] at hwr
    (first | (refine H.wg ?_; clear H; intros; rename_i w H; constructor) | refine wk ?_)
    exact ⟨(by repeat (first | exact trivial | refine ⟨rfl, ?_⟩)), (kk + 1, q, rs, Zr), (by repeat (first | exact trivial | refine ⟨rfl, ?_⟩)), ⟨by dsimp only; omega, by dsimp only; rw [← hT]; exact hwr, hq, hln, hr2, hzb, H.sx⟩, by dsimp only; omega⟩
  have hD : D ≠ [] := fun h => hD0 (by rw [h]; rfl)
  cases Zr with
  | nil =>
    rw [List.length_nil] at hql
    rw [wrAll_stop T hD] at hwr
    have e0 : hexOut fl S Z = none := by rw [hexOut_eq, ← hZ2, hwr]; rfl
    rw [e0]
    (first | (refine H.wg ?_; clear H; intros; rename_i w H; constructor) | refine wk ?_)
    exact ⟨V2, ⟨none, 0, 0⟩, hV2, H.sx, rfl, by simp⟩
  | cons n Zt =>
    obtain ⟨p1, d0⟩ := hq.at1 (g := iv) (fun _ => rfl) (i := 0) (by simp)
    rw [show (ints (n :: Zt))[0]'(by simp) = (n : Int) from rfl] at d0
    have hzn := hzb n (by simp)
    rw [List.length_cons] at hql hln
    by_cases hnD : n ≤ D.length
    rotate_left
    · rw [wrAll_big T Zt hD (by omega)] at hwr
      have e0 : hexOut fl S Z = none := by rw [hexOut_eq, ← hZ2, hwr]; rfl
      rw [e0]
      (first | (refine H.wg ?_; clear H; intros; rename_i w H; constructor) | refine wk ?_)
      exact ⟨V2, ⟨none, 0, 0⟩, hV2, H.sx, rfl, by simp⟩
    rw [wrAll_step T Zt hD hnD, preR_app] at hwr
    have hbc := hby.cap
    have hqc := hq.cap
    (first | (refine H.wg ?_; clear H; intros; rename_i w H; constructor) | refine wk ?_)
    refine (record_spec H.data hf (a := a) (by omega) 0 (sl_hd hby (n := 1) (fun _ => rfl) hnD) (by rw [List.length_take]; omega)).use ?_
    rintro v w ⟨rfl, K⟩
    (have hKb := K.base; replace H := Rel.call H K)
    simp only [List.nil_append] at H
    rw [show (0 : UInt8).toNat = 0 from rfl]
    have hle := (lineB_len fl (mkRec a 0 (D.take n))).2
    rw [mkRec_len, List.length_take] at hle
    (first | (refine H.wg ?_; clear H; intros; rename_i w H; constructor) | refine wk ?_)
    ((first | refine draw_vc (id := 7) tabOk mixed [] [0, 1, 2, 3, 4, 5] (by kernel_rfl) ?_ | refine draw_vc (id := 13) tabOk mixed [] [0, 1, 2, 3, 4, 5, 6, 7, 8, 9, 10] (by kernel_rfl) ?_); intro w hdw; replace H := Rel.ext H hdw.ext)
    (first | (refine H.wg ?_; clear H; intros; rename_i w H; constructor) | refine wk ?_)
    rw [show rs.flatMap (lineB fl) ++ lineB fl (mkRec a 0 (D.take n)) = (rs ++ [mkRec a 0 (D.take n)]).flatMap (lineB fl) by simp]
    exact ⟨(by repeat (first | exact trivial | refine ⟨rfl, ?_⟩)), (a + n, _, D.drop n, _, rs ++ [mkRec a 0 (D.take n)], Zt), (by repeat (first | exact trivial | refine ⟨rfl, ?_⟩)), ⟨hwr, sl_tl hby (n := 1) (fun _ => rfl) hnD, by dsimp only; rw [List.length_drop]; omega, sl_tl hq (n := 1) (fun _ => rfl) (k := 1) (by simp), by simp; omega, fun r hr => by
      rcases List.mem_append.1 hr with hr | hr
      · exact hr2 r hr
      · rw [List.mem_singleton.1 hr, mkRec_len, List.length_take]; omega, fun m hm => hzb m (by simp [hm]), H.sx⟩, by dsimp only; rw [List.length_drop]; omega⟩
end
end Go.Proofs.YtjfcpnlacodjjaaGreat
namespace Go.Proofs.YtjfcpnlacodjjaaGreat
open Go Go.RowKit

section
variable {V W : World}
set_option maxRecDepth 100000 in
set_option maxHeartbeats 2000000 in
theorem from_hex (hV : Sub V W) (hM : MaxT V) {h : VH} {v : Val} (hv : ValAt V h v) (hB : VB 1048576 v) {s : Sl} {b : List UInt8} (hs : Byt V s b) (hl : b.length ≤ 1099511627776) : Ret Tryz.prog 5 [valV h, s.v].toArray W (FrR W V (frRes v (hexShape v).isSome (hexMake v b))) := by
  have H := Rel.start hV
  have hv0 := hv
  have hpl := hv.plen
  obtain ⟨k, n, bs, ss, pl⟩ := h
  dsimp only at hpl
  change Ret Tryz.prog 5 [.agg [iv k, iv n, bs.v, ss.v, pl.v].toArray, s.v].toArray W _
  refine cal_of_vc tabOk Tryz.func5 rfl (by kernel_rfl) 82 rfl (by simp) [0, 1, 2, 4, 5, 6, 7, 8, 9, 10, 11, 12, 13, 14, 15, 16, 17, 22, 30, 40, 50, 65, 78] ?_
  (first | (refine H.wh ?_; clear H; intros; rename_i w H; constructor) | refine wk ?_)
  ((first | refine Rel.nwD H ?_ | refine Rel.nw H ?_); clear H; intro w b2 H)
  (first | (refine H.wh ?_; clear H; intros; rename_i w H; constructor) | refine wk ?_)
  ((first | refine Rel.nwD H ?_ | refine Rel.nw H ?_); clear H; intro w b5 H)
  (first | (refine H.wg ?_; clear H; intros; rename_i w H; constructor) | refine wk ?_)
  refine (validate_value H.data hv0 hB).use ?_
  rintro q w ⟨rfl, K⟩
  (have hKb := K.base; replace H := H.call0 K)
  (first | (refine H.wh ?_; clear H; intros; rename_i w H; constructor) | refine wk ?_)
  ((first | refine Rel.nwD H ?_ | refine Rel.nw H ?_); clear H; intro w b6 H)
  by_cases hvf : (vfault v).1 = 0
  rotate_left
  · have e : frRes v (hexShape v).isSome (hexMake v b) = ([], vfault v) := by unfold frRes; rw [if_pos hvf]
    rw [e]
    (first | (refine H.wg ?_; clear H; intros; rename_i w H; constructor) | refine wk ?_)
    ((first | refine draw_vc (id := 3) tabOk mixed [] [0, 1, 2] (by kernel_rfl) ?_ | refine draw_vc (id := 10) tabOk mixed [] [0, 1, 2] (by kernel_rfl) ?_ | refine draw_vc (id := 13) tabOk mixed [] [0, 1, 2] (by kernel_rfl) ?_ | refine draw_vc (id := 19) tabOk mixed [] [0, 1, 2] (by kernel_rfl) ?_); intro w hdw; replace H := Rel.ext H hdw.ext)
    (first | (refine H.wg ?_; clear H; intros; rename_i w H; constructor) | refine wk ?_)
    exact ⟨V, ⟨none, 0, 0⟩, Sub.refl _, H.sx, rfl, SlF.nil _ _⟩
  have hzz := vfault_zz hvf
  rw [hzz]
  (first | (refine H.wg ?_; clear H; intros; rename_i w H; constructor) | refine wk ?_)
  refine (segmentsOf_spec H.data hv0 hB hvf).use ?_
  rintro q w ⟨V2, sg, hV2, K, hres⟩
  (have hKb := K.base; replace H := H.call0 K)
  cases hsh : hexShape v with
  | none =>
    rw [hsh] at hres
    dsimp only at hres
    subst hres
    have e : frRes v (none : Option (List Seg)).isSome (hexMake v b) = ([], 13, 0) := by unfold frRes; rw [if_neg (fun h => h hvf)]; rfl
    rw [e]
    (first | (refine H.wg ?_; clear H; intros; rename_i w H; constructor) | refine wk ?_)
    refine (fault_hex H.data 13 0).use ?_
    rintro q w ⟨rfl, K⟩
    (have hKb := K.base; replace H := H.call0 K)
    (first | (refine H.wg ?_; clear H; intros; rename_i w H; constructor) | refine wk ?_)
    exact ⟨V2, ⟨none, 0, 0⟩, hV2, H.sx, rfl, SlF.nil _ _⟩
  | some S =>
    rw [hsh] at hres
    obtain ⟨rfl, hsg⟩ := hres
    obtain ⟨hok, hSl⟩ := hexShape_seg hsh
    have hcnt := valid_count hvf
    have badE : hexMake v b = none → frRes v (some S).isSome (hexMake v b) = ([], 6, -2) := fun h => by
      rw [h]
      unfold frRes
      rw [if_neg (fun h => h hvf)]
      rfl
    (first | (refine H.wg ?_; clear H; intros; rename_i w H; constructor) | refine wk ?_)
    refine (fault_hex H.data 6 (-2)).use ?_
    rintro q w ⟨rfl, K⟩
    (have hKb := K.base; replace H := H.call0 K)
    (first | (refine H.wh ?_; clear H; intros; rename_i w H; constructor) | refine wk ?_)
    ((first | refine Rel.nwD H ?_ | refine Rel.nw H ?_); clear H; intro w b9 H)
    (first | (refine H.wg ?_; clear H; intros; rename_i w H; constructor) | refine wk ?_)
    refine (readResidue_hex H.data (hs.up hV2) hl).use ?_
    rintro q w ⟨V3, rz, c, k3, hV3, K, rfl, hres⟩
    (have hKb := K.base; replace H := H.call0 K)
    have hV23 := hV2.trans hV3
    cases hr : hexRd b with
    | none =>
      rw [hr] at hres
      obtain rfl := hres
      have e := badE (hexMake_bad hsh hr)
      rw [e]
      (first | (refine H.wg ?_; clear H; intros; rename_i w H; constructor) | refine wk ?_)
      ((first | refine draw_vc (id := 3) tabOk mixed [] [0, 1, 2] (by kernel_rfl) ?_ | refine draw_vc (id := 10) tabOk mixed [] [0, 1, 2] (by kernel_rfl) ?_ | refine draw_vc (id := 13) tabOk mixed [] [0, 1, 2] (by kernel_rfl) ?_ | refine draw_vc (id := 19) tabOk mixed [] [0, 1, 2] (by kernel_rfl) ?_); intro w hdw; replace H := Rel.ext H hdw.ext)
      (first | (refine H.wg ?_; clear H; intros; rename_i w H; constructor) | refine wk ?_)
      exact ⟨V3, ⟨none, 0, 0⟩, hV23, H.sx, rfl, SlF.nil _ _⟩
    | some x =>
      obtain ⟨fl, Z⟩ := x
      rw [hr] at hres
      obtain ⟨rfl, rfl, hz⟩ := hres
      obtain ⟨hf, hZl, hZ, _⟩ := hexRd_some hr
      (first | (refine H.wg ?_; clear H; intros; rename_i w H; constructor) | refine wk ?_)
      refine (write_spec H.data hf (hsg.up hV3) hok (by omega) hz hZl hZ).use ?_
      rintro q w ⟨V4, ro, hV4, K, rfl, hw⟩
      (have hKb := K.base; replace H := H.call0 K)
      have hV24 := hV23.trans hV4
      cases ho : hexOut fl S Z with
      | none =>
        have e := badE (hexMake_out hsh hr ho)
        rw [e]
        (first | (refine H.wg ?_; clear H; intros; rename_i w H; constructor) | refine wk ?_)
        ((first | refine draw_vc (id := 3) tabOk mixed [] [0, 1, 2] (by kernel_rfl) ?_ | refine draw_vc (id := 10) tabOk mixed [] [0, 1, 2] (by kernel_rfl) ?_ | refine draw_vc (id := 13) tabOk mixed [] [0, 1, 2] (by kernel_rfl) ?_ | refine draw_vc (id := 19) tabOk mixed [] [0, 1, 2] (by kernel_rfl) ?_); intro w hdw; replace H := Rel.ext H hdw.ext)
        (first | (refine H.wg ?_; clear H; intros; rename_i w H; constructor) | refine wk ?_)
        exact ⟨V4, ⟨none, 0, 0⟩, hV24, H.sx, rfl, SlF.nil _ _⟩
      | some O =>
        obtain ⟨hOb, hOl⟩ := hw O ho
        have hmk : ∀ q : O.length ≤ 1000 → hexTo O ≠ some (v, b), frRes v (some S).isSome (hexMake v b) = ([], 6, -2) := fun q => badE (hexMake_no hsh hr ho q)
        (first | (refine H.wg ?_; clear H; intros; rename_i w H; constructor) | refine wk ?_)
        refine (to_hex H.data (((hM.up hV2).up hV3).up hV4) hOb hOl).use ?_
        rintro q w ⟨V5, hh, rr, hV5, K, rfl, hvv, hrr⟩
        (have hKb := K.base; replace H := H.call0 K)
        have hV25 := hV24.trans hV5
        by_cases hO1 : 1000 < O.length
        · have et : toRes (hexTo O) O.length = ⟨zeroV, [], 3, -1⟩ := by unfold toRes; rw [if_pos hO1]
          rw [et]
          have e := hmk fun h => by omega
          obtain ⟨hk, hn, hbs, hss, hpl2⟩ := hh
          (first | (refine H.wh ?_; clear H; intros; rename_i w H; constructor) | refine wk ?_)
          ((first | refine Rel.nwD H ?_ | refine Rel.nw H ?_); clear H; intro w b13 H)
          (first | (refine H.wh ?_; clear H; intros; rename_i w H; constructor) | refine wk ?_)
          ((first | refine Rel.nwD H ?_ | refine Rel.nw H ?_); clear H; intro w b15 H)
          (first | (refine H.wg ?_; clear H; intros; rename_i w H; constructor) | refine wk ?_)
          rw [e]
          (first | (refine H.wg ?_; clear H; intros; rename_i w H; constructor) | refine wk ?_)
          ((first | refine draw_vc (id := 3) tabOk mixed [] [0, 1, 2] (by kernel_rfl) ?_ | refine draw_vc (id := 10) tabOk mixed [] [0, 1, 2] (by kernel_rfl) ?_ | refine draw_vc (id := 13) tabOk mixed [] [0, 1, 2] (by kernel_rfl) ?_ | refine draw_vc (id := 19) tabOk mixed [] [0, 1, 2] (by kernel_rfl) ?_); intro w hdw; replace H := Rel.ext H hdw.ext)
          (first | (refine H.wg ?_; clear H; intros; rename_i w H; constructor) | refine wk ?_)
          exact ⟨V5, ⟨none, 0, 0⟩, hV25, H.sx, rfl, SlF.nil _ _⟩
        cases hto : hexTo O with
        | none =>
          have et : toRes none O.length = ⟨zeroV, [], 21, -1⟩ := by unfold toRes; rw [if_neg hO1]
          rw [et]
          have e := hmk fun _ h => by rw [hto] at h; cases h
          obtain ⟨hk, hn, hbs, hss, hpl2⟩ := hh
          (first | (refine H.wh ?_; clear H; intros; rename_i w H; constructor) | refine wk ?_)
          ((first | refine Rel.nwD H ?_ | refine Rel.nw H ?_); clear H; intro w b13 H)
          (first | (refine H.wh ?_; clear H; intros; rename_i w H; constructor) | refine wk ?_)
          ((first | refine Rel.nwD H ?_ | refine Rel.nw H ?_); clear H; intro w b15 H)
          (first | (refine H.wg ?_; clear H; intros; rename_i w H; constructor) | refine wk ?_)
          rw [e]
          (first | (refine H.wg ?_; clear H; intros; rename_i w H; constructor) | refine wk ?_)
          ((first | refine draw_vc (id := 3) tabOk mixed [] [0, 1, 2] (by kernel_rfl) ?_ | refine draw_vc (id := 10) tabOk mixed [] [0, 1, 2] (by kernel_rfl) ?_ | refine draw_vc (id := 13) tabOk mixed [] [0, 1, 2] (by kernel_rfl) ?_ | refine draw_vc (id := 19) tabOk mixed [] [0, 1, 2] (by kernel_rfl) ?_); intro w hdw; replace H := Rel.ext H hdw.ext)
          (first | (refine H.wg ?_; clear H; intros; rename_i w H; constructor) | refine wk ?_)
          exact ⟨V5, ⟨none, 0, 0⟩, hV25, H.sx, rfl, SlF.nil _ _⟩
        | some y =>
          obtain ⟨u, ur⟩ := y
          have et : toRes (some (u, ur)) O.length = ⟨u, ur, 0, 0⟩ := by unfold toRes; rw [if_neg hO1]
          rw [hto, et] at hvv hrr
          rw [et]
          dsimp only at hvv hrr ⊢
          obtain ⟨uB, uF, _⟩ := hex_valid (show O.length ≤ 1000 by omega) hto
          have hvv0 := hvv
          obtain ⟨hk, hn, hbs, hss, hpl2⟩ := hh
          (first | (refine H.wh ?_; clear H; intros; rename_i w H; constructor) | refine wk ?_)
          ((first | refine Rel.nwD H ?_ | refine Rel.nw H ?_); clear H; intro w b13 H)
          (first | (refine H.wh ?_; clear H; intros; rename_i w H; constructor) | refine wk ?_)
          ((first | refine Rel.nwD H ?_ | refine Rel.nw H ?_); clear H; intro w b15 H)
          (first | (refine H.wg ?_; clear H; intros; rename_i w H; constructor) | refine wk ?_)
          refine (equal_bytes H.data hrr (hs.up hV25)).use ?_
          rintro q w ⟨rfl, K⟩
          (have hKb := K.base; replace H := Rel.call H K)
          simp only [List.nil_append] at H
          by_cases hc1 : ur = b
          rotate_left
          · rw [decide_eq_false hc1]
            have e := hmk fun _ h => hc1 (by rw [hto] at h; cases h; rfl)
            rw [e]
            (first | (refine H.wg ?_; clear H; intros; rename_i w H; constructor) | refine wk ?_)
            ((first | refine draw_vc (id := 3) tabOk mixed [] [0, 1, 2] (by kernel_rfl) ?_ | refine draw_vc (id := 10) tabOk mixed [] [0, 1, 2] (by kernel_rfl) ?_ | refine draw_vc (id := 13) tabOk mixed [] [0, 1, 2] (by kernel_rfl) ?_ | refine draw_vc (id := 19) tabOk mixed [] [0, 1, 2] (by kernel_rfl) ?_); intro w hdw; replace H := Rel.ext H hdw.ext)
            (first | (refine H.wg ?_; clear H; intros; rename_i w H; constructor) | refine wk ?_)
            exact ⟨V5, ⟨none, 0, 0⟩, hV25, H.sx, rfl, SlF.nil _ _⟩
          rw [decide_eq_true hc1]
          (first | (refine H.wg ?_; clear H; intros; rename_i w H; constructor) | refine wk ?_)
          refine (compare_value H.data (hv0.up hV25) hvv0 hB uB hvf uF).use ?_
          rintro q w ⟨V6, cc, hV6, K, rfl, hcc⟩
          (have hKb := K.base; replace H := Rel.call H K)
          simp only [List.nil_append] at H
          have hV26 := hV25.trans hV6
          (first | (refine H.wh ?_; clear H; intros; rename_i w H; constructor) | refine wk ?_)
          ((first | refine Rel.nwD H ?_ | refine Rel.nw H ?_); clear H; intro w b17 H)
          by_cases hc2 : cc = 0
          rotate_left
          · have e := hmk fun _ h => hc2 (hcc.2 (by rw [hto] at h; cases h; rfl))
            rw [e]
            (first | (refine H.wg ?_; clear H; intros; rename_i w H; constructor) | refine wk ?_)
            ((first | refine draw_vc (id := 3) tabOk mixed [] [0, 1, 2] (by kernel_rfl) ?_ | refine draw_vc (id := 10) tabOk mixed [] [0, 1, 2] (by kernel_rfl) ?_ | refine draw_vc (id := 13) tabOk mixed [] [0, 1, 2] (by kernel_rfl) ?_ | refine draw_vc (id := 19) tabOk mixed [] [0, 1, 2] (by kernel_rfl) ?_); intro w hdw; replace H := Rel.ext H hdw.ext)
            (first | (refine H.wg ?_; clear H; intros; rename_i w H; constructor) | refine wk ?_)
            exact ⟨V6, ⟨none, 0, 0⟩, hV26, H.sx, rfl, SlF.nil _ _⟩
          have e : frRes v (some S).isSome (hexMake v b) = (O, 0, 0) := by
            rw [hexMake_yes hsh hr ho (by omega) (by rw [hto, hc1, hcc.1 hc2])]
            unfold frRes
            rw [if_neg (fun h => h hvf)]
            rfl
          rw [e]
          (first | (refine H.wg ?_; clear H; intros; rename_i w H; constructor) | refine wk ?_)
          exact ⟨V6, ro, hV26, H.sx, rfl, hOb.up (hV5.trans hV6)⟩
end
end Go.Proofs.YtjfcpnlacodjjaaGreat
