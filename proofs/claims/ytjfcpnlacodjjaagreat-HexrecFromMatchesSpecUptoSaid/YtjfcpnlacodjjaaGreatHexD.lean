/-
  Files of hexadecimal records: read.
-/
import Derived.Test.YtjfcpnlacodjjaaGreatHexC
import Derived.Test.YtjfcpnlacodjjaaGreatWirB
namespace Go.Proofs.YtjfcpnlacodjjaaGreat
open Go Go.RowKit

/-- segments that are only read -/
def SegsAt (V : World) (s : Sl) (S : List Seg) : Prop := ∃ hs, SlF sgC V s hs ∧ Pw SegR V hs S
theorem SegsAt.up {V V' : World} {s : Sl} {S : List Seg} (h : SegsAt V s S) (k : Sub V V') : SegsAt V' s S := by
  obtain ⟨hs, h1, h2⟩ := h
  exact ⟨hs, h1.up k, h2.up SegR.up k⟩
theorem SegsAt.len {V : World} {s : Sl} {S : List Seg} (h : SegsAt V s S) : s.len = S.length := by
  obtain ⟨hs, h1, h2⟩ := h
  rw [h1.len, h2.len]
theorem SegsN.dlen {V : World} {S : List Seg} {hs : List (Nat × Sl)} {dl : Sl} {d : List UInt8} (h : SegsN V S hs dl d) (hne : S ≠ []) (hok : segOk S) : d.length ≤ 65536 := by
  rcases h.ex with ⟨h1, _⟩ | ⟨P, a, hP, h1, _, _⟩
  · exact absurd h1 hne
  · have := hok (a, d) (by rw [h1]; simp)
    dsimp only at this
    omega
theorem addSeg_ne (a : Nat) (c : List UInt8) (S : List Seg) : addSeg a c S ≠ [] ∧ (addSeg a c S).length ≤ S.length + 1 := by
  rcases List.eq_nil_or_concat S with rfl | ⟨P, x, rfl⟩
  · rw [addSeg_nil]; exact ⟨by simp, by simp⟩
  · rw [List.concat_eq_append, addSeg_snoc]
    split
    · exact ⟨by simp, by simp⟩
    · exact ⟨by simp, by simp⟩
structure FileH (W V : World) (fl : Nat) (o : Option (List Seg × List Nat)) (v : Value) (w' : World) : Prop where
  ex : ∃ (V' : World) (sg sz : Sl) (c : Int) (k : Bool), Sub V V' ∧ Rel W V [] V' w' ∧ v = .tuple #[.agg #[sg.v, sz.v, iv c], .bool k] ∧ (match o with
    | none => k = false
    | some (S, Z) => k = true ∧ c = fl ∧ SegsAt V' sg S ∧ SlF itC V' sz (ints Z))
theorem rCont_sub {raw : List UInt8} (h : recOk raw) : (raw.take (raw.length - 1)).drop 4 = rCont raw := by
  have := h.2.1
  unfold rCont
  rw [List.drop_take, show raw.length - 1 - 4 = b8 raw 0 by omega]
section
variable {V W : World}
set_option maxRecDepth 100000 in
set_option maxHeartbeats 2000000 in
theorem read_hex (hV : Sub V W) (hM : MaxT V) {s : Sl} {l : List UInt8} (hs : Byt V s l) (hl : l.length ≤ 1000) {fl : Nat} (hf : fl < 4) : Ret Tryz.prog 34 [s.v, iv (fl : Int)].toArray W (FileH W V fl (hexRead fl l)) := by
  have H := Rel.start hV
  have hlen := hs.len
  refine cal_of_vc tabOk Tryz.func34 rfl (by kernel_rfl) 92 rfl (by simp) [0, 1, 4, 5, 6, 7, 8, 9, 10, 11, 12, 13, 14, 28, 37, 58, 73] ?_
  (first | (refine H.wh ?_; clear H; intros; rename_i w H; constructor) | refine wk ?_)
  ((first | refine Rel.nwD H ?_ | refine Rel.nw H ?_); clear H; intro w b4 H)
  (first | (refine H.wh ?_; clear H; intros; rename_i w H; constructor) | refine wk ?_)
  ((first | refine Rel.nwD H ?_ | refine Rel.nw H ?_); clear H; intro w b6 H)
  (first | (refine H.wg ?_; clear H; intros; rename_i w H; constructor) | refine wk ?_)
  refine ⟨byC_map _ ▸ (hs.up H.data).cells, ?_⟩
  (first | (refine H.wg ?_; clear H; intros; rename_i w H; constructor) | refine wk ?_)
  replace H := H.rowNil 5 1
  replace H := H.rowNil 83 2
  replace H := H.rowNil 3 1
  refine loop_inv (S := List UInt8 × List Seg × List Nat × List (Nat × Sl) × Sl × Sl × Sl × List UInt8) tabOk [0, 1, 4, 6] (fun q => [(7, str q.1)]) (fun q w' => ∃ V3, Sub V V3 ∧ SegsN V3 q.2.1 q.2.2.2.1 q.2.2.2.2.2.2.1 q.2.2.2.2.2.2.2 ∧ segOk q.2.1 ∧ hexRead fl l = readFrom fl q.2.1 q.2.2.1 q.1 ∧ q.2.2.1.length + q.1.length ≤ l.length ∧ q.2.1.length ≤ q.2.2.1.length ∧ q.2.2.2.2.2.2.2.length ≤ 65536 ∧
    Rel W V [.row q.2.2.2.2.1 3 1 ((ints q.2.2.1).flatMap itC), .row q.2.2.2.2.2.1 83 2 (q.2.2.2.1.flatMap sgC), .row q.2.2.2.2.2.2.1 5 1 (q.2.2.2.2.2.2.2.flatMap byC), .blk b6 [q.2.2.2.2.2.1.v, q.2.2.2.2.1.v, iv (fl : Int)] 74, .blk b4 [.slice none 0 0, .slice none 0 0, iv 0] 74] V3 w') (fun q _ => q.1.length) (l, [], [], [], ⟨none, 0, 0⟩, ⟨none, 0, 0⟩, ⟨none, 0, 0⟩, []) ?_
  (conv => whnf)
  refine ⟨(by repeat (first | exact trivial | refine ⟨rfl, ?_⟩)), ⟨V, Sub.refl _, ⟨.inl ⟨rfl, rfl⟩⟩, by intro s hs; simp at hs, rfl, by simp, by simp, by simp, H⟩, ?_⟩
  clear H
  rintro ⟨rest, S, Z, gs, sz, sg, dl, d⟩ w ⟨V3, hV3, hS, hok, hrd, hZr, hSZ, hdl, H⟩
  dsimp only at hS hok hrd hZr hSZ hdl H ⊢
  (first | (refine H.wg ?_; clear H; intros; rename_i w H; constructor) | refine wk ?_)
  refine (end_spec H.data hf).use ?_
  rintro v w ⟨rfl, K⟩
  (have hKb := K.base; replace H := H.call0 K)
  (first | (refine H.wg ?_; clear H; intros; rename_i w H; constructor) | refine wk ?_)
  refine (cut_spec H.data (hM.up hV3) rest (endB fl) (by omega)).use ?_
  rintro v w ⟨rfl, K⟩
  (have hKb := K.base; replace H := H.call0 K)
  have hge := Lib.index_ge rest (endB fl)
  by_cases hi : Lib.index rest (endB fl) = -1
  · have e : Lib.cut rest (endB fl) = (rest, [], false) := by unfold Lib.cut; rw [if_neg (by omega)]
    rw [e]
    dsimp only
    rw [hrd, (readFrom_bad (rdLine_nocut hi))]
    (first | (refine H.wg ?_; clear H; intros; rename_i w H; constructor) | refine wk ?_)
    exact ⟨V3, ⟨none, 0, 0⟩, ⟨none, 0, 0⟩, 0, false, hV3, H.sx, rfl, rfl⟩
  obtain ⟨i, hi⟩ : ∃ i : Nat, Lib.index rest (endB fl) = i := ⟨(Lib.index rest (endB fl)).toNat, by omega⟩
  obtain ⟨hocc, hil⟩ := index_occ hi
  have e : Lib.cut rest (endB fl) = (rest.take i, rest.drop (i + (endB fl).length), true) := by unfold Lib.cut; rw [if_pos (by omega), hi]; rfl
  rw [e]
  dsimp only
  have hcut := rdLine_cut hi hocc
  obtain ⟨nx, hnx⟩ : ∃ nx, nx = rest.drop (i + (endB fl).length) := ⟨_, rfl⟩
  have hnl : nx.length + 1 ≤ rest.length := by
    have h1 : 1 ≤ (endB fl).length := by unfold endB; split <;> simp
    rcases Lib.occAt_room hocc with h | h
    · rw [hnx, List.length_drop]; omega
    · rw [h] at h1; simp at h1
  rw [← hnx] at hcut ⊢
  (first | (refine H.wg ?_; clear H; intros; rename_i w H; constructor) | refine wk ?_)
  refine (readRecord_spec H.data hf (rest.take i) (by rw [List.length_take]; omega)).use ?_
  rintro v w ⟨V4, rb, hV4, K, rfl, hraw⟩
  (have hKb := K.base; replace H := H.call0 K)
  have hV34 := hV3.trans hV4
  cases hrs : rdS (lowF fl) (rest.take i) with
  | none =>
    rw [hrs] at hcut
    rw [hrd, (readFrom_bad hcut)]
    (first | (refine H.wg ?_; clear H; intros; rename_i w H; constructor) | refine wk ?_)
    exact ⟨V4, ⟨none, 0, 0⟩, ⟨none, 0, 0⟩, 0, false, hV34, H.sx, rfl, rfl⟩
  | some raw =>
  rw [hrs] at hcut
  have hrb := hraw raw hrs
  obtain ⟨_, hrok⟩ := rdS_iff.1 hrs
  have hrl := hrb.len
  have hrc := hrb.cap
  have ⟨r5, r6, _⟩ := hrok
  obtain ⟨p0, c1⟩ := hrb.at1 (g := bv) (fun _ => rfl) (i := 1) (by omega)
  obtain ⟨_, c2⟩ := hrb.at1 (g := bv) (fun _ => rfl) (i := 2) (by omega)
  obtain ⟨_, c3⟩ := hrb.at1 (g := bv) (fun _ => rfl) (i := 3) (by omega)
  have hb1 : b8 raw 1 = (raw[1]'(by omega)).toNat := by simp [b8, show 1 < raw.length by omega]
  have hb2 : b8 raw 2 = (raw[2]'(by omega)).toNat := by simp [b8, show 2 < raw.length by omega]
  have hb3 : b8 raw 3 = (raw[3]'(by omega)).toNat := by simp [b8, show 3 < raw.length by omega]
  have hat : rAt raw = 256 * (raw[1]'(by omega)).toNat + (raw[2]'(by omega)).toNat := by unfold rAt; rw [hb1, hb2]
  have htc := hrb.sub (n := 1) (fun _ => rfl) (a := 4) (b := raw.length - 1) (by omega) (by omega)
  rw [rCont_sub hrok] at htc
  have hcl := rCont_len hrok
  have hb0 : b8 raw 0 ≤ 255 := Nat.le_of_lt_succ (raw[0]?.getD 0).toNat_lt
  generalize raw[1] = x1 at c1 hat
  generalize raw[2] = x2 at c2 hat
  generalize raw[3] = x3 at c3 hb3
  have l1 := x1.toNat_lt
  have l2 := x2.toNat_lt
  have l3 := x3.toNat_lt
  have hor := or_hi l1 l2
  rw [← hat] at hor
  have hrAl : rAt raw < 65536 := by omega
  (first | (refine H.wg ?_; clear H; intros; rename_i w H; constructor) | refine wk ?_)
  ((first | refine draw_vc (id := 10) tabOk mixed [] [0, 1, 2, 3, 4, 5, 6, 7, 8, 9, 10, 11, 12, 13, 14, 15, 16, 17, 18, 19, 20] (by kernel_rfl) ?_); intro w hdw; replace H := Rel.ext H hdw.ext)
  (first | (refine H.wg ?_; clear H; intros; rename_i w H; constructor) | refine wk ?_)
  rw [shl8]
  (first | (refine H.wg ?_; clear H; intros; rename_i w H; constructor) | refine wk ?_)
  rw [hor]
  by_cases hk : b8 raw 3 = 1
  · have hend := readFrom_end (S := S) (Z := Z) hcut hk
    have hx3 : x3.toNat = 1 := by rw [← hb3]; exact hk
    obtain ⟨V5, hV5, H, hz⟩ := Rel.freezeF H (fun _ => rfl) (by decide)
    obtain ⟨V6, hV6, H, hg⟩ := Rel.freezeF H (fun _ => rfl) (by decide)
    obtain ⟨V7, hV7, H, hd⟩ := Rel.freezeF H (fun _ => rfl) (by decide)
    have hVe := (hV34.trans hV5).trans (hV6.trans hV7)
    have hseg : SegsAt V7 sg S := ⟨gs, hg.up hV7, (((hS.up hV4).up hV5).up (hV6.trans hV7)).all hd⟩
    rw [hrd, hend]
    by_cases c0 : b8 raw 0 = 0
    rotate_left
    · rw [if_neg (fun q => c0 q.1)]
      (first | (refine H.wg ?_; clear H; intros; rename_i w H; constructor) | refine wk ?_)
      exact ⟨V7, sg, sz, fl, false, hVe, H.sx, rfl, rfl⟩
    by_cases c1 : rAt raw = 0
    rotate_left
    · rw [if_neg (fun q => c1 q.2.1)]
      (first | (refine H.wg ?_; clear H; intros; rename_i w H; constructor) | refine wk ?_)
      exact ⟨V7, sg, sz, fl, false, hVe, H.sx, rfl, rfl⟩
    by_cases c2 : nx = []
    · rw [if_pos ⟨c0, c1, c2⟩]
      (first | (refine H.wg ?_; clear H; intros; rename_i w H; constructor) | refine wk ?_)
      exact ⟨V7, sg, sz, fl, true, hVe, H.sx, by rw [decide_eq_true c2], rfl, rfl, hseg, (hz.up hV6).up hV7⟩
    · rw [if_neg (fun q => c2 q.2.2)]
      (first | (refine H.wg ?_; clear H; intros; rename_i w H; constructor) | refine wk ?_)
      exact ⟨V7, sg, sz, fl, false, hVe, H.sx, by rw [decide_eq_false c2], rfl⟩
  · have hdat := readFrom_data (S := S) (Z := Z) hcut hk
    have hx3 : x3.toNat ≠ 1 := by rw [← hb3]; exact hk
    by_cases d1 : b8 raw 3 = 0
    rotate_left
    · have hx30 : x3.toNat ≠ 0 := by rw [← hb3]; exact d1
      rw [if_neg (fun q => d1 q.1)] at hdat
      rw [hrd, hdat]
      (first | (refine H.wg ?_; clear H; intros; rename_i w H; constructor) | refine wk ?_)
      exact ⟨V4, ⟨none, 0, 0⟩, ⟨none, 0, 0⟩, 0, false, hV34, H.sx, rfl, rfl⟩
    have hx30 : x3.toNat = 0 := by rw [← hb3]; exact d1
    by_cases d2 : b8 raw 0 = 0
    · rw [if_neg (fun q => q.2.1 d2)] at hdat
      rw [hrd, hdat]
      (first | (refine H.wg ?_; clear H; intros; rename_i w H; constructor) | refine wk ?_)
      exact ⟨V4, ⟨none, 0, 0⟩, ⟨none, 0, 0⟩, 0, false, hV34, H.sx, rfl, rfl⟩
    by_cases d3 : rAt raw + b8 raw 0 ≤ 65536
    rotate_left
    · rw [if_neg (fun q => d3 q.2.2)] at hdat
      rw [hrd, hdat]
      (first | (refine H.wg ?_; clear H; intros; rename_i w H; constructor) | refine wk ?_)
      exact ⟨V4, ⟨none, 0, 0⟩, ⟨none, 0, 0⟩, 0, false, hV34, H.sx, rfl, rfl⟩
    rw [if_pos ⟨d1, d2, d3⟩] at hdat
    have hcn : rCont raw ≠ [] := by
      intro q
      rw [q] at hcl
      simp at hcl
      omega
    (first | (refine H.wg ?_; clear H; intros; rename_i w H; constructor) | refine wk ?_)
    rw [show (((rb.len : Nat) : Int) - 1).toNat = raw.length - 1 by omega]
    refine (add_spec (a := rAt raw) H (hS.up hV4) (by omega) (by omega) (by omega) htc (by omega) (by omega) hok).use ?_
    clear H
    rintro v w ⟨V5, sz', sg', dl', gs', d', hV5, hS', H⟩
    rw [hcl] at H
    have hok' := segOk_add (a := rAt raw) hok hcn (by omega)
    obtain ⟨n1, n2⟩ := addSeg_ne (rAt raw) (rCont raw) S
    (first | (refine H.wg ?_; clear H; intros; rename_i w H; constructor) | refine wk ?_)
    exact ⟨(by repeat (first | exact trivial | refine ⟨rfl, ?_⟩)), (nx, addSeg (rAt raw) (rCont raw) S, Z ++ [b8 raw 0], gs', sz', sg', dl', d'), (by repeat (first | exact trivial | refine ⟨rfl, ?_⟩)), ⟨V5, hV34.trans hV5, hS', hok', by dsimp only; rw [hrd, hdat], by dsimp only; rw [List.length_append, List.length_singleton]; omega, by dsimp only; rw [List.length_append, List.length_singleton]; omega, hS'.dlen n1 hok', H⟩, by dsimp only; omega⟩
end
end Go.Proofs.YtjfcpnlacodjjaaGreat
