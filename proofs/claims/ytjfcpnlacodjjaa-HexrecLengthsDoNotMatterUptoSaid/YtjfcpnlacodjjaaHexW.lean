/-
  Files of hexadecimal records: record, write.
-/
import Derived.Test.YtjfcpnlacodjjaaHexP
import Derived.Test.YtjfcpnlacodjjaaHexH
namespace Go.Proofs.Ytjfcpnlacodjjaa
open Go Go.RowKit

theorem sl_tl {α : Type} {f : α → List Value} {n : Nat} {V : World} {s : Sl} {l : List α} (h : SlF f V s l) (hf : ∀ x, (f x).length = n) {k : Nat} (hk : k ≤ l.length) : SlF f V ⟨subA s.a k s.cap n, s.len - k, s.cap - k⟩ (l.drop k) := by
  have := h.sub hf (a := k) (b := l.length) hk (Nat.le_refl _)
  rw [List.take_length] at this
  rw [h.len]
  exact this
theorem sl_hd {α : Type} {f : α → List Value} {n : Nat} {V : World} {s : Sl} {l : List α} (h : SlF f V s l) (hf : ∀ x, (f x).length = n) {k : Nat} (hk : k ≤ l.length) : SlF f V ⟨subA s.a 0 s.cap n, k - 0, s.cap - 0⟩ (l.take k) := by
  have := h.sub hf (a := 0) (b := k) (Nat.zero_le _) hk
  rwa [List.drop_zero] at this
theorem hd_cells {n a : Nat} (k : UInt8) (hn : n ≤ 255) (ha : a < 65536) : [Value.int .u8 (wr .u8 (n : Int)), Value.int .u8 (wr .u8 ((a : Int) / 2 ^ min (Int.toNat 8) IntKind.i64.bits)), Value.int .u8 (wr .u8 (a : Int)), bv k] = [UInt8.ofNat n, UInt8.ofNat (a / 256), UInt8.ofNat a, k].flatMap byC := by
  have e0 : (2 : Int) ^ min (Int.toNat 8) IntKind.i64.bits = 256 := by decide
  have e1 : wr .u8 ((a : Int) / 256) = ((a / 256 : Nat) : Int) := by show ((a : Int) / 256) % 256 = _; omega
  have e2 : wr .u8 (a : Int) = ((a % 256 : Nat) : Int) := by show (a : Int) % 256 = _; omega
  have e3 : wr .u8 (n : Int) = (n : Int) := by show (n : Int) % 256 = _; omega
  simp only [e0, e1, e2, e3, List.flatMap_cons, List.flatMap_nil, byC, bv, List.cons_append, List.nil_append]
  rw [toNat_ofNat_lt (by omega), toNat_ofNat_lt (by omega), UInt8.toNat_ofNat']
theorem neg_cell {n : Nat} : [Value.int .u8 (wr .u8 (0 - ((n % 256 : Nat) : Int)))] = byC (UInt8.ofNat (256 - n % 256)) := by
  simp only [byC, bv]
  rw [UInt8.toNat_ofNat']
  congr 2
  show (0 - ((n % 256 : Nat) : Int)) % 256 = _
  omega
theorem and15u : ∀ c : Nat, c < 256 → bitsI .and .u8 (c : Int) 15 = ((c % 16 : Nat) : Int) := by decide +kernel
section
variable {V W : World}
set_option maxRecDepth 100000 in
set_option maxHeartbeats 1000000 in
theorem record_spec (hV : Sub V W) {fl : Nat} (hf : fl < 4) {a : Nat} (ha : a < 65536) (k : UInt8) {s : Sl} {c : List UInt8} (hs : Byt V s c) (hc : c.length ≤ 255) : Ret Try.prog 107 [iv (fl : Int), iv (a : Int), bv k, s.v].toArray W fun v w' => v = str (lineB fl (mkRec a k.toNat c)) ∧ Rel W V [] V w' := by
  have H := Rel.start hV
  have hlen := hs.len
  refine cal_of_vc tabOk Try.func107 rfl (by kernel_rfl) 58 rfl (by simp) [0, 1, 2, 3, 8, 9, 10, 12, 33, 34, 35, 36] ?_
  (first | (refine H.wh ?_; clear H; intros; rename_i w H; constructor) | refine wk ?_)
  ((first | refine Rel.nwD H ?_ | refine Rel.nw H ?_); clear H; intro w bh H)
  (first | (refine H.wh ?_; clear H; intros; rename_i w H; constructor) | refine wk ?_)
  ((first | refine Rel.nwD H ?_ | refine Rel.nw H ?_); clear H; intro w bl H)
  obtain ⟨V2, hV2, H, hbl⟩ := H.freezeBlk
  replace H := H.blkEq (c' := [UInt8.ofNat c.length, UInt8.ofNat (a / 256), UInt8.ofNat a, k].flatMap byC) (by rw [hlen]; exact hd_cells k hc ha)
  obtain ⟨V3, hV3, H, hbh⟩ := H.freezeBlk
  have hll : SlF slC V3 ⟨some ⟨bl, 0, none⟩, 2, 2⟩ [⟨some ⟨bh, 0, none⟩, 4, 4⟩, s] := ⟨rfl, Nat.le_refl _, hbl.cells.sub' hV3⟩
  have hpw : Pw BytR V3 [⟨some ⟨bh, 0, none⟩, 4, 4⟩, s] [[UInt8.ofNat c.length, UInt8.ofNat (a / 256), UInt8.ofNat a, k], c] := ⟨rfl, fun i x y hx hy => by
    match i, hx, hy with
    | 0, hx, hy => cases hx; cases hy; exact ⟨rfl, Nat.le_refl _, hbh.cells⟩
    | 1, hx, hy => cases hx; cases hy; exact (hs.up hV2).up hV3
    | i + 2, hx, hy => simp at hx⟩
  (first | (refine H.wg ?_; clear H; intros; rename_i w H; constructor) | refine wk ?_)
  refine (concat_bytes H.data hll hpw (by show 2 ≤ _; decide) (by simp only [List.flatten_cons, List.flatten_nil, List.length_append, List.length_cons, List.length_nil]; omega)).use ?_
  rintro v w ⟨r, rfl, K⟩
  (have hKb := K.base; replace H := Rel.call H K)
  simp only [List.append_nil] at H
  obtain ⟨X, hX⟩ : ∃ X, X = recHd a k.toNat c := ⟨_, rfl⟩
  have eh : [[UInt8.ofNat c.length, UInt8.ofNat (a / 256), UInt8.ofNat a, k], c].flatten = X := by
    rw [hX]
    simp [recHd]
  have hXl : X.length = c.length + 4 := by rw [← eh]; simp
  have hM : mkRec a k.toNat c = X ++ [sumC X] := by rw [hX]; rfl
  rw [hM]
  rw [eh] at H
  (first | (refine H.wg ?_; clear H; intros; rename_i w H; constructor) | refine wk ?_)
  refine (sum_spec (Sub.refl w) (H.slfAt (i := 0) rfl (fun _ => rfl) (by decide)) (by omega)).use ?_
  rintro v w2 ⟨rfl, K⟩
  replace H := H.ext K.base
  clear K
  generalize w2 = w at H ⊢
  (first | (refine H.wg ?_; clear H; intros; rename_i w H; constructor) | refine wk ?_)
  replace H := H.blkEq (c' := byC (sumC X)) neg_cell
  refine Rel.app1_0 (f := byC) (s := r) (l := X) (x := sumC X) tabOk rfl rfl rfl rfl rfl (by decide) (fun _ => rfl) (by simp [Value.oneCell']) H (by show (X.length + 1) * 1 ≤ _; omega) (by omega) ?_
  clear H
  intro r2 w H
  obtain ⟨M, hM⟩ : ∃ M, M = X ++ [sumC X] := ⟨_, rfl⟩
  have hMl : M.length = c.length + 5 := by rw [hM]; simp; omega
  rw [← hM] at H ⊢
  obtain ⟨V4, hV4, H, hr2⟩ := Rel.freezeF H (fun _ => rfl) (by decide)
  have hr2l := hr2.len
  (first | (refine H.wh ?_; clear H; intros; rename_i w H; constructor) | refine wk ?_)
  ((first | refine Rel.nwD H ?_ | refine Rel.nw H ?_); clear H; intro w b10 H)
  replace H := H.blkEq (c' := ([58] : List UInt8).flatMap byC) rfl
  replace H := H.toRow (n := 1) (e := 5) (sz := 1) rfl (by simp [maxLen])
  (first | (refine H.wg ?_; clear H; intros; rename_i w H; constructor) | refine wk ?_)
  refine loop_inv (S := Nat × Sl) tabOk [0, 1, 2, 3, 8, 9, 33, 34] (fun q => [(10, q.2.v), (35, iv q.1)]) (fun q w' => q.1 ≤ M.length ∧ Rel W V [.row q.2 5 1 ((58 :: hexB (lowF fl) (M.take q.1)).flatMap byC)] V4 w') (fun q _ => M.length - q.1) (0, ⟨some ⟨b10, 0, none⟩, 1, 1⟩) ?_
  (conv => whnf)
  refine ⟨(by repeat (first | exact trivial | refine ⟨rfl, ?_⟩)), ⟨by omega, H⟩, ?_⟩
  clear H
  rintro ⟨i, ro⟩ w ⟨hi, H⟩
  dsimp only at hi H ⊢
  have hbl2 := hexB_len (lowF fl) (M.take i)
  rw [List.length_take] at hbl2
  by_cases hlt : i < M.length
  · obtain ⟨p0, c0⟩ := hr2.at1 (g := bv) (fun _ => rfl) hlt
    have ht := List.take_succ_eq_append_getElem hlt
    obtain ⟨y, hy⟩ : ∃ y, y = M[i] := ⟨_, rfl⟩
    rw [← hy] at c0 ht
    have hyl := y.toNat_lt
    have e16 : (2 : Int) ^ min (Int.toNat 4) IntKind.u8.bits = 16 := by decide
    have g0 : (digL (lowF fl))[((y.toNat : Int) / 2 ^ min (Int.toNat 4) IntKind.u8.bits).toNat]? = some (hdC (lowF fl) (y.toNat / 16)) := by
      rw [show ((y.toNat : Int) / 2 ^ min (Int.toNat 4) IntKind.u8.bits).toNat = y.toNat / 16 from rfl]
      exact digL_get (by omega)
    have g1 : (digL (lowF fl))[(((y.toNat % 16 : Nat) : Int)).toNat]? = some (hdC (lowF fl) (y.toNat % 16)) := by
      rw [Int.toNat_natCast]
      exact digL_get (by omega)
    have ga := and15u y.toNat hyl
    (first | (refine H.wg ?_; clear H; intros; rename_i w H; constructor) | refine wk ?_)
    ((first | refine draw_vc (id := 7) tabOk mixed [] [0, 1, 3, 4, 6, 8, 9, 2, 5, 7, 10, 11, 12, 13] (by kernel_rfl) ?_ | refine draw_vc (id := 9) tabOk mixed [3] [0, 1, 2, 3, 4, 5] (by kernel_rfl) ?_); intro w hdw; replace H := Rel.ext H hdw.ext)
    (first | (refine H.wg ?_; clear H; intros; rename_i w H; constructor) | refine wk ?_)
    refine (digits_spec H.data hf).use ?_
    rintro v w ⟨rfl, K⟩
    (have hKb := K.base; replace H := H.call0 K)
    (first | (refine H.wg ?_; clear H; intros; rename_i w H; constructor) | refine wk ?_)
    refine ⟨by rw [e16]; omega, _, g0, ?_⟩
    (first | (refine H.wg ?_; clear H; intros; rename_i w H; constructor) | refine wk ?_)
    refine (digits_spec H.data hf).use ?_
    rintro v w ⟨rfl, K⟩
    (have hKb := K.base; replace H := H.call0 K)
    (first | (refine H.wg ?_; clear H; intros; rename_i w H; constructor) | refine wk ?_)
    rw [ga]
    (first | (refine H.wg ?_; clear H; intros; rename_i w H; constructor) | refine wk ?_)
    replace H := H.blkEq (c' := [hdC (lowF fl) (y.toNat / 16), hdC (lowF fl) (y.toNat % 16)].flatMap byC) rfl
    replace H := H.toRow (n := 2) (e := 5) (sz := 1) rfl (by simp [maxLen])
    refine Rel.appB H (i := 0) rfl (by simp only [List.length_cons, List.length_nil]; omega) ?_
    clear H
    intro r1 w H
    simp only [List.set_cons_zero] at H
    (first | (refine H.wg ?_; clear H; intros; rename_i w H; constructor) | refine wk ?_)
    refine ⟨(by repeat (first | exact trivial | refine ⟨rfl, ?_⟩)), (i + 1, r1), (by repeat (first | exact trivial | refine ⟨rfl, ?_⟩)), ⟨by dsimp only; omega, ?_⟩, by dsimp only; omega⟩
    dsimp only
    rw [ht, hexB_snoc]
    exact H
  · rw [List.take_of_length_le (by omega)] at H hbl2
    obtain ⟨V5, hV5, H, hro⟩ := Rel.freezeF H (fun _ => rfl) (by decide)
    (first | (refine H.wg ?_; clear H; intros; rename_i w H; constructor) | refine wk ?_)
    ((first | refine draw_vc (id := 7) tabOk mixed [] [0, 1, 3, 4, 6, 8, 9, 2, 5, 7, 10, 11, 12, 13] (by kernel_rfl) ?_ | refine draw_vc (id := 9) tabOk mixed [3] [0, 1, 2, 3, 4, 5] (by kernel_rfl) ?_); intro w hdw; replace H := Rel.ext H hdw.ext)
    (first | (refine H.wg ?_; clear H; intros; rename_i w H; constructor) | refine wk ?_)
    refine ⟨58 :: hexB (lowF fl) M, hro.len, byC_map _ ▸ (hro.up H.data).cells, ?_⟩
    (first | (refine H.wg ?_; clear H; intros; rename_i w H; constructor) | refine wk ?_)
    refine (end_spec H.data hf).use ?_
    rintro v w ⟨rfl, K⟩
    (have hKb := K.base; replace H := H.call0 K)
    (first | (refine H.wg ?_; clear H; intros; rename_i w H; constructor) | refine wk ?_)
    refine ⟨by have := (endB_cons fl); unfold endB; split <;> simp only [List.length_cons, List.length_nil] <;> omega, ?_⟩
    (first | (refine H.wg ?_; clear H; intros; rename_i w H; constructor) | refine wk ?_)
    exact Rel.back H.sx
structure WrH (W V : World) (o : Option (List UInt8)) (q : Value) (w' : World) : Prop where
  ex : ∃ (V' : World) (r : Sl), Sub V V' ∧ Rel W V [] V' w' ∧ q = .tuple #[r.v, .bool o.isSome] ∧ ∀ l, o = some l → Byt V' r l ∧ l.length ≤ 1099511627776
set_option maxRecDepth 100000 in
set_option maxHeartbeats 2000000 in
theorem write_spec (hV : Sub V W) {fl : Nat} (hf : fl < 4) {sg sz : Sl} {S : List Seg} {Z : List Nat} (hs : SegsAt V sg S) (hok : segOk S) (hSl : S.length ≤ 600) (hz : SlF itC V sz (ints Z)) (hZl : Z.length ≤ 1000) (hZ : ∀ n ∈ Z, 1 ≤ n ∧ n ≤ 255) :
    Ret Try.prog 72 [sg.v, iv (fl : Int), sz.v].toArray W (WrH W V (hexOut fl S Z)) := by
  have H := Rel.start hV
  have hsl := hs.len
  have hzl := hz.len
  rw [List.length_map] at hzl
  have hd : ∀ x ∈ S, x.2.length ≤ 65536 := fun x hx => by have := hok x hx; omega
  obtain ⟨Z2, hZ2⟩ : ∃ Z2, Z2 = if Z = [] then usual S else Z := ⟨_, rfl⟩
  have hb : Z2.length ≤ 40000000 ∧ ∀ n ∈ Z2, 1 ≤ n ∧ n ≤ 255 := by
    rw [hZ2]
    split
    · have := usual_le hd
      refine ⟨by omega, fun n hn => ?_⟩
      obtain ⟨x, _, hx⟩ := List.mem_flatMap.1 hn
      have := (usualN_sum _ x.2.length (Nat.le_refl _)).2 n hx
      omega
    · exact ⟨by omega, hZ⟩
  obtain ⟨hZ2l, hZ2b⟩ := hb
  refine cal_of_sem tabOk Try.func72 rfl (by kernel_rfl) 71 rfl (by simp) [0, 1, 2, 6, 7, 8, 10, 11, 12, 13, 16, 19, 20, 21, 22, 31, 42] ?_
  refine SemC.seqGo tabOk ?_
  (first | (refine H.wg ?_; clear H; intros; rename_i w H; constructor) | refine wk ?_)
  refine SemC.seqCut tabOk (fun q : Sl => [(0, sg.v), (1, iv (fl : Int)), (2, q.v)]) (fun q w' => ∃ V2, Sub V V2 ∧ Rel W V [] V2 w' ∧ SlF itC V2 q (ints Z2)) ?_ ?_
  · by_cases hz0 : Z.length = 0
    · rw [if_pos (List.eq_nil_of_length_eq_zero hz0)] at hZ2
      (first | (refine H.wg ?_; clear H; intros; rename_i w H; constructor) | refine wk ?_)
      refine (plainSizes_spec H.data hs (by omega) hd).use ?_
      rintro q w ⟨V2, r, hV2, K, rfl, hr⟩
      (have hKb := K.base; replace H := H.call0 K)
      rw [← hZ2] at hr
      (first | (refine H.wg ?_; clear H; intros; rename_i w H; constructor) | refine wk ?_)
      exact ⟨r, (by repeat (first | exact trivial | refine ⟨rfl, ?_⟩)), V2, hV2, H.sx, hr⟩
    · rw [if_neg (fun h => hz0 (by rw [h]; rfl))] at hZ2
      (first | (refine H.wg ?_; clear H; intros; rename_i w H; constructor) | refine wk ?_)
      exact ⟨sz, (by repeat (first | exact trivial | refine ⟨rfl, ?_⟩)), V, Sub.refl _, H.sx, by rw [hZ2]; exact hz⟩
  clear H
  rintro q0 w ⟨V2, hV2, H, hq0⟩
  refine SemC.go tabOk ?_
  obtain ⟨gs, hgs, hpw⟩ := hs
  have hgl := hpw.len
  (first | (refine H.wg ?_; clear H; intros; rename_i w H; constructor) | refine wk ?_)
  refine loop_inv (S := Nat × Sl × List (List UInt8) × List Nat) tabOk [0, 1, 16, 19, 20] (fun q => [(2, q.2.1.v), (8, str (q.2.2.1.flatMap (lineB fl))), (21, iv q.1)]) (fun q w' => q.1 ≤ S.length ∧ wrAll S Z2 = preR q.2.2.1 (wrAll (S.drop q.1) q.2.2.2) ∧ SlF itC V2 q.2.1 (ints q.2.2.2) ∧ q.2.2.1.length + q.2.2.2.length = Z2.length ∧ (∀ r ∈ q.2.2.1, r.length ≤ 260) ∧ (∀ n ∈ q.2.2.2, 1 ≤ n ∧ n ≤ 255) ∧ Rel W V [] V2 w') (fun q _ => S.length - q.1) (0, q0, [], Z2) ?_
  (conv => whnf)
  refine ⟨(by repeat (first | exact trivial | refine ⟨rfl, ?_⟩)), ⟨by omega, by rw [preR_nil]; rfl, hq0, by simp, by simp, hZ2b, H⟩, ?_⟩
  clear H
  rintro ⟨kk, q, rs, Zr⟩ w ⟨hkk, hwr, hq, hln, hr2, hzb, H⟩
  dsimp only at hkk hwr hq hln hr2 hzb H ⊢
  have hql := hq.len
  rw [List.length_map] at hql
  have hll := lines_le fl hr2
  by_cases hlt : kk < S.length
  rotate_left
  · obtain rfl : kk = S.length := by omega
    rw [List.drop_length, wrAll_end] at hwr
    (first | (refine H.wg ?_; clear H; intros; rename_i w H; constructor) | refine wk ?_)
    refine (record_spec H.data hf (a := 0) (by decide) 1 (s := ⟨none, 0, 0⟩) (c := []) (SlF.nil _ _) (by decide)).use ?_
    rintro v w ⟨rfl, K⟩
    (have hKb := K.base; replace H := H.call0 K)
    have hle := (lineB_len fl (mkRec 0 1 [])).2
    rw [mkRec_len, List.length_nil] at hle
    (first | (refine H.wg ?_; clear H; intros; rename_i w H; constructor) | refine wk ?_)
    refine ⟨by rw [show (1 : UInt8).toNat = 1 from rfl]; omega, ?_⟩
    rw [show (1 : UInt8).toNat = 1 from rfl]
    (first | (refine H.wg ?_; clear H; intros; rename_i w H; constructor) | refine wk ?_)
    refine Rel.convSB Try.underlying9 Try.underlying22 Try.underlying5 H _ ?_
    clear H
    intro V3 so w _ hV3 hso H
    (first | (refine H.wg ?_; clear H; intros; rename_i w H; constructor) | refine wk ?_)
    refine ⟨V3, so, hV2.trans hV3, H.sx, ?_, fun l hl => ?_⟩
    · rw [hexOut_eq, ← hZ2, hwr]
      by_cases he : Zr = []
      · rw [if_pos he]
        have h0 : Zr.length = 0 := by rw [he]; rfl
        exact congrArg (fun z => Value.tuple #[so.v, .bool z]) (decide_eq_true (by omega) : _ = true)
      · rw [if_neg he]
        have h0 : Zr.length ≠ 0 := fun h => he (List.eq_nil_of_length_eq_zero h)
        exact congrArg (fun z => Value.tuple #[so.v, .bool z]) (decide_eq_false (by omega) : _ = false)
    · rw [hexOut_eq, ← hZ2, hwr] at hl
      by_cases he : Zr = []
      · rw [if_pos he] at hl
        cases hl
        rw [List.append_nil]
        exact ⟨hso, by rw [List.length_append]; omega⟩
      · rw [if_neg he] at hl
        cases hl
  obtain ⟨p0, c0, c1⟩ := (hgs.up hV2).at2 (g := fun h : Nat × Sl => iv (h.1 : Int)) (g' := fun h : Nat × Sl => h.2.v) (fun _ => rfl) (i := kk) (by omega)
  have hR := hpw.all kk _ _ (List.getElem?_eq_getElem (by omega)) (List.getElem?_eq_getElem hlt)
  obtain ⟨x, hx⟩ : ∃ x, x = gs[kk]'(by omega) := ⟨_, rfl⟩
  obtain ⟨y, hy⟩ : ∃ y, y = S[kk] := ⟨_, rfl⟩
  rw [← hx, ← hy] at hR
  rw [← hx] at c0 c1
  have hyk := hok y (by rw [hy]; exact List.getElem_mem hlt)
  rw [List.drop_eq_getElem_cons hlt, ← hy] at hwr
  obtain ⟨T, hT⟩ : ∃ T, T = S.drop (kk + 1) := ⟨_, rfl⟩
  rw [← hT] at hwr
  obtain ⟨xa, xs⟩ := x
  obtain ⟨ya, yd⟩ := y
  obtain ⟨hxy, hby⟩ := hR
  dsimp only at hby hxy c0 c1 hyk
  subst hxy
  replace hby := hby.up hV2
  (first | (refine H.wh ?_; clear H; intros; rename_i w H; constructor) | refine wk ?_)
  ((first | refine Rel.nwD H ?_ | refine Rel.nw H ?_); clear H; intro w b10 H)
  (first | (refine H.wg ?_; clear H; intros; rename_i w H; constructor) | refine wk ?_)
  ((first | refine draw_vc (id := 7) tabOk mixed [] [0, 1, 2, 3, 4, 5] (by kernel_rfl) ?_ | refine draw_vc (id := 13) tabOk mixed [] [0, 1, 2, 3, 4, 5, 6, 7, 8, 9, 10] (by kernel_rfl) ?_); intro w hdw; replace H := Rel.ext H hdw.ext)
  (first | (refine H.wg ?_; clear H; intros; rename_i w H; constructor) | refine wk ?_)
  refine loop_inv (S := Nat × Sl × List UInt8 × Sl × List (List UInt8) × List Nat) tabOk [0, 1, 10, 16, 19, 20, 21, 22] (fun q => [(2, q.2.2.2.1.v), (8, str (q.2.2.2.2.1.flatMap (lineB fl))), (11, iv (q.1 : Int)), (12, q.2.1.v)]) (fun q w' => wrAll S Z2 = preR q.2.2.2.2.1 (wrAll ((q.1, q.2.2.1) :: T) q.2.2.2.2.2) ∧ Byt V2 q.2.1 q.2.2.1 ∧ q.1 + q.2.2.1.length ≤ 65536 ∧ SlF itC V2 q.2.2.2.1 (ints q.2.2.2.2.2) ∧ q.2.2.2.2.1.length + q.2.2.2.2.2.length = Z2.length ∧ (∀ r ∈ q.2.2.2.2.1, r.length ≤ 260) ∧ (∀ n ∈ q.2.2.2.2.2, 1 ≤ n ∧ n ≤ 255) ∧ Rel W V [.blk b10 [iv (xa : Int), xs.v] 144] V2 w') (fun q _ => q.2.2.1.length) (xa, xs, yd, q, rs, Zr) ?_
  (conv => whnf)
  refine ⟨(by repeat (first | exact trivial | refine ⟨rfl, ?_⟩)), ⟨hwr, hby, by dsimp only; omega, hq, hln, hr2, hzb, H⟩, ?_⟩
  clear H hwr hby hq hln hr2 hzb hql hll hx hy
  clear q rs Zr
  rintro ⟨a, dh, D, q, rs, Zr⟩ w ⟨hwr, hby, hal, hq, hln, hr2, hzb, H⟩
  dsimp only at hwr hby hal hq hln hr2 hzb H ⊢
  have hql := hq.len
  rw [List.length_map] at hql
  have hll := lines_le fl hr2
  have hbl := hby.len
  by_cases hD0 : D.length = 0
  · obtain rfl := List.eq_nil_of_length_eq_zero hD0
    rw [wrAll_done] at hwr
    (first | (refine H.wg ?_; clear H; intros; rename_i w H; constructor) | refine wk ?_)
    exact ⟨(by repeat (first | exact trivial | refine ⟨rfl, ?_⟩)), (kk + 1, q, rs, Zr), (by repeat (first | exact trivial | refine ⟨rfl, ?_⟩)), ⟨by dsimp only; omega, by dsimp only; rw [← hT]; exact hwr, hq, hln, hr2, hzb, H.sx⟩, by dsimp only; omega⟩
  have hD : D ≠ [] := fun h => hD0 (by rw [h]; rfl)
  cases Zr with
  | nil =>
    rw [List.length_nil] at hql
    rw [wrAll_stop T hD] at hwr
    have e0 : hexOut fl S Z = none := by rw [hexOut_eq, ← hZ2, hwr]; rfl
    rw [e0]
    (first | (refine H.wg ?_; clear H; intros; rename_i w H; constructor) | refine wk ?_)
    exact ⟨V2, ⟨none, 0, 0⟩, hV2, H.sx, rfl, by simp⟩
  | cons n Zt =>
    obtain ⟨p1, d0⟩ := hq.at1 (g := iv) (fun _ => rfl) (i := 0) (by simp)
    rw [show (ints (n :: Zt))[0]'(by simp) = (n : Int) from rfl] at d0
    have hzn := hzb n (by simp)
    rw [List.length_cons] at hql hln
    by_cases hnD : n ≤ D.length
    rotate_left
    · rw [wrAll_big T Zt hD (by omega)] at hwr
      have e0 : hexOut fl S Z = none := by rw [hexOut_eq, ← hZ2, hwr]; rfl
      rw [e0]
      (first | (refine H.wg ?_; clear H; intros; rename_i w H; constructor) | refine wk ?_)
      exact ⟨V2, ⟨none, 0, 0⟩, hV2, H.sx, rfl, by simp⟩
    rw [wrAll_step T Zt hD hnD, preR_app] at hwr
    have hbc := hby.cap
    have hqc := hq.cap
    (first | (refine H.wg ?_; clear H; intros; rename_i w H; constructor) | refine wk ?_)
    refine (record_spec H.data hf (a := a) (by omega) 0 (sl_hd hby (n := 1) (fun _ => rfl) hnD) (by rw [List.length_take]; omega)).use ?_
    rintro v w ⟨rfl, K⟩
    (have hKb := K.base; replace H := Rel.call H K)
    simp only [List.nil_append] at H
    rw [show (0 : UInt8).toNat = 0 from rfl]
    have hle := (lineB_len fl (mkRec a 0 (D.take n))).2
    rw [mkRec_len, List.length_take] at hle
    (first | (refine H.wg ?_; clear H; intros; rename_i w H; constructor) | refine wk ?_)
    ((first | refine draw_vc (id := 7) tabOk mixed [] [0, 1, 2, 3, 4, 5] (by kernel_rfl) ?_ | refine draw_vc (id := 13) tabOk mixed [] [0, 1, 2, 3, 4, 5, 6, 7, 8, 9, 10] (by kernel_rfl) ?_); intro w hdw; replace H := Rel.ext H hdw.ext)
    (first | (refine H.wg ?_; clear H; intros; rename_i w H; constructor) | refine wk ?_)
    rw [show rs.flatMap (lineB fl) ++ lineB fl (mkRec a 0 (D.take n)) = (rs ++ [mkRec a 0 (D.take n)]).flatMap (lineB fl) by simp]
    exact ⟨(by repeat (first | exact trivial | refine ⟨rfl, ?_⟩)), (a + n, _, D.drop n, _, rs ++ [mkRec a 0 (D.take n)], Zt), (by repeat (first | exact trivial | refine ⟨rfl, ?_⟩)), ⟨hwr, sl_tl hby (n := 1) (fun _ => rfl) hnD, by dsimp only; rw [List.length_drop]; omega, sl_tl hq (n := 1) (fun _ => rfl) (k := 1) (by simp), by simp; omega, fun r hr => by
      rcases List.mem_append.1 hr with hr | hr
      · exact hr2 r hr
      · rw [List.mem_singleton.1 hr, mkRec_len, List.length_take]; omega, fun m hm => hzb m (by simp [hm]), H.sx⟩, by dsimp only; rw [List.length_drop]; omega⟩
end
end Go.Proofs.Ytjfcpnlacodjjaa
