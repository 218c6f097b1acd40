/-
  Pictures, the reference: the file of a value.
-/
import Derived.Test.YtgnaojphgdaalaaGreatPicD
import Derived.Test.YtgnaojphgdaalaaGreatPicX
namespace Go.Proofs.YtgnaojphgdaalaaGreat
open Go Go.RowKit

theorem drop_zz {l : List UInt8} {k : Nat} (h : k < l.length) : l.drop k = z8 l k :: l.drop (k + 1) := by
  rw [List.drop_eq_getElem_cons h]
  simp [z8, h]
theorem sub3 {l : List UInt8} {k : Nat} (h : k + 3 ≤ l.length) : (l.take (k + 3)).drop k = [z8 l k, z8 l (k + 1), z8 l (k + 2)] := by
  rw [List.drop_take, drop_zz (show k < l.length by omega), drop_zz (show k + 1 < l.length by omega), drop_zz (show k + 1 + 1 < l.length by omega), show k + 3 - k = 3 by omega]
  rfl
theorem flatten_le {m : Nat} : ∀ {R : List (List UInt8)}, (∀ q ∈ R, q.length ≤ m) → R.flatten.length ≤ R.length * m
  | [], _ => by simp
  | r :: R, h => by
    have := flatten_le (R := R) fun q hq => h q (by simp [hq])
    have := h r (by simp)
    rw [List.flatten_cons, List.length_append, List.length_cons, Nat.succ_mul]
    omega
theorem len_cells2 {n : Nat} (hn : n < 65536) : [Value.int .u8 (wr .u8 ((n : Int) / 256)), Value.int .u8 (wr .u8 ((n : Int) % 256))] = [UInt8.ofNat (n / 256), UInt8.ofNat n].flatMap byC := by
  rw [← len_cells hn]
  have : wr .u8 ((n : Int) % 256) = wr .u8 (n : Int) := by
    show (n : Int) % 256 % 256 = (n : Int) % 256
    omega
  rw [this]
theorem shl_b {x sh : Nat} (h : sh ≤ 8) : ((x : Nat) : Int) * 2 ^ min ((sh : Nat) : Int).toNat IntKind.u8.bits = ((x * 2 ^ sh : Nat) : Int) := by
  have e : min ((sh : Nat) : Int).toNat IntKind.u8.bits = sh := by
    show min ((sh : Nat) : Int).toNat 8 = sh
    rw [Int.toNat_natCast]
    omega
  rw [e, Int.natCast_mul, Int.natCast_pow]
  rfl
theorem add_b {a b : Nat} (h : a + b < 256) : Value.int .u8 (wr .u8 ((a : Int) + wr .u8 (b : Int))) = bv (UInt8.ofNat (a + b)) := by
  rw [bv_nat h]
  congr 1
  show ((a : Int) + (b : Int) % 256) % 256 = _
  omega
theorem z8_row {px : List UInt8} {a s i : Nat} (hi : i < s) : z8 ((px.drop (a * s)).take s) i = z8 px (a * s + i) := by
  unfold z8
  rw [List.getElem?_take, if_pos hi, List.getElem?_drop]
theorem posC_take {pal : List Col} (hnd : pal.Nodup) {c : Col} {j : Nat} (hj : j < pal.length) : (if c ∈ pal.take (j + 1) then (posC pal c : Int) else -1) = if pal[j] = c then (j : Int) else if c ∈ pal.take j then (posC pal c : Int) else -1 := by
  have e : pal.take (j + 1) = pal.take j ++ [pal[j]] := List.take_succ_eq_append_getElem hj
  by_cases hc : pal[j] = c
  · have hm : c ∈ pal.take (j + 1) := by rw [e, List.mem_append, List.mem_singleton]; exact .inr hc.symm
    rw [if_pos hc, if_pos hm, posC_at hnd (i := j) (c := c) (by rw [List.getElem?_eq_getElem hj, hc])]
  · rw [if_neg hc]
    by_cases hm : c ∈ pal.take j
    · have hm' : c ∈ pal.take (j + 1) := by rw [e]; exact List.mem_append_left _ hm
      rw [if_pos hm, if_pos hm']
    · have hm' : c ∉ pal.take (j + 1) := by rw [e]; simp only [List.mem_append, List.mem_singleton, not_or]; exact ⟨hm, fun q => hc q.symm⟩
      rw [if_neg hm, if_neg hm']
theorem pct_bad {v : Val} {b : List UInt8} {f w h : Nat} {pal : List Col} {px r : List UInt8} {x : Nat} (hv : (vfault v).1 = 0) (hs : picShape v = some (w, h, px)) (hr : picRd b = some (f, pal)) (hm : r ∈ rowsN (3 * w) h px) (hx : x < w) (hno : ¬ numOk f pal r x) : picMake v b = none := by
  rw [picMake_eq hv hs hr]
  rcases wr_bad hx hno with e | e
  · have : picWrite f pal w h px = none := by
      unfold picWrite picStore
      rw [allM_none (mem_turn.2 hm) e]
    rw [this]
  · cases picWrite f pal w h px with
    | none => rfl
    | some o => simp only; rw [if_neg fun q => e (q.2 r hm)]
theorem pct_good {v : Val} {b : List UInt8} {f w h : Nat} {pal : List Col} {px : List UInt8} {R : List (List UInt8)} (hv : (vfault v).1 = 0) (hs : picShape v = some (w, h, px)) (hr : picRd b = some (f, pal)) (hR : allM (wrRow f pal w) (turn f (rowsN (3 * w) h px)) = some R) (hg : ∀ r ∈ turn f (rowsN (3 * w) h px), grayOk f w r) {o : List UInt8} (ho : o = picOut f pal w h (if f / 2 % 2 = 1 then packB R.flatten else R.flatten)) : picMake v b = if o.length ≤ 1000 then some o else none := by
  have e : picWrite f pal w h px = some o := by
    unfold picWrite picStore
    rw [hR]
    simp only
    rw [ho]
  rw [picMake_eq hv hs hr, e]
  simp only
  by_cases hl : o.length ≤ 1000
  · rw [if_pos hl, if_pos ⟨hl, fun r hr => hg r (mem_turn.2 hr)⟩]
  · rw [if_neg hl, if_neg fun q => hl q.1]
theorem bit_lt {n N w x k size : Nat} (hk : k < n) (hx : x < w) (hs : w * n ≤ 8 * size) : (x * n + (n - 1 - k)) / 8 < size := by
  have : (x + 1) * n ≤ w * n := Nat.mul_le_mul_right n hx
  rw [Nat.add_mul, Nat.one_mul] at this
  omega
section
variable {V W : World}
/- the bits of one pixel -/
set_option maxRecDepth 100000 in
set_option maxHeartbeats 40000000 in
theorem pctFile_g (hV : Sub V W) {h : VH} {v : Val} (hv : ValAt V h v) (hB : VB 1048576 v) (hvf : (vfault v).1 = 0) (hsh : (picShape v).isSome = true) {s : Sl} {b : List UInt8} (hs : Byt V s b) (hl : b.length ≤ 100000000) : Ret Tryz.prog 9 [valV h, s.v].toArray W (FrG W V (picMake v b)) := by
  have H := Rel.start hV
  have hlen := hs.len
  have hcap := hs.cap
  have hplen := hv.plen
  obtain ⟨⟨wd, ht, px⟩, hsh⟩ := Option.isSome_iff_exists.1 hsh
  obtain ⟨hve, ⟨w1, w2⟩, ⟨h1, h2⟩, hpx⟩ := picShape_some hvf hsh
  have hpx4 : px.length = ht * (3 * wd) := by rw [hpx, Nat.mul_comm]
  subst hve
  obtain ⟨pp, x0, q0, _, c01, _⟩ := hv.part5 (i := 0) (by show 0 < 3; omega)
  obtain ⟨_, x1, q1, _, c11, _⟩ := hv.part5 (i := 1) (by show 1 < 3; omega)
  obtain ⟨_, x2, q2, _, _, c22, _⟩ := hv.part5 (i := 2) (by show 2 < 3; omega)
  have e0 : x0.n = (wd : Int) := q0.num
  have e1 : x1.n = (ht : Int) := q1.num
  have hpxs : Byt V x2.bs px := q2.bytes
  have hpxl := hpxs.len
  have hpxc := hpxs.cap
  rw [e0] at c01
  rw [e1] at c11
  have hplen : h.pl.len = 3 := hplen
  obtain ⟨hh, hhe⟩ : ∃ hh, hh = h := ⟨_, rfl⟩
  rw [← hhe] at pp c01 c11 c22 hplen
  rw [← hhe]
  refine cal_of_sem tabOk Tryz.func9 rfl (by kernel_rfl) 223 rfl (by simp) [0, 1, 2, 4, 5, 6, 7, 8, 9, 10, 11, 12, 13, 14, 15, 16, 17, 18, 19, 22, 36, 51, 58, 70, 106, 122, 128, 133, 143, 147, 151, 186] ?_
  refine SemC.seqGo tabOk ?_
  (first | (refine H.wh ?_; clear H; intros; rename_i w H; constructor) | refine wk ?_)
  ((first | refine Rel.nwD H ?_ | refine Rel.nw H ?_); clear H; intro w b2 H)
  (first | (refine H.wg ?_; clear H; intros; rename_i w H; constructor) | refine wk ?_)
  refine SemC.seqGo tabOk ?_
  (first | (refine H.wg ?_; clear H; intros; rename_i w H; constructor) | refine wk ?_)
  refine (pctGood_g H.data hs (by omega)).use ?_
  rintro q w ⟨rfl, K⟩
  (have hKb := K.base; replace H := H.call0 K)
  cases hr : picRd b with
  | none =>
    have e1 : (picLoss b).isSome = false := by unfold picLoss; rw [hr]; rfl
    rw [e1]
    rw [(show picMake (picVal wd ht px) b = none by unfold picMake; rw [hsh, hr])]
    (first | (refine H.wg ?_; clear H; intros; rename_i w H; constructor) | refine wk ?_)
    exact ⟨V, ⟨none, 0, 0⟩, [], false, Sub.refl _, H.sx, rfl, SlF.nil _ _, rfl⟩
  | some y =>
  obtain ⟨f, pal⟩ := y
  have e1' : (picLoss b).isSome = true := by unfold picLoss; rw [hr]; rfl
  obtain ⟨hbe, hfo, hpo⟩ := picRd_some hr
  rw [e1']
  (first | (refine H.wg ?_; clear H; intros; rename_i w H; constructor) | refine wk ?_)
  refine SemC.seqGo tabOk ?_
  ((first | refine draw_vc (id := 3) tabOk mixed [11] [0, 1, 2, 3, 4, 5, 6, 7, 8, 9, 10, 11, 12] (by kernel_rfl) ?_ | refine draw_vc (id := 21) tabOk mixed [] [0, 1, 2, 3, 4, 5, 6, 7, 8, 9, 10, 11, 12, 13, 14, 15, 16] (by kernel_rfl) ?_ | refine draw_vc (id := 23) tabOk mixed [] [0, 1, 2, 3, 4, 5, 6, 7, 8, 9, 10, 11, 12, 13, 14, 15] (by kernel_rfl) ?_); intro w hdw; replace H := Rel.ext H hdw.ext)
  (first | (refine H.wh ?_; clear H; intros; rename_i w H; constructor) | refine wk ?_)
  ((first | refine Rel.nwD H ?_ | refine Rel.nw H ?_); clear H; intro w b6 H)
  (first | (refine H.wg ?_; clear H; intros; rename_i w H; constructor) | refine wk ?_)
  refine SemC.seqCut tabOk (fun _ : Unit => [(0, valV hh), (1, s.v), (2, .pointer (some ⟨b2, 0, none⟩)), (6, .pointer (some ⟨b6, 0, none⟩))])
    (fun _ w' => ∃ rp, Rel W V [.blk b6 (picC f wd ht rp) 66, .blk b2 (valC hh) 26] V w' ∧ Byt V rp (styB f pal)) ?_ ?_
  · have hf63 : f < 64 := hfo.1
    unfold picRes at hbe
    by_cases h48 : f = 48
    · rw [if_pos h48] at hbe
      subst hbe
      subst h48
      rw [List.length_nil] at hlen
      (first | (refine H.wg ?_; clear H; intros; rename_i w H; constructor) | refine wk ?_)
      exact ⟨(), (by repeat (first | exact trivial | refine ⟨rfl, ?_⟩)), ⟨none, 0, 0⟩, H.sx, SlF.nil _ _⟩
    · rw [if_neg h48] at hbe
      subst hbe
      obtain ⟨p0, c0⟩ := hs.at1 (g := bv) (fun _ => rfl) (i := 0) (by simp)
      rw [List.getElem_cons_zero, bv_nat (by have := hfo.1; omega)] at c0
      rw [List.length_cons] at hlen
      have htl := hs.rest (k := 1) (by simp)
      rw [List.drop_one, List.tail_cons] at htl
      (first | (refine H.wg ?_; clear H; intros; rename_i w H; constructor) | refine wk ?_)
      exact ⟨(), (by repeat (first | exact trivial | refine ⟨rfl, ?_⟩)), _, H.sx, htl⟩
  clear H
  rintro _ w ⟨rp, H, hrp⟩
  unfold flagOk at hfo
  refine SemC.seqGo tabOk ?_
  (first | (refine H.wg ?_; clear H; intros; rename_i w H; constructor) | refine wk ?_)
  refine (pixelBits_ref H.data hfo.1).use ?_
  rintro q w ⟨rfl, K⟩
  (have hKb := K.base; replace H := H.call0 K)
  obtain ⟨B0, hB0⟩ : ∃ B0, B0 = bitsOf f := ⟨_, rfl⟩
  obtain ⟨S, hS⟩ : ∃ S, S = rowOf f wd := ⟨_, rfl⟩
  have hbl := bitsOf_le f
  rw [← hB0] at hbl
  have hB24 := hbl.2
  have hwb : wd * B0 ≤ 64 * 24 := Nat.mul_le_mul (by omega) hB24
  have hwS : wd * B0 ≤ 8 * S := by rw [hS, hB0]; unfold rowOf; omega
  have hS192 : S ≤ 192 := by rw [hS]; unfold rowOf; rw [← hB0]; omega
  rw [← hB0]
  (first | (refine H.wg ?_; clear H; intros; rename_i w H; constructor) | refine wk ?_)
  refine SemC.seqGo tabOk ?_
  (first | (refine H.wg ?_; clear H; intros; rename_i w H; constructor) | refine wk ?_)
  replace H := H.rowNil 5 1
  refine SemC.seqGo tabOk ?_
  (first | (refine H.wg ?_; clear H; intros; rename_i w H; constructor) | refine wk ?_)
  have hLl : (turn f (rowsN (3 * wd) ht px)).length = ht := by rw [turn_len, rowsN_len]
  refine loop_inv (S := Nat × Sl) tabOk [0, 1, 2, 6, 7, 19, 22, 36, 186] (fun k => [(8, k.2.v), (9, iv k.1)]) (fun k w' => ∃ R, k.1 ≤ ht ∧ allM (wrRow f pal wd) ((turn f (rowsN (3 * wd) ht px)).take k.1) = some R ∧ (∀ q ∈ (turn f (rowsN (3 * wd) ht px)).take k.1, grayOk f wd q) ∧ Rel W V [.row k.2 5 1 (R.flatten.flatMap byC), .blk b6 (picC f wd ht rp) 66, .blk b2 (valC hh) 26] V w') (fun k _ => ht - k.1) (0, ⟨none, 0, 0⟩) ?_
  (conv => whnf)
  refine ⟨(by repeat (first | exact trivial | refine ⟨rfl, ?_⟩)), ⟨[], by omega, rfl, by simp, H.sx⟩, ?_⟩
  clear H
  rintro ⟨y, rr⟩ w ⟨R, hy, hF, hG, H⟩
  dsimp only at hy hF hG H ⊢
  have hRl : R.length ≤ 64 ∧ R.flatten.length ≤ 64 * 200 := by
    obtain ⟨a1, a2⟩ := allM_some hF
    rw [List.length_take, hLl] at a1
    have : R.flatten.length ≤ R.length * 200 := flatten_le fun q hq => by
      obtain ⟨i, hi, rfl⟩ := List.mem_iff_getElem.1 hq
      have hi2 : i < ((turn f (rowsN (3 * wd) ht px)).take y).length := by rw [List.length_take, hLl]; omega
      exact wrRow_len w2 (rowsN_mem hpx4 (mem_turn.1 (List.mem_of_mem_take (List.getElem_mem hi2)))) (a2 i _ _ (List.getElem?_eq_getElem hi2) (List.getElem?_eq_getElem hi))
    have h64 : R.length ≤ 64 := by omega
    exact ⟨h64, Nat.le_trans this (Nat.mul_le_mul_right 200 h64)⟩
  by_cases hlt : y < ht
  · obtain ⟨a, ha, hae, hget⟩ := turnN_get (f := f) (s := 3 * wd) (d := px) hlt
    obtain ⟨r, hre⟩ : ∃ r, r = (px.drop (a * (3 * wd))).take (3 * wd) := ⟨_, rfl⟩
    rw [← hre] at hget
    have hyl : y < (turn f (rowsN (3 * wd) ht px)).length := by omega
    have hget2 : (turn f (rowsN (3 * wd) ht px))[y] = r := by
      rw [List.getElem?_eq_getElem hyl] at hget
      exact Option.some.inj hget
    have hrm : r ∈ rowsN (3 * wd) ht px := mem_turn.1 (List.mem_of_getElem? hget)
    have hrl : r.length = 3 * wd := rowsN_mem hpx4 hrm
    obtain ⟨m, hm⟩ : ∃ m, m = a * wd := ⟨_, rfl⟩
    have hax : (a : Int) * (wd : Int) = (m : Int) := by rw [hm]; exact (Int.natCast_mul _ _).symm
    have hml : m ≤ 64 * 64 := by rw [hm]; exact Nat.mul_le_mul (by omega) w2
    by_cases hup : f % 2 = 1
    · rw [if_pos hup] at hae
      replace hae := hae.symm
      (first | (refine H.wg ?_; clear H; intros; rename_i w H; constructor) | refine wk ?_)
      rw [hae]
      (first | (refine H.wg ?_; clear H; intros; rename_i w H; constructor) | refine wk ?_)
      refine (rowSize_ref H.data hfo.1 w2 _ _).use ?_
      rintro q w ⟨rfl, K⟩
      (have hKb := K.base; replace H := H.call0 K)
      rw [← hS]
      (first | (refine H.wg ?_; clear H; intros; rename_i w H; constructor) | refine wk ?_)
      refine sem_make tabOk rfl rfl rfl rfl rfl rfl (by omega) (by simp; omega) (by omega) fun w b11 hnb => ?_
      replace H := H.newBlk hnb
      clear hnb
      simp only [Int.toNat_natCast] at H ⊢
      rw [← rowG_zero B0 (numP f pal r)] at H
      replace H := H.toRow (n := S) (e := 5) (sz := 1) (by simp [byC_map, rowG_len]) (by simp only [maxLen]; omega)
      (first | (refine H.wg ?_; clear H; intros; rename_i w H; constructor) | refine wk ?_)
      refine loop_inv (S := Nat) tabOk [0, 1, 2, 6, 7, 8, 9, 10, 11, 19, 22, 36, 51, 58, 186] (fun x => [(12, iv x)]) (fun x w' => x ≤ wd ∧ (∀ x', x' < x → numOk f pal r x') ∧ Rel W V [.row ⟨some ⟨b11, 0, none⟩, S, S⟩ 5 1 ((rowG (gAt B0 (numP f pal r) x 0) S).flatMap byC), .row rr 5 1 (R.flatten.flatMap byC), .blk b6 (picC f wd ht rp) 66, .blk b2 (valC hh) 26] V w') (fun x _ => wd - x) 0 ?_
      (conv => whnf)
      refine ⟨(by repeat (first | exact trivial | refine ⟨rfl, ?_⟩)), ⟨by omega, fun x' hx' => by omega, H.sx⟩, ?_⟩
      clear H
      rintro x w ⟨hx, hok, H⟩
      dsimp only at hx hok H ⊢
      by_cases hxl : x < wd
      · obtain ⟨KK, hK⟩ : ∃ KK, KK = 3 * (m + x) := ⟨_, rfl⟩
        have hK3 : KK + 3 ≤ px.length := by
          have : a * (3 * wd) + 3 * wd ≤ px.length := by
            rw [hpx4]
            have := Nat.mul_le_mul_right (3 * wd) ha
            rw [Nat.succ_mul] at this
            exact this
          rw [Nat.mul_left_comm, ← hm] at this
          omega
        have tc := SlF.sub hpxs (n := 1) (fun _ => rfl) (a := KK) (b := KK + 3) (by omega) hK3
        rw [sub3 hK3] at tc
        have hcol : ∀ i, i < 3 → z8 px (KK + i) = z8 r (3 * x + i) := fun i hi => by
          rw [hre, z8_row (by omega), hK, hm]
          congr 1
          rw [Nat.mul_left_comm a 3 wd]
          omega
        have hc0 := hcol 0 (by decide)
        have hc1' := hcol 1 (by decide)
        have hc2' := hcol 2 (by decide)
        rw [Nat.add_zero, Nat.add_zero] at hc0
        rw [hc0, hc1', hc2'] at tc
        obtain ⟨pc, c0⟩ := tc.at1 (g := bv) (fun _ => rfl) (i := 0) (by simp)
        obtain ⟨_, c1⟩ := tc.at1 (g := bv) (fun _ => rfl) (i := 1) (by simp)
        obtain ⟨_, c2⟩ := tc.at1 (g := bv) (fun _ => rfl) (i := 2) (by simp)
        simp only [List.getElem_cons_zero, List.getElem_cons_succ] at c0 c1 c2
        obtain ⟨y0, hy0⟩ : ∃ y, y = z8 r (3 * x) := ⟨_, rfl⟩
        obtain ⟨y1, hy1⟩ : ∃ y, y = z8 r (3 * x + 1) := ⟨_, rfl⟩
        obtain ⟨y2, hy2⟩ : ∃ y, y = z8 r (3 * x + 2) := ⟨_, rfl⟩
        rw [← hy0] at c0 tc
        rw [← hy1] at c1 tc
        rw [← hy2] at c2 tc
        have l0 := y0.toNat_lt
        have l1 := y1.toNat_lt
        have l2 := y2.toNat_lt
        have hNe : numP f pal r x = if f / 16 = 3 then 65536 * y0.toNat + 256 * y1.toNat + y2.toNat else if f / 16 = 2 then y0.toNat else posC pal (y0, y1, y2) := by unfold numP; rw [← hy0, ← hy1, ← hy2]; unfold colAt; rw [← hy0, ← hy1, ← hy2]
        have hOe : numOk f pal r x ↔ (if f / 16 = 3 then True else if f / 16 = 2 then y0 = y1 ∧ y0 = y2 else (y0, y1, y2) ∈ pal) := by unfold numOk; rw [← hy0, ← hy1, ← hy2]; unfold colAt; rw [← hy0, ← hy1, ← hy2]
        (first | (refine H.wg ?_; clear H; intros; rename_i w H; constructor) | refine wk ?_)
        rw [hax]
        (first | (refine H.wg ?_; clear H; intros; rename_i w H; constructor) | refine wk ?_)
        rw [show 3 * ((m : Int) + (x : Int)) = (KK : Int) by rw [hK]; omega]
        (first | (refine H.wg ?_; clear H; intros; rename_i w H; constructor) | refine wk ?_)
        rw [show (KK : Int) + 3 = ((KK + 3 : Nat) : Int) by omega]
        (first | (refine H.wg ?_; clear H; intros; rename_i w H; constructor) | refine wk ?_)
        ((first | refine draw_vc (id := 3) tabOk mixed [11] [0, 1, 2, 3, 4, 5, 6, 7, 8, 9, 10, 11, 12] (by kernel_rfl) ?_ | refine draw_vc (id := 21) tabOk mixed [] [0, 1, 2, 3, 4, 5, 6, 7, 8, 9, 10, 11, 12, 13, 14, 15, 16] (by kernel_rfl) ?_ | refine draw_vc (id := 23) tabOk mixed [] [0, 1, 2, 3, 4, 5, 6, 7, 8, 9, 10, 11, 12, 13, 14, 15] (by kernel_rfl) ?_); intro w hdw; replace H := Rel.ext H hdw.ext)
        (first | (refine H.wg ?_; clear H; intros; rename_i w H; constructor) | refine wk ?_)
        by_cases h3 : f / 16 = 3
        · have hB := bits_3 h3
          rw [if_pos h3] at hNe hOe
          have hNI : numP f pal r x < 16777216 := by omega
          (first | (refine H.wg ?_; clear H; intros; rename_i w H; constructor) | refine wk ?_)
          (first | (refine H.wg ?_; clear H; intros; rename_i w H; constructor) | refine wk ?_)
          refine loop_inv (S := Nat) tabOk [0, 1, 2, 4, 5, 6, 7, 8, 9, 10, 11, 12, 13, 14, 16, 19, 22, 36, 51, 58, 70, 106, 122, 128, 133, 143, 147, 186] (fun k => [(15, iv ((numP f pal r x / 2 ^ k : Nat) : Int)), (17, iv ((B0 : Int) - 1 - (k : Int)))]) (fun k w' => k ≤ B0 ∧ Rel W V [.row ⟨some ⟨b11, 0, none⟩, S, S⟩ 5 1 ((rowG (gAt B0 (numP f pal r) x k) S).flatMap byC), .row rr 5 1 (R.flatten.flatMap byC), .blk b6 (picC f wd ht rp) 66, .blk b2 (valC hh) 26] V w') (fun k _ => B0 - k) 0 ?_
          (conv => whnf)
          refine ⟨⟨(congrArg (fun z => some (iv z)) (by rw [Nat.pow_zero, Nat.div_one, hNe]; omega)), congrArg (fun z => some (iv z)) (by omega), trivial⟩, ⟨by omega, H⟩, ?_⟩
          clear H
          rintro k w ⟨hk, H⟩
          dsimp only at hk H ⊢
          by_cases hkl : k < B0
          · obtain ⟨g0, gs⟩ := gAt_step (numP f pal r) (x := x) hkl
            obtain ⟨t, hte⟩ : ∃ t, t = x * B0 + (B0 - 1 - k) := ⟨_, rfl⟩
            obtain ⟨z, hz⟩ : ∃ z, z = numP f pal r x / 2 ^ k := ⟨_, rfl⟩
            rw [← hte] at g0 gs
            rw [← hz] at gs ⊢
            have hxB : (x : Int) * (B0 : Int) = ((x * B0 : Nat) : Int) := (Int.natCast_mul _ _).symm
            have hx24 : x * B0 ≤ 64 * 24 := Nat.mul_le_mul (by omega) hB24
            have htS : t / 8 < S := by rw [hte]; exact bit_lt (N := 0) hkl hxl hwS
            obtain ⟨_, hlt256, _⟩ := bytG_step (gAt_lt _ _ _ _) g0 (Nat.mod_lt _ (by decide)) gs
            have hst := rowG_step (size := S) (gAt_lt _ _ _ _) g0 (Nat.mod_lt _ (by decide)) gs htS
            obtain ⟨a0, ha0⟩ : ∃ a0, a0 = bytG (gAt B0 (numP f pal r) x k) (t / 8) := ⟨_, rfl⟩
            rw [← ha0] at hlt256 hst
            have hzI : I64 (z : Int) := by
              have : z ≤ numP f pal r x := by rw [hz]; exact Nat.div_le_self _ _
              constructor <;> omega
            (first | (refine H.wg ?_; clear H; intros; rename_i w H; constructor) | refine wk ?_)
            rw [hxB]
            rw [show ((x * B0 : Nat) : Int) + ((B0 : Int) - 1 - (k : Int)) = (t : Int) by rw [hte]; omega]
            (first | (refine H.wg ?_; clear H; intros; rename_i w H; constructor) | refine wk ?_)
            have S5 := H.slfAt (i := 0) rfl (fun _ => rfl) (by decide)
            obtain ⟨p9, c9⟩ := z8_cell S5 (i := t / 8) (by rw [rowG_len]; exact htS)
            rw [rowG_get htS, ← ha0, bv_nat (by omega)] at c9
            have hsh2 : (z % 2) * 2 ^ (7 - t % 8) < 256 := by omega
            (first | (refine H.wg ?_; clear H; intros; rename_i w H; constructor) | refine wk ?_)
            rw [show wr .u8 ((z : Int) % 2) = ((z % 2 : Nat) : Int) by show (z : Int) % 2 % 256 = _; omega]
            rw [show wr .u64 (7 - (t : Int) % 8) = ((7 - t % 8 : Nat) : Int) by show (7 - (t : Int) % 8) % 18446744073709551616 = _; omega]
            refine ⟨⟨by omega, by omega⟩, ?_⟩
            rw [shl_b (x := z % 2) (sh := 7 - t % 8) (by omega)]
            (first | (refine H.wg ?_; clear H; intros; rename_i w H; constructor) | refine wk ?_)
            refine Rel.stRow (i := 0) H rfl (t / 8) htS rfl (by
              rw [show ((t : Int) / 8).toNat = t / 8 by omega]
              rfl) ?_
            clear H
            intro w H
            simp only [List.set_cons_zero] at H
            rw [add_b hlt256, byC_set, ← hst] at H
            (first | (refine H.wg ?_; clear H; intros; rename_i w H; constructor) | refine wk ?_)
            refine ⟨(by repeat (first | exact trivial | refine ⟨rfl, ?_⟩)), k + 1, ⟨congrArg (fun z => some (iv z)) (by rw [Nat.pow_succ, ← Nat.div_div_eq_div_mul, ← hz]; omega), congrArg (fun z => some (iv z)) (by omega), trivial⟩, ⟨by omega, H⟩, by omega⟩
          · obtain rfl : k = B0 := by omega
            rw [gAt_next] at H
            (first | (refine H.wg ?_; clear H; intros; rename_i w H; constructor) | refine wk ?_)
            refine ⟨(by repeat (first | exact trivial | refine ⟨rfl, ?_⟩)), x + 1, (by repeat (first | exact trivial | refine ⟨rfl, ?_⟩)), ⟨by omega, fun x' hx' => ?_, H.sx⟩, by omega⟩
            by_cases e2 : x' = x
            · rw [e2]; exact (hOe.2 trivial)
            · exact hok x' (by omega)
        rw [if_neg h3] at hNe hOe
        by_cases h2' : f / 16 = 2
        · have hB := bits_2 h2'
          rw [if_pos h2'] at hNe hOe
          have hNI : numP f pal r x < 16777216 := by omega
          (first | (refine H.wg ?_; clear H; intros; rename_i w H; constructor) | refine wk ?_)
          ((first | refine draw_vc (id := 3) tabOk mixed [11] [0, 1, 2, 3, 4, 5, 6, 7, 8, 9, 10, 11, 12] (by kernel_rfl) ?_ | refine draw_vc (id := 21) tabOk mixed [] [0, 1, 2, 3, 4, 5, 6, 7, 8, 9, 10, 11, 12, 13, 14, 15, 16] (by kernel_rfl) ?_ | refine draw_vc (id := 23) tabOk mixed [] [0, 1, 2, 3, 4, 5, 6, 7, 8, 9, 10, 11, 12, 13, 14, 15] (by kernel_rfl) ?_); intro w hdw; replace H := Rel.ext H hdw.ext)
          (first | (refine H.wg ?_; clear H; intros; rename_i w H; constructor) | refine wk ?_)
          by_cases hg : y0 = y1 ∧ y0 = y2
          rotate_left
          · have hno : ¬ numOk f pal r x := fun q => hg (hOe.1 q)
            have hb := pct_bad hvf hsh hr hrm hxl hno
            by_cases hg1 : y0 = y1
            · have : y0.toNat ≠ y2.toNat := fun e => hg ⟨hg1, UInt8.toNat_inj.1 e⟩
              have e1 : y0.toNat = y1.toNat := by rw [hg1]
              rw [hb]
              (first | (refine H.wg ?_; clear H; intros; rename_i w H; constructor) | refine wk ?_)
              exact ⟨V, ⟨none, 0, 0⟩, [], false, Sub.refl _, H.sx, rfl, SlF.nil _ _, rfl⟩
            · have : y0.toNat ≠ y1.toNat := fun e => hg1 (UInt8.toNat_inj.1 e)
              rw [hb]
              (first | (refine H.wg ?_; clear H; intros; rename_i w H; constructor) | refine wk ?_)
              exact ⟨V, ⟨none, 0, 0⟩, [], false, Sub.refl _, H.sx, rfl, SlF.nil _ _, rfl⟩
          obtain ⟨hg1, hg2⟩ := hg
          have e1 : y0.toNat = y1.toNat := by rw [hg1]
          have e2 : y0.toNat = y2.toNat := by rw [hg2]
          (first | (refine H.wg ?_; clear H; intros; rename_i w H; constructor) | refine wk ?_)
          (first | (refine H.wg ?_; clear H; intros; rename_i w H; constructor) | refine wk ?_)
          refine loop_inv (S := Nat) tabOk [0, 1, 2, 4, 5, 6, 7, 8, 9, 10, 11, 12, 13, 14, 16, 19, 22, 36, 51, 58, 70, 106, 122, 128, 133, 143, 147, 186] (fun k => [(15, iv ((numP f pal r x / 2 ^ k : Nat) : Int)), (17, iv ((B0 : Int) - 1 - (k : Int)))]) (fun k w' => k ≤ B0 ∧ Rel W V [.row ⟨some ⟨b11, 0, none⟩, S, S⟩ 5 1 ((rowG (gAt B0 (numP f pal r) x k) S).flatMap byC), .row rr 5 1 (R.flatten.flatMap byC), .blk b6 (picC f wd ht rp) 66, .blk b2 (valC hh) 26] V w') (fun k _ => B0 - k) 0 ?_
          (conv => whnf)
          refine ⟨⟨(congrArg (fun z => some (iv z)) (by rw [Nat.pow_zero, Nat.div_one, hNe])), congrArg (fun z => some (iv z)) (by omega), trivial⟩, ⟨by omega, H⟩, ?_⟩
          clear H
          rintro k w ⟨hk, H⟩
          dsimp only at hk H ⊢
          by_cases hkl : k < B0
          · obtain ⟨g0, gs⟩ := gAt_step (numP f pal r) (x := x) hkl
            obtain ⟨t, hte⟩ : ∃ t, t = x * B0 + (B0 - 1 - k) := ⟨_, rfl⟩
            obtain ⟨z, hz⟩ : ∃ z, z = numP f pal r x / 2 ^ k := ⟨_, rfl⟩
            rw [← hte] at g0 gs
            rw [← hz] at gs ⊢
            have hxB : (x : Int) * (B0 : Int) = ((x * B0 : Nat) : Int) := (Int.natCast_mul _ _).symm
            have hx24 : x * B0 ≤ 64 * 24 := Nat.mul_le_mul (by omega) hB24
            have htS : t / 8 < S := by rw [hte]; exact bit_lt (N := 0) hkl hxl hwS
            obtain ⟨_, hlt256, _⟩ := bytG_step (gAt_lt _ _ _ _) g0 (Nat.mod_lt _ (by decide)) gs
            have hst := rowG_step (size := S) (gAt_lt _ _ _ _) g0 (Nat.mod_lt _ (by decide)) gs htS
            obtain ⟨a0, ha0⟩ : ∃ a0, a0 = bytG (gAt B0 (numP f pal r) x k) (t / 8) := ⟨_, rfl⟩
            rw [← ha0] at hlt256 hst
            have hzI : I64 (z : Int) := by
              have : z ≤ numP f pal r x := by rw [hz]; exact Nat.div_le_self _ _
              constructor <;> omega
            (first | (refine H.wg ?_; clear H; intros; rename_i w H; constructor) | refine wk ?_)
            rw [hxB]
            rw [show ((x * B0 : Nat) : Int) + ((B0 : Int) - 1 - (k : Int)) = (t : Int) by rw [hte]; omega]
            (first | (refine H.wg ?_; clear H; intros; rename_i w H; constructor) | refine wk ?_)
            have S5 := H.slfAt (i := 0) rfl (fun _ => rfl) (by decide)
            obtain ⟨p9, c9⟩ := z8_cell S5 (i := t / 8) (by rw [rowG_len]; exact htS)
            rw [rowG_get htS, ← ha0, bv_nat (by omega)] at c9
            have hsh2 : (z % 2) * 2 ^ (7 - t % 8) < 256 := by omega
            (first | (refine H.wg ?_; clear H; intros; rename_i w H; constructor) | refine wk ?_)
            rw [show wr .u8 ((z : Int) % 2) = ((z % 2 : Nat) : Int) by show (z : Int) % 2 % 256 = _; omega]
            rw [show wr .u64 (7 - (t : Int) % 8) = ((7 - t % 8 : Nat) : Int) by show (7 - (t : Int) % 8) % 18446744073709551616 = _; omega]
            refine ⟨⟨by omega, by omega⟩, ?_⟩
            rw [shl_b (x := z % 2) (sh := 7 - t % 8) (by omega)]
            (first | (refine H.wg ?_; clear H; intros; rename_i w H; constructor) | refine wk ?_)
            refine Rel.stRow (i := 0) H rfl (t / 8) htS rfl (by
              rw [show ((t : Int) / 8).toNat = t / 8 by omega]
              rfl) ?_
            clear H
            intro w H
            simp only [List.set_cons_zero] at H
            rw [add_b hlt256, byC_set, ← hst] at H
            (first | (refine H.wg ?_; clear H; intros; rename_i w H; constructor) | refine wk ?_)
            refine ⟨(by repeat (first | exact trivial | refine ⟨rfl, ?_⟩)), k + 1, ⟨congrArg (fun z => some (iv z)) (by rw [Nat.pow_succ, ← Nat.div_div_eq_div_mul, ← hz]; omega), congrArg (fun z => some (iv z)) (by omega), trivial⟩, ⟨by omega, H⟩, by omega⟩
          · obtain rfl : k = B0 := by omega
            rw [gAt_next] at H
            (first | (refine H.wg ?_; clear H; intros; rename_i w H; constructor) | refine wk ?_)
            refine ⟨(by repeat (first | exact trivial | refine ⟨rfl, ?_⟩)), x + 1, (by repeat (first | exact trivial | refine ⟨rfl, ?_⟩)), ⟨by omega, fun x' hx' => ?_, H.sx⟩, by omega⟩
            by_cases e2 : x' = x
            · rw [e2]; exact (hOe.2 ⟨hg1, hg2⟩)
            · exact hok x' (by omega)
        rw [if_neg h2'] at hNe hOe
        obtain ⟨hn, h32, hm2⟩ := bits_small hfo.1 h3 h2'
        obtain ⟨pp1, pp2, pp3⟩ := hpo.ind h32
        have hpl16 := hpo.le
        have hsty : styB f pal = UInt8.ofNat pal.length :: colsL pal := by unfold styB; rw [if_pos h32]; rfl
        have hcl := colsL_len pal
        have hrpl := hrp.len
        rw [hsty, List.length_cons, hcl] at hrpl
        have hrp2 := hrp
        have hrpc := hrp.cap
        rw [hsty] at hrp2
        have hB8 : B0 < 8 := by omega
        (first | (refine H.wg ?_; clear H; intros; rename_i w H; constructor) | refine wk ?_)
        refine loop_inv (S := Nat) tabOk [0, 1, 2, 4, 5, 6, 7, 8, 9, 10, 11, 12, 13, 14, 17, 18, 19, 22, 36, 51, 58, 70, 106, 122, 128, 147, 151, 186] (fun j => [(15, iv (if (y0, y1, y2) ∈ pal.take j then (posC pal (y0, y1, y2) : Int) else -1)), (16, iv ((3 * j + 1 : Nat) : Int))]) (fun j w' => j ≤ pal.length ∧ Rel W V [.row ⟨some ⟨b11, 0, none⟩, S, S⟩ 5 1 ((rowG (gAt B0 (numP f pal r) x 0) S).flatMap byC), .row rr 5 1 (R.flatten.flatMap byC), .blk b6 (picC f wd ht rp) 66, .blk b2 (valC hh) 26] V w') (fun j _ => pal.length - j) 0 ?_
        (conv => whnf)
        refine ⟨(by repeat (first | exact trivial | refine ⟨rfl, ?_⟩)), ⟨by omega, H⟩, ?_⟩
        clear H
        rintro j w ⟨hj, H⟩
        dsimp only at hj H ⊢
        by_cases hjl : j < pal.length
        · have hpt := posC_take pp3 (c := (y0, y1, y2)) hjl
          have tp := SlF.sub hrp2 (n := 1) (fun _ => rfl) (a := 3 * j + 1) (b := 3 * j + 4) (by omega) (by rw [List.length_cons, hcl]; omega)
          rw [sub_col (by omega), z8_colsL pal j hjl] at tp
          (first | (refine H.wg ?_; clear H; intros; rename_i w H; constructor) | refine wk ?_)
          rw [show ((3 * j + 1 : Nat) : Int) + 3 = ((3 * j + 4 : Nat) : Int) by omega]
          refine (bytes_ref H.data tp tc).use ?_
          rintro q w ⟨rfl, K⟩
          (have hKb := K.base; replace H := H.call0 K)
          have hdec : decide (colL pal[j] = [y0, y1, y2]) = decide (pal[j] = (y0, y1, y2)) := decide_eq_decide.2 (colL_inj (b := (y0, y1, y2)))
          rw [hdec]
          by_cases hc : pal[j] = (y0, y1, y2)
          · rw [decide_eq_true hc]
            rw [if_pos hc] at hpt
            (first | (refine H.wg ?_; clear H; intros; rename_i w H; constructor) | refine wk ?_)
            refine ⟨(by repeat (first | exact trivial | refine ⟨rfl, ?_⟩)), j + 1, ⟨congrArg (fun z => some (iv z)) (by rw [hpt]; omega), congrArg (fun z => some (iv z)) (by omega), trivial⟩, ⟨by omega, H⟩, by omega⟩
          · rw [decide_eq_false hc]
            rw [if_neg hc] at hpt
            (first | (refine H.wg ?_; clear H; intros; rename_i w H; constructor) | refine wk ?_)
            refine ⟨(by repeat (first | exact trivial | refine ⟨rfl, ?_⟩)), j + 1, ⟨congrArg (fun z => some (iv z)) hpt.symm, congrArg (fun z => some (iv z)) (by omega), trivial⟩, ⟨by omega, H⟩, by omega⟩
        · obtain rfl : j = pal.length := by omega
          rw [List.take_length]
          by_cases hc : (y0, y1, y2) ∈ pal
          rotate_left
          · have hno : ¬ numOk f pal r x := fun q => hc (hOe.1 q)
            have hb := pct_bad hvf hsh hr hrm hxl hno
            rw [if_neg hc]
            rw [hb]
            (first | (refine H.wg ?_; clear H; intros; rename_i w H; constructor) | refine wk ?_)
            exact ⟨V, ⟨none, 0, 0⟩, [], false, Sub.refl _, H.sx, rfl, SlF.nil _ _, rfl⟩
          rw [if_pos hc]
          have hNI : numP f pal r x < 16777216 := by have := (posC_le (y0, y1, y2) pal).1; omega
          (first | (refine H.wg ?_; clear H; intros; rename_i w H; constructor) | refine wk ?_)
          (first | (refine H.wg ?_; clear H; intros; rename_i w H; constructor) | refine wk ?_)
          refine loop_inv (S := Nat) tabOk [0, 1, 2, 4, 5, 6, 7, 8, 9, 10, 11, 12, 13, 14, 16, 19, 22, 36, 51, 58, 70, 106, 122, 128, 133, 143, 147, 186] (fun k => [(15, iv ((numP f pal r x / 2 ^ k : Nat) : Int)), (17, iv ((B0 : Int) - 1 - (k : Int)))]) (fun k w' => k ≤ B0 ∧ Rel W V [.row ⟨some ⟨b11, 0, none⟩, S, S⟩ 5 1 ((rowG (gAt B0 (numP f pal r) x k) S).flatMap byC), .row rr 5 1 (R.flatten.flatMap byC), .blk b6 (picC f wd ht rp) 66, .blk b2 (valC hh) 26] V w') (fun k _ => B0 - k) 0 ?_
          (conv => whnf)
          refine ⟨⟨(congrArg (fun z => some (iv z)) (by rw [Nat.pow_zero, Nat.div_one, hNe])), congrArg (fun z => some (iv z)) (by omega), trivial⟩, ⟨by omega, H⟩, ?_⟩
          clear H
          rintro k w ⟨hk, H⟩
          dsimp only at hk H ⊢
          by_cases hkl : k < B0
          · obtain ⟨g0, gs⟩ := gAt_step (numP f pal r) (x := x) hkl
            obtain ⟨t, hte⟩ : ∃ t, t = x * B0 + (B0 - 1 - k) := ⟨_, rfl⟩
            obtain ⟨z, hz⟩ : ∃ z, z = numP f pal r x / 2 ^ k := ⟨_, rfl⟩
            rw [← hte] at g0 gs
            rw [← hz] at gs ⊢
            have hxB : (x : Int) * (B0 : Int) = ((x * B0 : Nat) : Int) := (Int.natCast_mul _ _).symm
            have hx24 : x * B0 ≤ 64 * 24 := Nat.mul_le_mul (by omega) hB24
            have htS : t / 8 < S := by rw [hte]; exact bit_lt (N := 0) hkl hxl hwS
            obtain ⟨_, hlt256, _⟩ := bytG_step (gAt_lt _ _ _ _) g0 (Nat.mod_lt _ (by decide)) gs
            have hst := rowG_step (size := S) (gAt_lt _ _ _ _) g0 (Nat.mod_lt _ (by decide)) gs htS
            obtain ⟨a0, ha0⟩ : ∃ a0, a0 = bytG (gAt B0 (numP f pal r) x k) (t / 8) := ⟨_, rfl⟩
            rw [← ha0] at hlt256 hst
            have hzI : I64 (z : Int) := by
              have : z ≤ numP f pal r x := by rw [hz]; exact Nat.div_le_self _ _
              constructor <;> omega
            (first | (refine H.wg ?_; clear H; intros; rename_i w H; constructor) | refine wk ?_)
            rw [hxB]
            rw [show ((x * B0 : Nat) : Int) + ((B0 : Int) - 1 - (k : Int)) = (t : Int) by rw [hte]; omega]
            (first | (refine H.wg ?_; clear H; intros; rename_i w H; constructor) | refine wk ?_)
            have S5 := H.slfAt (i := 0) rfl (fun _ => rfl) (by decide)
            obtain ⟨p9, c9⟩ := z8_cell S5 (i := t / 8) (by rw [rowG_len]; exact htS)
            rw [rowG_get htS, ← ha0, bv_nat (by omega)] at c9
            have hsh2 : (z % 2) * 2 ^ (7 - t % 8) < 256 := by omega
            (first | (refine H.wg ?_; clear H; intros; rename_i w H; constructor) | refine wk ?_)
            rw [show wr .u8 ((z : Int) % 2) = ((z % 2 : Nat) : Int) by show (z : Int) % 2 % 256 = _; omega]
            rw [show wr .u64 (7 - (t : Int) % 8) = ((7 - t % 8 : Nat) : Int) by show (7 - (t : Int) % 8) % 18446744073709551616 = _; omega]
            refine ⟨⟨by omega, by omega⟩, ?_⟩
            rw [shl_b (x := z % 2) (sh := 7 - t % 8) (by omega)]
            (first | (refine H.wg ?_; clear H; intros; rename_i w H; constructor) | refine wk ?_)
            refine Rel.stRow (i := 0) H rfl (t / 8) htS rfl (by
              rw [show ((t : Int) / 8).toNat = t / 8 by omega]
              rfl) ?_
            clear H
            intro w H
            simp only [List.set_cons_zero] at H
            rw [add_b hlt256, byC_set, ← hst] at H
            (first | (refine H.wg ?_; clear H; intros; rename_i w H; constructor) | refine wk ?_)
            refine ⟨(by repeat (first | exact trivial | refine ⟨rfl, ?_⟩)), k + 1, ⟨congrArg (fun z => some (iv z)) (by rw [Nat.pow_succ, ← Nat.div_div_eq_div_mul, ← hz]; omega), congrArg (fun z => some (iv z)) (by omega), trivial⟩, ⟨by omega, H⟩, by omega⟩
          · obtain rfl : k = B0 := by omega
            rw [gAt_next] at H
            (first | (refine H.wg ?_; clear H; intros; rename_i w H; constructor) | refine wk ?_)
            refine ⟨(by repeat (first | exact trivial | refine ⟨rfl, ?_⟩)), x + 1, (by repeat (first | exact trivial | refine ⟨rfl, ?_⟩)), ⟨by omega, fun x' hx' => ?_, H.sx⟩, by omega⟩
            by_cases e2 : x' = x
            · rw [e2]; exact (hOe.2 hc)
            · exact hok x' (by omega)
      · obtain rfl : x = wd := by omega
        obtain ⟨gr1, gr2⟩ := rowG_wr hfo.1 hpo hrl hok
        rw [← hB0, ← hS] at gr2
        have hF2 := allM_take hyl hF (by rw [hget2]; exact gr2)
        have hyy := rowG_len (gAt B0 (numP f pal r) x 0) S
        (first | (refine H.wg ?_; clear H; intros; rename_i w H; constructor) | refine wk ?_)
        refine Rel.appB H (i := 0) rfl (by omega) ?_
        clear H
        intro r1 w H
        simp only [List.set_cons_zero] at H
        (first | (refine H.wg ?_; clear H; intros; rename_i w H; constructor) | refine wk ?_)
        refine ⟨(by repeat (first | exact trivial | refine ⟨rfl, ?_⟩)), (y + 1, r1), ⟨rfl, congrArg (fun z => some (iv z)) (by dsimp only; omega), trivial⟩, ⟨R ++ [rowG (gAt B0 (numP f pal r) x 0) S], by dsimp only; omega, hF2, fun q hq => ?_, ?_⟩, by dsimp only; omega⟩
        · rw [List.take_succ_eq_append_getElem hyl] at hq
          rcases List.mem_append.1 hq with hq | hq
          · exact hG q hq
          · rw [List.mem_singleton.1 hq, hget2]; exact gr1
        · rw [List.flatten_append, List.flatten_singleton]
          exact H.sx
    · rw [if_neg hup] at hae
      replace hae := hae.symm
      (first | (refine H.wg ?_; clear H; intros; rename_i w H; constructor) | refine wk ?_)
      rw [hae]
      (first | (refine H.wg ?_; clear H; intros; rename_i w H; constructor) | refine wk ?_)
      refine (rowSize_ref H.data hfo.1 w2 _ _).use ?_
      rintro q w ⟨rfl, K⟩
      (have hKb := K.base; replace H := H.call0 K)
      rw [← hS]
      (first | (refine H.wg ?_; clear H; intros; rename_i w H; constructor) | refine wk ?_)
      refine sem_make tabOk rfl rfl rfl rfl rfl rfl (by omega) (by simp; omega) (by omega) fun w b11 hnb => ?_
      replace H := H.newBlk hnb
      clear hnb
      simp only [Int.toNat_natCast] at H ⊢
      rw [← rowG_zero B0 (numP f pal r)] at H
      replace H := H.toRow (n := S) (e := 5) (sz := 1) (by simp [byC_map, rowG_len]) (by simp only [maxLen]; omega)
      (first | (refine H.wg ?_; clear H; intros; rename_i w H; constructor) | refine wk ?_)
      refine loop_inv (S := Nat) tabOk [0, 1, 2, 6, 7, 8, 9, 10, 11, 19, 22, 36, 51, 58, 186] (fun x => [(12, iv x)]) (fun x w' => x ≤ wd ∧ (∀ x', x' < x → numOk f pal r x') ∧ Rel W V [.row ⟨some ⟨b11, 0, none⟩, S, S⟩ 5 1 ((rowG (gAt B0 (numP f pal r) x 0) S).flatMap byC), .row rr 5 1 (R.flatten.flatMap byC), .blk b6 (picC f wd ht rp) 66, .blk b2 (valC hh) 26] V w') (fun x _ => wd - x) 0 ?_
      (conv => whnf)
      refine ⟨(by repeat (first | exact trivial | refine ⟨rfl, ?_⟩)), ⟨by omega, fun x' hx' => by omega, H.sx⟩, ?_⟩
      clear H
      rintro x w ⟨hx, hok, H⟩
      dsimp only at hx hok H ⊢
      by_cases hxl : x < wd
      · obtain ⟨KK, hK⟩ : ∃ KK, KK = 3 * (m + x) := ⟨_, rfl⟩
        have hK3 : KK + 3 ≤ px.length := by
          have : a * (3 * wd) + 3 * wd ≤ px.length := by
            rw [hpx4]
            have := Nat.mul_le_mul_right (3 * wd) ha
            rw [Nat.succ_mul] at this
            exact this
          rw [Nat.mul_left_comm, ← hm] at this
          omega
        have tc := SlF.sub hpxs (n := 1) (fun _ => rfl) (a := KK) (b := KK + 3) (by omega) hK3
        rw [sub3 hK3] at tc
        have hcol : ∀ i, i < 3 → z8 px (KK + i) = z8 r (3 * x + i) := fun i hi => by
          rw [hre, z8_row (by omega), hK, hm]
          congr 1
          rw [Nat.mul_left_comm a 3 wd]
          omega
        have hc0 := hcol 0 (by decide)
        have hc1' := hcol 1 (by decide)
        have hc2' := hcol 2 (by decide)
        rw [Nat.add_zero, Nat.add_zero] at hc0
        rw [hc0, hc1', hc2'] at tc
        obtain ⟨pc, c0⟩ := tc.at1 (g := bv) (fun _ => rfl) (i := 0) (by simp)
        obtain ⟨_, c1⟩ := tc.at1 (g := bv) (fun _ => rfl) (i := 1) (by simp)
        obtain ⟨_, c2⟩ := tc.at1 (g := bv) (fun _ => rfl) (i := 2) (by simp)
        simp only [List.getElem_cons_zero, List.getElem_cons_succ] at c0 c1 c2
        obtain ⟨y0, hy0⟩ : ∃ y, y = z8 r (3 * x) := ⟨_, rfl⟩
        obtain ⟨y1, hy1⟩ : ∃ y, y = z8 r (3 * x + 1) := ⟨_, rfl⟩
        obtain ⟨y2, hy2⟩ : ∃ y, y = z8 r (3 * x + 2) := ⟨_, rfl⟩
        rw [← hy0] at c0 tc
        rw [← hy1] at c1 tc
        rw [← hy2] at c2 tc
        have l0 := y0.toNat_lt
        have l1 := y1.toNat_lt
        have l2 := y2.toNat_lt
        have hNe : numP f pal r x = if f / 16 = 3 then 65536 * y0.toNat + 256 * y1.toNat + y2.toNat else if f / 16 = 2 then y0.toNat else posC pal (y0, y1, y2) := by unfold numP; rw [← hy0, ← hy1, ← hy2]; unfold colAt; rw [← hy0, ← hy1, ← hy2]
        have hOe : numOk f pal r x ↔ (if f / 16 = 3 then True else if f / 16 = 2 then y0 = y1 ∧ y0 = y2 else (y0, y1, y2) ∈ pal) := by unfold numOk; rw [← hy0, ← hy1, ← hy2]; unfold colAt; rw [← hy0, ← hy1, ← hy2]
        (first | (refine H.wg ?_; clear H; intros; rename_i w H; constructor) | refine wk ?_)
        rw [hax]
        (first | (refine H.wg ?_; clear H; intros; rename_i w H; constructor) | refine wk ?_)
        rw [show 3 * ((m : Int) + (x : Int)) = (KK : Int) by rw [hK]; omega]
        (first | (refine H.wg ?_; clear H; intros; rename_i w H; constructor) | refine wk ?_)
        rw [show (KK : Int) + 3 = ((KK + 3 : Nat) : Int) by omega]
        (first | (refine H.wg ?_; clear H; intros; rename_i w H; constructor) | refine wk ?_)
        ((first | refine draw_vc (id := 3) tabOk mixed [11] [0, 1, 2, 3, 4, 5, 6, 7, 8, 9, 10, 11, 12] (by kernel_rfl) ?_ | refine draw_vc (id := 21) tabOk mixed [] [0, 1, 2, 3, 4, 5, 6, 7, 8, 9, 10, 11, 12, 13, 14, 15, 16] (by kernel_rfl) ?_ | refine draw_vc (id := 23) tabOk mixed [] [0, 1, 2, 3, 4, 5, 6, 7, 8, 9, 10, 11, 12, 13, 14, 15] (by kernel_rfl) ?_); intro w hdw; replace H := Rel.ext H hdw.ext)
        (first | (refine H.wg ?_; clear H; intros; rename_i w H; constructor) | refine wk ?_)
        by_cases h3 : f / 16 = 3
        · have hB := bits_3 h3
          rw [if_pos h3] at hNe hOe
          have hNI : numP f pal r x < 16777216 := by omega
          (first | (refine H.wg ?_; clear H; intros; rename_i w H; constructor) | refine wk ?_)
          (first | (refine H.wg ?_; clear H; intros; rename_i w H; constructor) | refine wk ?_)
          refine loop_inv (S := Nat) tabOk [0, 1, 2, 4, 5, 6, 7, 8, 9, 10, 11, 12, 13, 14, 16, 19, 22, 36, 51, 58, 70, 106, 122, 128, 133, 143, 147, 186] (fun k => [(15, iv ((numP f pal r x / 2 ^ k : Nat) : Int)), (17, iv ((B0 : Int) - 1 - (k : Int)))]) (fun k w' => k ≤ B0 ∧ Rel W V [.row ⟨some ⟨b11, 0, none⟩, S, S⟩ 5 1 ((rowG (gAt B0 (numP f pal r) x k) S).flatMap byC), .row rr 5 1 (R.flatten.flatMap byC), .blk b6 (picC f wd ht rp) 66, .blk b2 (valC hh) 26] V w') (fun k _ => B0 - k) 0 ?_
          (conv => whnf)
          refine ⟨⟨(congrArg (fun z => some (iv z)) (by rw [Nat.pow_zero, Nat.div_one, hNe]; omega)), congrArg (fun z => some (iv z)) (by omega), trivial⟩, ⟨by omega, H⟩, ?_⟩
          clear H
          rintro k w ⟨hk, H⟩
          dsimp only at hk H ⊢
          by_cases hkl : k < B0
          · obtain ⟨g0, gs⟩ := gAt_step (numP f pal r) (x := x) hkl
            obtain ⟨t, hte⟩ : ∃ t, t = x * B0 + (B0 - 1 - k) := ⟨_, rfl⟩
            obtain ⟨z, hz⟩ : ∃ z, z = numP f pal r x / 2 ^ k := ⟨_, rfl⟩
            rw [← hte] at g0 gs
            rw [← hz] at gs ⊢
            have hxB : (x : Int) * (B0 : Int) = ((x * B0 : Nat) : Int) := (Int.natCast_mul _ _).symm
            have hx24 : x * B0 ≤ 64 * 24 := Nat.mul_le_mul (by omega) hB24
            have htS : t / 8 < S := by rw [hte]; exact bit_lt (N := 0) hkl hxl hwS
            obtain ⟨_, hlt256, _⟩ := bytG_step (gAt_lt _ _ _ _) g0 (Nat.mod_lt _ (by decide)) gs
            have hst := rowG_step (size := S) (gAt_lt _ _ _ _) g0 (Nat.mod_lt _ (by decide)) gs htS
            obtain ⟨a0, ha0⟩ : ∃ a0, a0 = bytG (gAt B0 (numP f pal r) x k) (t / 8) := ⟨_, rfl⟩
            rw [← ha0] at hlt256 hst
            have hzI : I64 (z : Int) := by
              have : z ≤ numP f pal r x := by rw [hz]; exact Nat.div_le_self _ _
              constructor <;> omega
            (first | (refine H.wg ?_; clear H; intros; rename_i w H; constructor) | refine wk ?_)
            rw [hxB]
            rw [show ((x * B0 : Nat) : Int) + ((B0 : Int) - 1 - (k : Int)) = (t : Int) by rw [hte]; omega]
            (first | (refine H.wg ?_; clear H; intros; rename_i w H; constructor) | refine wk ?_)
            have S5 := H.slfAt (i := 0) rfl (fun _ => rfl) (by decide)
            obtain ⟨p9, c9⟩ := z8_cell S5 (i := t / 8) (by rw [rowG_len]; exact htS)
            rw [rowG_get htS, ← ha0, bv_nat (by omega)] at c9
            have hsh2 : (z % 2) * 2 ^ (7 - t % 8) < 256 := by omega
            (first | (refine H.wg ?_; clear H; intros; rename_i w H; constructor) | refine wk ?_)
            rw [show wr .u8 ((z : Int) % 2) = ((z % 2 : Nat) : Int) by show (z : Int) % 2 % 256 = _; omega]
            rw [show wr .u64 (7 - (t : Int) % 8) = ((7 - t % 8 : Nat) : Int) by show (7 - (t : Int) % 8) % 18446744073709551616 = _; omega]
            refine ⟨⟨by omega, by omega⟩, ?_⟩
            rw [shl_b (x := z % 2) (sh := 7 - t % 8) (by omega)]
            (first | (refine H.wg ?_; clear H; intros; rename_i w H; constructor) | refine wk ?_)
            refine Rel.stRow (i := 0) H rfl (t / 8) htS rfl (by
              rw [show ((t : Int) / 8).toNat = t / 8 by omega]
              rfl) ?_
            clear H
            intro w H
            simp only [List.set_cons_zero] at H
            rw [add_b hlt256, byC_set, ← hst] at H
            (first | (refine H.wg ?_; clear H; intros; rename_i w H; constructor) | refine wk ?_)
            refine ⟨(by repeat (first | exact trivial | refine ⟨rfl, ?_⟩)), k + 1, ⟨congrArg (fun z => some (iv z)) (by rw [Nat.pow_succ, ← Nat.div_div_eq_div_mul, ← hz]; omega), congrArg (fun z => some (iv z)) (by omega), trivial⟩, ⟨by omega, H⟩, by omega⟩
          · obtain rfl : k = B0 := by omega
            rw [gAt_next] at H
            (first | (refine H.wg ?_; clear H; intros; rename_i w H; constructor) | refine wk ?_)
            refine ⟨(by repeat (first | exact trivial | refine ⟨rfl, ?_⟩)), x + 1, (by repeat (first | exact trivial | refine ⟨rfl, ?_⟩)), ⟨by omega, fun x' hx' => ?_, H.sx⟩, by omega⟩
            by_cases e2 : x' = x
            · rw [e2]; exact (hOe.2 trivial)
            · exact hok x' (by omega)
        rw [if_neg h3] at hNe hOe
        by_cases h2' : f / 16 = 2
        · have hB := bits_2 h2'
          rw [if_pos h2'] at hNe hOe
          have hNI : numP f pal r x < 16777216 := by omega
          (first | (refine H.wg ?_; clear H; intros; rename_i w H; constructor) | refine wk ?_)
          ((first | refine draw_vc (id := 3) tabOk mixed [11] [0, 1, 2, 3, 4, 5, 6, 7, 8, 9, 10, 11, 12] (by kernel_rfl) ?_ | refine draw_vc (id := 21) tabOk mixed [] [0, 1, 2, 3, 4, 5, 6, 7, 8, 9, 10, 11, 12, 13, 14, 15, 16] (by kernel_rfl) ?_ | refine draw_vc (id := 23) tabOk mixed [] [0, 1, 2, 3, 4, 5, 6, 7, 8, 9, 10, 11, 12, 13, 14, 15] (by kernel_rfl) ?_); intro w hdw; replace H := Rel.ext H hdw.ext)
          (first | (refine H.wg ?_; clear H; intros; rename_i w H; constructor) | refine wk ?_)
          by_cases hg : y0 = y1 ∧ y0 = y2
          rotate_left
          · have hno : ¬ numOk f pal r x := fun q => hg (hOe.1 q)
            have hb := pct_bad hvf hsh hr hrm hxl hno
            by_cases hg1 : y0 = y1
            · have : y0.toNat ≠ y2.toNat := fun e => hg ⟨hg1, UInt8.toNat_inj.1 e⟩
              have e1 : y0.toNat = y1.toNat := by rw [hg1]
              rw [hb]
              (first | (refine H.wg ?_; clear H; intros; rename_i w H; constructor) | refine wk ?_)
              exact ⟨V, ⟨none, 0, 0⟩, [], false, Sub.refl _, H.sx, rfl, SlF.nil _ _, rfl⟩
            · have : y0.toNat ≠ y1.toNat := fun e => hg1 (UInt8.toNat_inj.1 e)
              rw [hb]
              (first | (refine H.wg ?_; clear H; intros; rename_i w H; constructor) | refine wk ?_)
              exact ⟨V, ⟨none, 0, 0⟩, [], false, Sub.refl _, H.sx, rfl, SlF.nil _ _, rfl⟩
          obtain ⟨hg1, hg2⟩ := hg
          have e1 : y0.toNat = y1.toNat := by rw [hg1]
          have e2 : y0.toNat = y2.toNat := by rw [hg2]
          (first | (refine H.wg ?_; clear H; intros; rename_i w H; constructor) | refine wk ?_)
          (first | (refine H.wg ?_; clear H; intros; rename_i w H; constructor) | refine wk ?_)
          refine loop_inv (S := Nat) tabOk [0, 1, 2, 4, 5, 6, 7, 8, 9, 10, 11, 12, 13, 14, 16, 19, 22, 36, 51, 58, 70, 106, 122, 128, 133, 143, 147, 186] (fun k => [(15, iv ((numP f pal r x / 2 ^ k : Nat) : Int)), (17, iv ((B0 : Int) - 1 - (k : Int)))]) (fun k w' => k ≤ B0 ∧ Rel W V [.row ⟨some ⟨b11, 0, none⟩, S, S⟩ 5 1 ((rowG (gAt B0 (numP f pal r) x k) S).flatMap byC), .row rr 5 1 (R.flatten.flatMap byC), .blk b6 (picC f wd ht rp) 66, .blk b2 (valC hh) 26] V w') (fun k _ => B0 - k) 0 ?_
          (conv => whnf)
          refine ⟨⟨(congrArg (fun z => some (iv z)) (by rw [Nat.pow_zero, Nat.div_one, hNe])), congrArg (fun z => some (iv z)) (by omega), trivial⟩, ⟨by omega, H⟩, ?_⟩
          clear H
          rintro k w ⟨hk, H⟩
          dsimp only at hk H ⊢
          by_cases hkl : k < B0
          · obtain ⟨g0, gs⟩ := gAt_step (numP f pal r) (x := x) hkl
            obtain ⟨t, hte⟩ : ∃ t, t = x * B0 + (B0 - 1 - k) := ⟨_, rfl⟩
            obtain ⟨z, hz⟩ : ∃ z, z = numP f pal r x / 2 ^ k := ⟨_, rfl⟩
            rw [← hte] at g0 gs
            rw [← hz] at gs ⊢
            have hxB : (x : Int) * (B0 : Int) = ((x * B0 : Nat) : Int) := (Int.natCast_mul _ _).symm
            have hx24 : x * B0 ≤ 64 * 24 := Nat.mul_le_mul (by omega) hB24
            have htS : t / 8 < S := by rw [hte]; exact bit_lt (N := 0) hkl hxl hwS
            obtain ⟨_, hlt256, _⟩ := bytG_step (gAt_lt _ _ _ _) g0 (Nat.mod_lt _ (by decide)) gs
            have hst := rowG_step (size := S) (gAt_lt _ _ _ _) g0 (Nat.mod_lt _ (by decide)) gs htS
            obtain ⟨a0, ha0⟩ : ∃ a0, a0 = bytG (gAt B0 (numP f pal r) x k) (t / 8) := ⟨_, rfl⟩
            rw [← ha0] at hlt256 hst
            have hzI : I64 (z : Int) := by
              have : z ≤ numP f pal r x := by rw [hz]; exact Nat.div_le_self _ _
              constructor <;> omega
            (first | (refine H.wg ?_; clear H; intros; rename_i w H; constructor) | refine wk ?_)
            rw [hxB]
            rw [show ((x * B0 : Nat) : Int) + ((B0 : Int) - 1 - (k : Int)) = (t : Int) by rw [hte]; omega]
            (first | (refine H.wg ?_; clear H; intros; rename_i w H; constructor) | refine wk ?_)
            have S5 := H.slfAt (i := 0) rfl (fun _ => rfl) (by decide)
            obtain ⟨p9, c9⟩ := z8_cell S5 (i := t / 8) (by rw [rowG_len]; exact htS)
            rw [rowG_get htS, ← ha0, bv_nat (by omega)] at c9
            have hsh2 : (z % 2) * 2 ^ (7 - t % 8) < 256 := by omega
            (first | (refine H.wg ?_; clear H; intros; rename_i w H; constructor) | refine wk ?_)
            rw [show wr .u8 ((z : Int) % 2) = ((z % 2 : Nat) : Int) by show (z : Int) % 2 % 256 = _; omega]
            rw [show wr .u64 (7 - (t : Int) % 8) = ((7 - t % 8 : Nat) : Int) by show (7 - (t : Int) % 8) % 18446744073709551616 = _; omega]
            refine ⟨⟨by omega, by omega⟩, ?_⟩
            rw [shl_b (x := z % 2) (sh := 7 - t % 8) (by omega)]
            (first | (refine H.wg ?_; clear H; intros; rename_i w H; constructor) | refine wk ?_)
            refine Rel.stRow (i := 0) H rfl (t / 8) htS rfl (by
              rw [show ((t : Int) / 8).toNat = t / 8 by omega]
              rfl) ?_
            clear H
            intro w H
            simp only [List.set_cons_zero] at H
            rw [add_b hlt256, byC_set, ← hst] at H
            (first | (refine H.wg ?_; clear H; intros; rename_i w H; constructor) | refine wk ?_)
            refine ⟨(by repeat (first | exact trivial | refine ⟨rfl, ?_⟩)), k + 1, ⟨congrArg (fun z => some (iv z)) (by rw [Nat.pow_succ, ← Nat.div_div_eq_div_mul, ← hz]; omega), congrArg (fun z => some (iv z)) (by omega), trivial⟩, ⟨by omega, H⟩, by omega⟩
          · obtain rfl : k = B0 := by omega
            rw [gAt_next] at H
            (first | (refine H.wg ?_; clear H; intros; rename_i w H; constructor) | refine wk ?_)
            refine ⟨(by repeat (first | exact trivial | refine ⟨rfl, ?_⟩)), x + 1, (by repeat (first | exact trivial | refine ⟨rfl, ?_⟩)), ⟨by omega, fun x' hx' => ?_, H.sx⟩, by omega⟩
            by_cases e2 : x' = x
            · rw [e2]; exact (hOe.2 ⟨hg1, hg2⟩)
            · exact hok x' (by omega)
        rw [if_neg h2'] at hNe hOe
        obtain ⟨hn, h32, hm2⟩ := bits_small hfo.1 h3 h2'
        obtain ⟨pp1, pp2, pp3⟩ := hpo.ind h32
        have hpl16 := hpo.le
        have hsty : styB f pal = UInt8.ofNat pal.length :: colsL pal := by unfold styB; rw [if_pos h32]; rfl
        have hcl := colsL_len pal
        have hrpl := hrp.len
        rw [hsty, List.length_cons, hcl] at hrpl
        have hrp2 := hrp
        have hrpc := hrp.cap
        rw [hsty] at hrp2
        have hB8 : B0 < 8 := by omega
        (first | (refine H.wg ?_; clear H; intros; rename_i w H; constructor) | refine wk ?_)
        refine loop_inv (S := Nat) tabOk [0, 1, 2, 4, 5, 6, 7, 8, 9, 10, 11, 12, 13, 14, 17, 18, 19, 22, 36, 51, 58, 70, 106, 122, 128, 147, 151, 186] (fun j => [(15, iv (if (y0, y1, y2) ∈ pal.take j then (posC pal (y0, y1, y2) : Int) else -1)), (16, iv ((3 * j + 1 : Nat) : Int))]) (fun j w' => j ≤ pal.length ∧ Rel W V [.row ⟨some ⟨b11, 0, none⟩, S, S⟩ 5 1 ((rowG (gAt B0 (numP f pal r) x 0) S).flatMap byC), .row rr 5 1 (R.flatten.flatMap byC), .blk b6 (picC f wd ht rp) 66, .blk b2 (valC hh) 26] V w') (fun j _ => pal.length - j) 0 ?_
        (conv => whnf)
        refine ⟨(by repeat (first | exact trivial | refine ⟨rfl, ?_⟩)), ⟨by omega, H⟩, ?_⟩
        clear H
        rintro j w ⟨hj, H⟩
        dsimp only at hj H ⊢
        by_cases hjl : j < pal.length
        · have hpt := posC_take pp3 (c := (y0, y1, y2)) hjl
          have tp := SlF.sub hrp2 (n := 1) (fun _ => rfl) (a := 3 * j + 1) (b := 3 * j + 4) (by omega) (by rw [List.length_cons, hcl]; omega)
          rw [sub_col (by omega), z8_colsL pal j hjl] at tp
          (first | (refine H.wg ?_; clear H; intros; rename_i w H; constructor) | refine wk ?_)
          rw [show ((3 * j + 1 : Nat) : Int) + 3 = ((3 * j + 4 : Nat) : Int) by omega]
          refine (bytes_ref H.data tp tc).use ?_
          rintro q w ⟨rfl, K⟩
          (have hKb := K.base; replace H := H.call0 K)
          have hdec : decide (colL pal[j] = [y0, y1, y2]) = decide (pal[j] = (y0, y1, y2)) := decide_eq_decide.2 (colL_inj (b := (y0, y1, y2)))
          rw [hdec]
          by_cases hc : pal[j] = (y0, y1, y2)
          · rw [decide_eq_true hc]
            rw [if_pos hc] at hpt
            (first | (refine H.wg ?_; clear H; intros; rename_i w H; constructor) | refine wk ?_)
            refine ⟨(by repeat (first | exact trivial | refine ⟨rfl, ?_⟩)), j + 1, ⟨congrArg (fun z => some (iv z)) (by rw [hpt]; omega), congrArg (fun z => some (iv z)) (by omega), trivial⟩, ⟨by omega, H⟩, by omega⟩
          · rw [decide_eq_false hc]
            rw [if_neg hc] at hpt
            (first | (refine H.wg ?_; clear H; intros; rename_i w H; constructor) | refine wk ?_)
            refine ⟨(by repeat (first | exact trivial | refine ⟨rfl, ?_⟩)), j + 1, ⟨congrArg (fun z => some (iv z)) hpt.symm, congrArg (fun z => some (iv z)) (by omega), trivial⟩, ⟨by omega, H⟩, by omega⟩
        · obtain rfl : j = pal.length := by omega
          rw [List.take_length]
          by_cases hc : (y0, y1, y2) ∈ pal
          rotate_left
          · have hno : ¬ numOk f pal r x := fun q => hc (hOe.1 q)
            have hb := pct_bad hvf hsh hr hrm hxl hno
            rw [if_neg hc]
            rw [hb]
            (first | (refine H.wg ?_; clear H; intros; rename_i w H; constructor) | refine wk ?_)
            exact ⟨V, ⟨none, 0, 0⟩, [], false, Sub.refl _, H.sx, rfl, SlF.nil _ _, rfl⟩
          rw [if_pos hc]
          have hNI : numP f pal r x < 16777216 := by have := (posC_le (y0, y1, y2) pal).1; omega
          (first | (refine H.wg ?_; clear H; intros; rename_i w H; constructor) | refine wk ?_)
          (first | (refine H.wg ?_; clear H; intros; rename_i w H; constructor) | refine wk ?_)
          refine loop_inv (S := Nat) tabOk [0, 1, 2, 4, 5, 6, 7, 8, 9, 10, 11, 12, 13, 14, 16, 19, 22, 36, 51, 58, 70, 106, 122, 128, 133, 143, 147, 186] (fun k => [(15, iv ((numP f pal r x / 2 ^ k : Nat) : Int)), (17, iv ((B0 : Int) - 1 - (k : Int)))]) (fun k w' => k ≤ B0 ∧ Rel W V [.row ⟨some ⟨b11, 0, none⟩, S, S⟩ 5 1 ((rowG (gAt B0 (numP f pal r) x k) S).flatMap byC), .row rr 5 1 (R.flatten.flatMap byC), .blk b6 (picC f wd ht rp) 66, .blk b2 (valC hh) 26] V w') (fun k _ => B0 - k) 0 ?_
          (conv => whnf)
          refine ⟨⟨(congrArg (fun z => some (iv z)) (by rw [Nat.pow_zero, Nat.div_one, hNe])), congrArg (fun z => some (iv z)) (by omega), trivial⟩, ⟨by omega, H⟩, ?_⟩
          clear H
          rintro k w ⟨hk, H⟩
          dsimp only at hk H ⊢
          by_cases hkl : k < B0
          · obtain ⟨g0, gs⟩ := gAt_step (numP f pal r) (x := x) hkl
            obtain ⟨t, hte⟩ : ∃ t, t = x * B0 + (B0 - 1 - k) := ⟨_, rfl⟩
            obtain ⟨z, hz⟩ : ∃ z, z = numP f pal r x / 2 ^ k := ⟨_, rfl⟩
            rw [← hte] at g0 gs
            rw [← hz] at gs ⊢
            have hxB : (x : Int) * (B0 : Int) = ((x * B0 : Nat) : Int) := (Int.natCast_mul _ _).symm
            have hx24 : x * B0 ≤ 64 * 24 := Nat.mul_le_mul (by omega) hB24
            have htS : t / 8 < S := by rw [hte]; exact bit_lt (N := 0) hkl hxl hwS
            obtain ⟨_, hlt256, _⟩ := bytG_step (gAt_lt _ _ _ _) g0 (Nat.mod_lt _ (by decide)) gs
            have hst := rowG_step (size := S) (gAt_lt _ _ _ _) g0 (Nat.mod_lt _ (by decide)) gs htS
            obtain ⟨a0, ha0⟩ : ∃ a0, a0 = bytG (gAt B0 (numP f pal r) x k) (t / 8) := ⟨_, rfl⟩
            rw [← ha0] at hlt256 hst
            have hzI : I64 (z : Int) := by
              have : z ≤ numP f pal r x := by rw [hz]; exact Nat.div_le_self _ _
              constructor <;> omega
            (first | (refine H.wg ?_; clear H; intros; rename_i w H; constructor) | refine wk ?_)
            rw [hxB]
            rw [show ((x * B0 : Nat) : Int) + ((B0 : Int) - 1 - (k : Int)) = (t : Int) by rw [hte]; omega]
            (first | (refine H.wg ?_; clear H; intros; rename_i w H; constructor) | refine wk ?_)
            have S5 := H.slfAt (i := 0) rfl (fun _ => rfl) (by decide)
            obtain ⟨p9, c9⟩ := z8_cell S5 (i := t / 8) (by rw [rowG_len]; exact htS)
            rw [rowG_get htS, ← ha0, bv_nat (by omega)] at c9
            have hsh2 : (z % 2) * 2 ^ (7 - t % 8) < 256 := by omega
            (first | (refine H.wg ?_; clear H; intros; rename_i w H; constructor) | refine wk ?_)
            rw [show wr .u8 ((z : Int) % 2) = ((z % 2 : Nat) : Int) by show (z : Int) % 2 % 256 = _; omega]
            rw [show wr .u64 (7 - (t : Int) % 8) = ((7 - t % 8 : Nat) : Int) by show (7 - (t : Int) % 8) % 18446744073709551616 = _; omega]
            refine ⟨⟨by omega, by omega⟩, ?_⟩
            rw [shl_b (x := z % 2) (sh := 7 - t % 8) (by omega)]
            (first | (refine H.wg ?_; clear H; intros; rename_i w H; constructor) | refine wk ?_)
            refine Rel.stRow (i := 0) H rfl (t / 8) htS rfl (by
              rw [show ((t : Int) / 8).toNat = t / 8 by omega]
              rfl) ?_
            clear H
            intro w H
            simp only [List.set_cons_zero] at H
            rw [add_b hlt256, byC_set, ← hst] at H
            (first | (refine H.wg ?_; clear H; intros; rename_i w H; constructor) | refine wk ?_)
            refine ⟨(by repeat (first | exact trivial | refine ⟨rfl, ?_⟩)), k + 1, ⟨congrArg (fun z => some (iv z)) (by rw [Nat.pow_succ, ← Nat.div_div_eq_div_mul, ← hz]; omega), congrArg (fun z => some (iv z)) (by omega), trivial⟩, ⟨by omega, H⟩, by omega⟩
          · obtain rfl : k = B0 := by omega
            rw [gAt_next] at H
            (first | (refine H.wg ?_; clear H; intros; rename_i w H; constructor) | refine wk ?_)
            refine ⟨(by repeat (first | exact trivial | refine ⟨rfl, ?_⟩)), x + 1, (by repeat (first | exact trivial | refine ⟨rfl, ?_⟩)), ⟨by omega, fun x' hx' => ?_, H.sx⟩, by omega⟩
            by_cases e2 : x' = x
            · rw [e2]; exact (hOe.2 hc)
            · exact hok x' (by omega)
      · obtain rfl : x = wd := by omega
        obtain ⟨gr1, gr2⟩ := rowG_wr hfo.1 hpo hrl hok
        rw [← hB0, ← hS] at gr2
        have hF2 := allM_take hyl hF (by rw [hget2]; exact gr2)
        have hyy := rowG_len (gAt B0 (numP f pal r) x 0) S
        (first | (refine H.wg ?_; clear H; intros; rename_i w H; constructor) | refine wk ?_)
        refine Rel.appB H (i := 0) rfl (by omega) ?_
        clear H
        intro r1 w H
        simp only [List.set_cons_zero] at H
        (first | (refine H.wg ?_; clear H; intros; rename_i w H; constructor) | refine wk ?_)
        refine ⟨(by repeat (first | exact trivial | refine ⟨rfl, ?_⟩)), (y + 1, r1), ⟨rfl, congrArg (fun z => some (iv z)) (by dsimp only; omega), trivial⟩, ⟨R ++ [rowG (gAt B0 (numP f pal r) x 0) S], by dsimp only; omega, hF2, fun q hq => ?_, ?_⟩, by dsimp only; omega⟩
        · rw [List.take_succ_eq_append_getElem hyl] at hq
          rcases List.mem_append.1 hq with hq | hq
          · exact hG q hq
          · rw [List.mem_singleton.1 hq, hget2]; exact gr1
        · rw [List.flatten_append, List.flatten_singleton]
          exact H.sx
  · obtain rfl : y = ht := by omega
    rw [List.take_of_length_le (by omega)] at hF hG
    obtain ⟨V2, hV2, H, hrr⟩ := Rel.freezeF H (fun _ => rfl) (by decide)
    (first | (refine H.wg ?_; clear H; intros; rename_i w H; constructor) | refine wk ?_)
    refine SemC.seqCut tabOk (fun q : Sl => [(6, .pointer (some ⟨b6, 0, none⟩)), (8, q.v)])
      (fun q w' => ∃ V3, Sub V V3 ∧ Rel W V [.blk b6 (picC f wd y rp) 66, .blk b2 (valC hh) 26] V3 w' ∧ Byt V3 q (if f / 2 % 2 = 1 then packB R.flatten else R.flatten)) ?_ ?_
    · by_cases hrun : f / 2 % 2 = 1
      · rw [if_pos hrun]
        (first | (refine H.wg ?_; clear H; intros; rename_i w H; constructor) | refine wk ?_)
        refine (packed_ref H.data hrr (by omega)).use ?_
        rintro q w ⟨rB, rfl, K⟩
        (have hKb := K.base; replace H := Rel.call H K)
        simp only [List.cons_append, List.nil_append] at H
        obtain ⟨V3, hV3, H, hB3⟩ := Rel.freezeF H (fun _ => rfl) (by decide)
        (first | (refine H.wg ?_; clear H; intros; rename_i w H; constructor) | refine wk ?_)
        exact ⟨rB, (by repeat (first | exact trivial | refine ⟨rfl, ?_⟩)), V3, hV2.trans hV3, H.sx, hB3⟩
      · rw [if_neg hrun]
        (first | (refine H.wg ?_; clear H; intros; rename_i w H; constructor) | refine wk ?_)
        exact ⟨rr, (by repeat (first | exact trivial | refine ⟨rfl, ?_⟩)), V2, hV2, H.sx, hrr⟩
    clear H
    rintro rB w ⟨V3, hV3, H, hrB⟩
    have hmk := pct_good hvf hsh hr hF hG rfl
    have hpl := packB_le _ R.flatten (Nat.lt_succ_self _)
    obtain ⟨B, hBe⟩ : ∃ B, B = if f / 2 % 2 = 1 then packB R.flatten else R.flatten := ⟨_, rfl⟩
    rw [← hBe] at hmk hrB
    have hBl : B.length < 65536 := by rw [hBe]; split <;> omega
    have hsl := styB_len hpo
    rw [hmk]
    clear hmk
    have hBlen := hrB.len
    refine SemC.seqGo tabOk ?_
    (first | (refine H.wh ?_; clear H; intros; rename_i w H; constructor) | refine wk ?_)
    ((first | refine Rel.nwD H ?_ | refine Rel.nw H ?_); clear H; intro w b44 H)
    (first | (refine H.wh ?_; clear H; intros; rename_i w H; constructor) | refine wk ?_)
    refine Rel.convBB (l := [82, 65, 83, 49]) Tryz.underlying22 Tryz.underlying5 H rfl ?_
    clear H
    intro V4 w hV4 hA H
    (first | (refine H.wh ?_; clear H; intros; rename_i w H; constructor) | refine wk ?_)
    ((first | refine Rel.nwD H ?_ | refine Rel.nw H ?_); clear H; intro w b45 H)
    (first | (refine H.wg ?_; clear H; intros; rename_i w H; constructor) | refine wk ?_)
    replace H := H.blkEq (hdr_cells (a := f) (b := wd) (c := y) (by omega) (by omega) (by omega))
    obtain ⟨V5, hV5, H, hb45⟩ := H.freezeBlk
    have hC : Byt V5 ⟨some ⟨b45, 0, none⟩, 3, 3⟩ [UInt8.ofNat f, UInt8.ofNat wd, UInt8.ofNat y] := ⟨rfl, Nat.le_refl _, hb45.cells⟩
    refine (join_ref H.data (hA.up hV5) hC (by simp)).use ?_
    rintro q w ⟨r1, rfl, K⟩
    (have hKb := K.base; replace H := Rel.call H K)
    simp only [List.cons_append, List.nil_append] at H
    obtain ⟨V6, hV6, H, hr1⟩ := Rel.freezeF H (fun _ => rfl) (by decide)
    have hV36 := (hV4.trans hV5).trans hV6
    (first | (refine H.wg ?_; clear H; intros; rename_i w H; constructor) | refine wk ?_)
    refine SemC.seqGo tabOk ?_
    (first | (refine H.wg ?_; clear H; intros; rename_i w H; constructor) | refine wk ?_)
    refine (join_ref H.data hr1 ((hrp.up hV3).up hV36) (by simp; omega)).use ?_
    rintro q w ⟨r2, rfl, K⟩
    (have hKb := K.base; replace H := Rel.call H K)
    simp only [List.cons_append, List.nil_append] at H
    (first | (refine H.wg ?_; clear H; intros; rename_i w H; constructor) | refine wk ?_)
    refine SemC.seqGo tabOk ?_
    (first | (refine H.wh ?_; clear H; intros; rename_i w H; constructor) | refine wk ?_)
    ((first | refine Rel.nwD H ?_ | refine Rel.nw H ?_); clear H; intro w b46 H)
    (first | (refine H.wh ?_; clear H; intros; rename_i w H; constructor) | refine wk ?_)
    replace H := H.blkEq (c' := [UInt8.ofNat (B.length / 256), UInt8.ofNat B.length].flatMap byC) (by rw [hBlen]; exact len_cells2 hBl)
    replace H := H.toRow (n := 2) (e := 5) (sz := 1) rfl (by simp [maxLen])
    refine Rel.appB H (i := 0) rfl (by simp only [List.length_append, List.length_cons, List.length_nil]; omega) ?_
    clear H
    intro r3 w H
    simp only [List.set_cons_zero] at H
    obtain ⟨V7, hV7, H, hr3⟩ := Rel.freezeF H (fun _ => rfl) (by decide)
    (first | (refine H.wg ?_; clear H; intros; rename_i w H; constructor) | refine wk ?_)
    refine (join_ref H.data hr3 ((hrB.up hV36).up hV7) (by simp only [List.length_append, List.length_cons, List.length_nil]; omega)).use ?_
    rintro q w ⟨r4, rfl, K⟩
    (have hKb := K.base; replace H := Rel.call H K)
    simp only [List.cons_append, List.nil_append] at H
    obtain ⟨V8, hV8, H, hr4⟩ := Rel.freezeF H (fun _ => rfl) (by decide)
    have ho : ras1 ++ [UInt8.ofNat f, UInt8.ofNat wd, UInt8.ofNat y] ++ styB f pal ++ [UInt8.ofNat (B.length / 256), UInt8.ofNat B.length] ++ B = picOut f pal wd y B := by unfold picOut; simp only [List.append_assoc]
    have hr4 : Byt V8 r4 (picOut f pal wd y B) := by rw [← ho]; exact hr4
    have hol := hr4.len
    have hon : (picOut f pal wd y B).length ≤ 100000 := by rw [← ho]; simp only [List.length_append, List.length_cons, List.length_nil]; omega
    have hVV := (hV3.trans hV36).trans (hV7.trans hV8)
    (first | (refine H.wg ?_; clear H; intros; rename_i w H; constructor) | refine wk ?_)
    refine SemC.go tabOk ?_
    by_cases hle : (picOut f pal wd y B).length ≤ 1000
    · rw [if_pos hle]
      (first | (refine H.wg ?_; clear H; intros; rename_i w H; constructor) | refine wk ?_)
      exact ⟨V8, r4, _, true, hVV, H.sx, by rw [decide_eq_true (by omega)], hr4, rfl, rfl⟩
    · rw [if_neg hle]
      (first | (refine H.wg ?_; clear H; intros; rename_i w H; constructor) | refine wk ?_)
      exact ⟨V8, r4, _, false, hVV, H.sx, by rw [decide_eq_false (by omega)], hr4, rfl⟩
end
end Go.Proofs.YtgnaojphgdaalaaGreat
