/-
  Files of hexadecimal records, the reference: the records of a file.
-/
import Derived.Test.YtjfcpnlacodjjaaHexI
import Derived.Test.YtjfcpnlacodjjaaLibC
namespace Go.Proofs.Ytjfcpnlacodjjaa
open Go Go.RowKit

structure RecsG (W V : World) (o : Option (List (List UInt8))) (v : Value) (w' : World) : Prop where
  ex : ∃ (V' : World) (r : Sl) (hs : List Sl) (k : Bool), Sub V V' ∧ Rel W V [] V' w' ∧ v = .tuple #[r.v, .bool k] ∧ (match o with
    | none => k = false
    | some rs => k = true ∧ SlF slC V' r hs ∧ Pw BytR V' hs rs)
theorem pairs_short {lo : Bool} {l : List UInt8} (h : l.length ≤ 1) : pairs lo l = ([], l) := by
  match l, h with
  | [], _ => rfl
  | [a], _ => rfl
  | a :: b :: t, h => simp at h
theorem pairs_n1 {lo : Bool} {a b : UInt8} {t : List UInt8} (h : hdg lo a = none) : pairs lo (a :: b :: t) = ([], a :: b :: t) := by
  unfold pairs
  rw [h]
theorem pairs_n2 {lo : Bool} {a b : UInt8} {t : List UInt8} {x : Nat} (h : hdg lo a = some x) (h2 : hdg lo b = none) : pairs lo (a :: b :: t) = ([], a :: b :: t) := by
  unfold pairs
  rw [h, h2]
theorem pairs_y {lo : Bool} {a b : UInt8} {t : List UInt8} {x y : Nat} (h : hdg lo a = some x) (h2 : hdg lo b = some y) : pairs lo (a :: b :: t) = (UInt8.ofNat (16 * x + y) :: (pairs lo t).1, (pairs lo t).2) := by
  conv => lhs; unfold pairs
  rw [h, h2]
theorem sumB_le : ∀ (l : List UInt8), sumB l ≤ 255 * l.length
  | [] => Nat.le_refl _
  | c :: l => by
    have := sumB_le l
    have := c.toNat_lt
    have e : sumB (c :: l) = c.toNat + sumB l := by simp [sumB]
    rw [e, List.length_cons]
    omega
section
variable {V W : World}
set_option maxRecDepth 100000 in
set_option maxHeartbeats 2000000 in
theorem hexRecords_ref (hV : Sub V W) {s : Sl} {l : List UInt8} (hs : Byt V s l) (hl : l.length ≤ 1000) {fl : Nat} (hf : fl < 4) : Ret Try.prog 57 [s.v, .bool (lowF fl), .bool (decide (2 ≤ fl))].toArray W (RecsG W V (recs fl l)) := by
  have H := Rel.start hV
  have hlen := hs.len
  refine cal_of_vc tabOk Try.func57 rfl (by kernel_rfl) 132 rfl (by simp) [0, 1, 2, 6, 7, 8, 9, 10, 11, 12, 16, 21, 47, 69, 80, 93, 99, 126] ?_
  (first | (refine H.wg ?_; clear H; intros; rename_i w H; constructor) | refine wk ?_)
  replace H := H.rowNil 22 1
  refine loop_inv (S := Nat × Sl × List Sl × List (List UInt8)) tabOk [0, 1, 2] (fun q => [(8, q.2.1.v), (9, iv q.1)]) (fun q w' => q.1 ≤ l.length ∧ q.2.2.2.length ≤ q.1 ∧ (recs fl l = match recs fl (l.drop q.1) with
      | none => none
      | some rs => some (q.2.2.2 ++ rs)) ∧ ∃ V3, Sub V V3 ∧ Pw BytR V3 q.2.2.1 q.2.2.2 ∧ Rel W V [.row q.2.1 22 1 (q.2.2.1.flatMap slC)] V3 w') (fun q _ => l.length - q.1) (0, ⟨none, 0, 0⟩, [], []) ?_
  (conv => whnf)
  refine ⟨(by repeat (first | exact trivial | refine ⟨rfl, ?_⟩)), ⟨by omega, by simp, ?_, V, Sub.refl _, Pw.nil, H⟩, ?_⟩
  · dsimp only
    rw [List.drop_zero]
    cases recs fl l <;> rfl
  clear H
  rintro ⟨p, r, gs, done⟩ w ⟨hp, hdl, hrec, V3, hV3, hP, H⟩
  dsimp only at hp hdl hrec hP H ⊢
  by_cases hlt : p < l.length
  rotate_left
  · obtain rfl : p = l.length := by omega
    rw [List.drop_length, recs_nil] at hrec
    dsimp only at hrec
    rw [List.append_nil] at hrec
    rw [hrec]
    obtain ⟨V4, hV4, H, hr⟩ := Rel.freezeF H (fun _ => rfl) (by decide)
    (first | (refine H.wg ?_; clear H; intros; rename_i w H; constructor) | refine wk ?_)
    exact ⟨V4, r, gs, true, hV3.trans hV4, H.sx, rfl, rfl, hr, hP.up (fun _ _ _ _ k h => h.up k) hV4⟩
  have hd := List.drop_eq_getElem_cons hlt
  have hbad : rdLine fl (l.drop p) = none → recs fl l = none := fun h => by
    rw [hrec, recs_none (by rw [hd]; exact List.cons_ne_nil _ _) h]
  obtain ⟨p0, c0⟩ := (hs.up hV3).at1 (g := bv) (fun _ => rfl) hlt
  by_cases h58 : l[p] = 58
  rotate_left
  · rw [hbad (by rw [hd, rdLine_cons, if_neg fun q => h58 q.1])]
    have hne : l[p].toNat ≠ 58 := fun e => h58 (UInt8.toNat_inj.1 e)
    generalize l[p] = c at c0 hne
    (first | (refine H.wg ?_; clear H; intros; rename_i w H; constructor) | refine wk ?_)
    exact ⟨V3, ⟨none, 0, 0⟩, [], false, hV3, H.sx, rfl, rfl⟩
  rw [h58] at c0 hd
  rw [hd] at hbad
  rw [rdLine_cons] at hbad
  (first | (refine H.wg ?_; clear H; intros; rename_i w H; constructor) | refine wk ?_)
  replace H := H.rowNil 5 1
  refine SemC.cut 2 (fun q : Nat × Sl => [(0, s.v), (1, .bool (lowF fl)), (2, .bool (decide (2 ≤ fl))), (8, r.v), (9, iv q.1), (10, q.2.v)])
    (fun q w' => ∃ raw, p + 1 ≤ q.1 ∧ q.1 ≤ l.length ∧ raw.length ≤ 1000 ∧ pairs (lowF fl) (l.drop (p + 1)) = (raw, l.drop q.1) ∧ Rel W V [.row q.2 5 1 (raw.flatMap byC), .row r 22 1 (gs.flatMap slC)] V3 w') ?_ ?_
  · refine loop_inv (S := Nat × Sl × List UInt8) tabOk [0, 1, 2, 6, 7, 8, 11, 12, 16, 21, 69, 80, 93, 99, 126] (fun q => [(9, iv q.1), (10, q.2.1.v)]) (fun q w' => p + 1 ≤ q.1 ∧ q.1 ≤ l.length ∧ q.2.2.length ≤ q.1 ∧ pairs (lowF fl) (l.drop (p + 1)) = (q.2.2 ++ (pairs (lowF fl) (l.drop q.1)).1, (pairs (lowF fl) (l.drop q.1)).2) ∧ Rel W V [.row q.2.1 5 1 (q.2.2.flatMap byC), .row r 22 1 (gs.flatMap slC)] V3 w') (fun q _ => l.length - q.1) (p + 1, ⟨none, 0, 0⟩, []) ?_
    (conv => whnf)
    refine ⟨⟨congrArg (fun z => some (iv z)) (by dsimp only; omega), rfl, trivial⟩, ⟨by omega, by dsimp only; omega, by simp, rfl, H⟩, ?_⟩
    clear H
    rintro ⟨q, rr, raw⟩ w ⟨hq1, hq2, hrl, hpr, H⟩
    dsimp only at hq1 hq2 hrl hpr H ⊢
    by_cases hq : q + 1 < l.length
    rotate_left
    · have e := pairs_short (lo := lowF fl) (l := l.drop q) (by rw [List.length_drop]; omega)
      rw [e] at hpr
      dsimp only at hpr
      rw [List.append_nil] at hpr
      (first | (refine H.wg ?_; clear H; intros; rename_i w H; constructor) | refine wk ?_)
      exact ⟨(q, rr), (by repeat (first | exact trivial | refine ⟨rfl, ?_⟩)), raw, hq1, hq2, by omega, hpr, H⟩
    have hd1 : l.drop q = l[q] :: l[q + 1] :: l.drop (q + 2) := by rw [List.drop_eq_getElem_cons (show q < l.length by omega), List.drop_eq_getElem_cons hq]
    obtain ⟨pq, d0⟩ := (hs.up hV3).at1 (g := bv) (fun _ => rfl) (show q < l.length by omega)
    obtain ⟨_, d1⟩ := (hs.up hV3).at1 (g := bv) (fun _ => rfl) hq
    generalize l[q] = a at d0 hd1
    generalize l[q + 1] = b at d1 hd1
    (first | (refine H.wg ?_; clear H; intros; rename_i w H; constructor) | refine wk ?_)
    refine (hexDigit_ref a (lowF fl) H.data).use ?_
    rintro v w ⟨rfl, K⟩
    (have hKb := K.base; replace H := H.call0 K)
    cases hx : hdg (lowF fl) a with
    | none =>
      have hn := hdI_neg.2 hx
      have e := pairs_n1 (b := b) (t := l.drop (q + 2)) hx
      rw [← hd1] at e
      rw [e] at hpr
      dsimp only at hpr
      rw [List.append_nil] at hpr
      generalize hdI (lowF fl) a = z at hn
      (first | (refine H.wg ?_; clear H; intros; rename_i w H; constructor) | refine wk ?_)
      exact ⟨(q, rr), (by repeat (first | exact trivial | refine ⟨rfl, ?_⟩)), raw, hq1, hq2, by omega, hpr, H.sx⟩
    | some x =>
    have hx1 := hdI_some hx
    rw [hx1]
    (first | (refine H.wg ?_; clear H; intros; rename_i w H; constructor) | refine wk ?_)
    refine (hexDigit_ref b (lowF fl) H.data).use ?_
    rintro v w ⟨rfl, K⟩
    (have hKb := K.base; replace H := H.call0 K)
    cases hy : hdg (lowF fl) b with
    | none =>
      have hn := hdI_neg.2 hy
      have e := pairs_n2 (t := l.drop (q + 2)) hx hy
      rw [← hd1] at e
      rw [e] at hpr
      dsimp only at hpr
      rw [List.append_nil] at hpr
      generalize hdI (lowF fl) b = z at hn
      (first | (refine H.wg ?_; clear H; intros; rename_i w H; constructor) | refine wk ?_)
      exact ⟨(q, rr), (by repeat (first | exact trivial | refine ⟨rfl, ?_⟩)), raw, hq1, hq2, by omega, hpr, H.sx⟩
    | some y =>
    have hy1 := hdI_some hy
    rw [hy1]
    have hx16 := (hdg_some hx).1
    have hy16 := (hdg_some hy).1
    have e := pairs_y (t := l.drop (q + 2)) hx hy
    rw [← hd1] at e
    rw [e] at hpr
    dsimp only at hpr
    (first | (refine H.wg ?_; clear H; intros; rename_i w H; constructor) | refine wk ?_)
    ((first | refine draw_vc (id := 9) tabOk mixed [6] [0, 1, 2, 3, 4, 5, 8, 9, 10, 11, 12, 13, 6, 7, 14, 15, 16, 17, 18, 19] (by kernel_rfl) ?_); intro w hdw; replace H := Rel.ext H hdw.ext)
    (first | (refine H.wg ?_; clear H; intros; rename_i w H; constructor) | refine wk ?_)
    refine (hexDigit_ref a (lowF fl) H.data).use ?_
    rintro v w ⟨rfl, K⟩
    (have hKb := K.base; replace H := H.call0 K)
    rw [hx1]
    (first | (refine H.wg ?_; clear H; intros; rename_i w H; constructor) | refine wk ?_)
    refine (hexDigit_ref b (lowF fl) H.data).use ?_
    rintro v w ⟨rfl, K⟩
    (have hKb := K.base; replace H := H.call0 K)
    rw [hy1]
    (first | (refine H.wg ?_; clear H; intros; rename_i w H; constructor) | refine wk ?_)
    rw [show Value.int .u8 (wr .u8 (16 * (x : Int) + (y : Int))) = bv (UInt8.ofNat (16 * x + y)) by
      simp only [bv]
      rw [toNat_ofNat_lt (by omega)]
      congr 1
      show (16 * (x : Int) + (y : Int)) % 256 = _
      omega] at H
    refine Rel.app1_0 (f := byC) (l := raw) (x := UInt8.ofNat (16 * x + y)) tabOk rfl rfl rfl rfl rfl (by decide) (fun _ => rfl) (by simp [Value.oneCell', bv]) H (by show (raw.length + 1) * 1 ≤ _; omega) (by omega) ?_
    clear H
    intro r1 w H
    (first | (refine H.wg ?_; clear H; intros; rename_i w H; constructor) | refine wk ?_)
    exact ⟨(by repeat (first | exact trivial | refine ⟨rfl, ?_⟩)), (q + 2, r1, raw ++ [UInt8.ofNat (16 * x + y)]), ⟨congrArg (fun z => some (iv z)) (by dsimp only; omega), rfl, trivial⟩, ⟨by dsimp only; omega, by dsimp only; omega, by simp; omega, by dsimp only; rw [List.append_assoc]; exact hpr, H⟩, by dsimp only; omega⟩
  clear H
  rintro ⟨q, rr⟩ w ⟨raw, hq1, hq2, hrl, hpr, H⟩
  dsimp only at hq1 hq2 hpr H ⊢
  rw [hpr] at hbad
  dsimp only at hbad
  have hbad' : ¬ ((l.drop q).take (endB fl).length = endB fl ∧ recOk raw) → recs fl l = none := fun h => hbad (by rw [if_neg fun z => h z.2])
  have hgood : (l.drop q).take (endB fl).length = endB fl → recOk raw → rdLine fl (l.drop p) = some (raw, (l.drop q).drop (endB fl).length) := fun h1 h2 => by
    rw [hd, rdLine_cons, hpr, if_pos ⟨rfl, h1, h2⟩]
  clear hbad
  obtain ⟨V4, hV4, H, hr⟩ := Rel.freezeF H (fun _ => rfl) (by decide)
  have hV34 := hV3.trans hV4
  have hrn := hr.len
  by_cases h2 : 2 ≤ fl
  · have he : endB fl = [13, 10] := by unfold endB; rw [if_pos h2]
    rw [he] at hbad' hgood
    by_cases hq3 : q < l.length
    rotate_left
    · rw [hbad' fun z => by
        have := z.1
        rw [List.drop_of_length_le (by omega)] at this
        cases this]
      (first | (refine H.wg ?_; clear H; intros; rename_i w H; constructor) | refine wk ?_)
      exact ⟨V4, ⟨none, 0, 0⟩, [], false, hV34, H.sx, rfl, rfl⟩
    obtain ⟨pq, d0⟩ := (hs.up hV34).at1 (g := bv) (fun _ => rfl) hq3
    have hdq := List.drop_eq_getElem_cons hq3
    by_cases h13 : l[q] = 13
    rotate_left
    · rw [hbad' fun z => by
        have := z.1
        rw [hdq] at this
        exact h13 (List.cons.inj this).1]
      have hne : l[q].toNat ≠ 13 := fun e => h13 (UInt8.toNat_inj.1 e)
      generalize l[q] = c at d0 hne
      (first | (refine H.wg ?_; clear H; intros; rename_i w H; constructor) | refine wk ?_)
      exact ⟨V4, ⟨none, 0, 0⟩, [], false, hV34, H.sx, rfl, rfl⟩
    rw [h13] at d0 hdq
    by_cases hq4 : q + 1 < l.length
    rotate_left
    · rw [hbad' fun z => by
        have := z.1
        rw [hdq, List.drop_of_length_le (show l.length ≤ q + 1 by omega)] at this
        cases this]
      (first | (refine H.wg ?_; clear H; intros; rename_i w H; constructor) | refine wk ?_)
      (first | (refine H.wg ?_; clear H; intros; rename_i w H; constructor) | refine wk ?_)
      exact ⟨V4, ⟨none, 0, 0⟩, [], false, hV34, H.sx, rfl, rfl⟩
    obtain ⟨_, d1⟩ := (hs.up hV34).at1 (g := bv) (fun _ => rfl) hq4
    have hdq1 := List.drop_eq_getElem_cons hq4
    rw [hdq1] at hdq
    by_cases h10 : l[q + 1] = 10
    rotate_left
    · rw [hbad' fun z => by
        have := z.1
        rw [hdq] at this
        exact h10 (List.cons.inj (List.cons.inj this).2).1]
      have hne : l[q + 1].toNat ≠ 10 := fun e => h10 (UInt8.toNat_inj.1 e)
      generalize l[q + 1] = c at d1 hne
      (first | (refine H.wg ?_; clear H; intros; rename_i w H; constructor) | refine wk ?_)
      (first | (refine H.wg ?_; clear H; intros; rename_i w H; constructor) | refine wk ?_)
      exact ⟨V4, ⟨none, 0, 0⟩, [], false, hV34, H.sx, rfl, rfl⟩
    rw [h10] at d1 hdq
    have htk : (l.drop q).take 2 = [13, 10] := by rw [hdq]; rfl
    have hdr : (l.drop q).drop 2 = l.drop (q + 2) := by rw [List.drop_drop]
    (first | (refine H.wg ?_; clear H; intros; rename_i w H; constructor) | refine wk ?_)
    refine loop_inv (S := Nat) tabOk [0, 1, 2, 6, 7, 8, 9, 10, 16, 21, 47, 69, 80, 93, 126] (fun k => [(11, iv ((sumB (raw.take k) : Nat) : Int)), (12, iv k)]) (fun k w' => k ≤ raw.length ∧ Rel W V [.row r 22 1 (gs.flatMap slC)] V4 w') (fun k _ => raw.length - k) 0 ?_
    (conv => whnf)
    refine ⟨(by repeat (first | exact trivial | refine ⟨rfl, ?_⟩)), ⟨by omega, H⟩, ?_⟩
    clear H
    rintro k w ⟨hk, H⟩
    have hsb := sumB_le (raw.take k)
    rw [List.length_take] at hsb
    by_cases hkl : k < raw.length
    · obtain ⟨pr, e0⟩ := hr.at1 (g := bv) (fun _ => rfl) hkl
      have hst := sumB_step hkl
      have hc := (raw[k]).toNat_lt
      generalize raw[k] = c at e0 hst hc
      obtain ⟨z, hz⟩ : ∃ z, z = sumB (raw.take k) := ⟨_, rfl⟩
      rw [← hz] at hst hsb ⊢
      (first | (refine H.wg ?_; clear H; intros; rename_i w H; constructor) | refine wk ?_)
      exact ⟨(by repeat (first | exact trivial | refine ⟨rfl, ?_⟩)), k + 1, ⟨congrArg (fun z => some (iv z)) (by rw [hst]; omega), congrArg (fun z => some (iv z)) (by omega), trivial⟩, ⟨by omega, H⟩, by omega⟩
    obtain rfl : k = raw.length := by omega
    rw [List.take_length] at hsb ⊢
    obtain ⟨z, hz⟩ : ∃ z, z = sumB raw := ⟨_, rfl⟩
    rw [← hz] at hsb ⊢
    by_cases h5 : 5 ≤ raw.length
    rotate_left
    · rw [hbad' fun z => h5 z.2.1]
      (first | (refine H.wg ?_; clear H; intros; rename_i w H; constructor) | refine wk ?_)
      exact ⟨V4, ⟨none, 0, 0⟩, [], false, hV34, H.sx, rfl, rfl⟩
    obtain ⟨pr, e0⟩ := hr.at1 (g := bv) (fun _ => rfl) (i := 0) (by omega)
    have hb0 : b8 raw 0 = (raw[0]'(by omega)).toNat := by simp [b8, show 0 < raw.length by omega]
    have hlt0 := (raw[0]'(by omega)).toNat_lt
    by_cases h6 : raw.length = 5 + b8 raw 0
    rotate_left
    · rw [hbad' fun z => h6 z.2.2.1]
      rw [hb0] at h6
      (first | (refine H.wg ?_; clear H; intros; rename_i w H; constructor) | refine wk ?_)
      exact ⟨V4, ⟨none, 0, 0⟩, [], false, hV34, H.sx, rfl, rfl⟩
    have h6' := h6
    rw [hb0] at h6'
    by_cases h7 : z % 256 = 0
    rotate_left
    · rw [hbad' fun y => h7 (by rw [hz]; exact y.2.2.2)]
      (first | (refine H.wg ?_; clear H; intros; rename_i w H; constructor) | refine wk ?_)
      exact ⟨V4, ⟨none, 0, 0⟩, [], false, hV34, H.sx, rfl, rfl⟩
    have hok : recOk raw := ⟨h5, h6, by rw [← hz]; exact h7⟩
    have hline := hgood htk hok
    replace hline : rdLine fl (l.drop p) = some (raw, l.drop (q + 2)) := by rw [← hdr]; exact hline
    rw [recs_step hline] at hrec
    (first | (refine H.wg ?_; clear H; intros; rename_i w H; constructor) | refine wk ?_)
    refine Rel.app1_0 (f := slC) (l := gs) (x := rr) tabOk rfl rfl rfl rfl rfl (by decide) (fun _ => rfl) (by simp [Value.oneCell']) H (by show (gs.length + 1) * 24 ≤ _; have := hP.len; omega) (by have := hP.len; omega) ?_
    clear H
    intro r1 w H
    (first | (refine H.wg ?_; clear H; intros; rename_i w H; constructor) | refine wk ?_)
    refine ⟨(by repeat (first | exact trivial | refine ⟨rfl, ?_⟩)), ((q + 2), r1, gs ++ [rr], done ++ [raw]), ⟨rfl, congrArg (fun z => some (iv z)) (by dsimp only; omega), trivial⟩, ⟨by dsimp only; omega, by simp; omega, ?_, V4, hV34, (hP.up (fun _ _ _ _ k h => h.up k) hV4).snoc hr, H⟩, by dsimp only; omega⟩
    dsimp only
    rw [hrec]
    cases recs fl (l.drop (q + 2)) with
    | none => rfl
    | some rs => simp only [List.append_assoc, List.cons_append, List.nil_append]
  · have he : endB fl = [10] := by unfold endB; rw [if_neg h2]
    rw [he] at hbad' hgood
    by_cases hq3 : q < l.length
    rotate_left
    · rw [hbad' fun z => by
        have := z.1
        rw [List.drop_of_length_le (by omega)] at this
        cases this]
      (first | (refine H.wg ?_; clear H; intros; rename_i w H; constructor) | refine wk ?_)
      exact ⟨V4, ⟨none, 0, 0⟩, [], false, hV34, H.sx, rfl, rfl⟩
    obtain ⟨pq, d0⟩ := (hs.up hV34).at1 (g := bv) (fun _ => rfl) hq3
    have hdq := List.drop_eq_getElem_cons hq3
    by_cases h10 : l[q] = 10
    rotate_left
    · rw [hbad' fun z => by
        have := z.1
        rw [hdq] at this
        exact h10 (List.cons.inj this).1]
      have hne : l[q].toNat ≠ 10 := fun e => h10 (UInt8.toNat_inj.1 e)
      generalize l[q] = c at d0 hne
      (first | (refine H.wg ?_; clear H; intros; rename_i w H; constructor) | refine wk ?_)
      exact ⟨V4, ⟨none, 0, 0⟩, [], false, hV34, H.sx, rfl, rfl⟩
    rw [h10] at d0 hdq
    have htk : (l.drop q).take 1 = [10] := by rw [hdq]; rfl
    have hdr : (l.drop q).drop 1 = l.drop (q + 1) := by rw [List.drop_drop]
    (first | (refine H.wg ?_; clear H; intros; rename_i w H; constructor) | refine wk ?_)
    refine loop_inv (S := Nat) tabOk [0, 1, 2, 6, 7, 8, 9, 10, 16, 21, 47, 69, 80, 93, 126] (fun k => [(11, iv ((sumB (raw.take k) : Nat) : Int)), (12, iv k)]) (fun k w' => k ≤ raw.length ∧ Rel W V [.row r 22 1 (gs.flatMap slC)] V4 w') (fun k _ => raw.length - k) 0 ?_
    (conv => whnf)
    refine ⟨(by repeat (first | exact trivial | refine ⟨rfl, ?_⟩)), ⟨by omega, H⟩, ?_⟩
    clear H
    rintro k w ⟨hk, H⟩
    have hsb := sumB_le (raw.take k)
    rw [List.length_take] at hsb
    by_cases hkl : k < raw.length
    · obtain ⟨pr, e0⟩ := hr.at1 (g := bv) (fun _ => rfl) hkl
      have hst := sumB_step hkl
      have hc := (raw[k]).toNat_lt
      generalize raw[k] = c at e0 hst hc
      obtain ⟨z, hz⟩ : ∃ z, z = sumB (raw.take k) := ⟨_, rfl⟩
      rw [← hz] at hst hsb ⊢
      (first | (refine H.wg ?_; clear H; intros; rename_i w H; constructor) | refine wk ?_)
      exact ⟨(by repeat (first | exact trivial | refine ⟨rfl, ?_⟩)), k + 1, ⟨congrArg (fun z => some (iv z)) (by rw [hst]; omega), congrArg (fun z => some (iv z)) (by omega), trivial⟩, ⟨by omega, H⟩, by omega⟩
    obtain rfl : k = raw.length := by omega
    rw [List.take_length] at hsb ⊢
    obtain ⟨z, hz⟩ : ∃ z, z = sumB raw := ⟨_, rfl⟩
    rw [← hz] at hsb ⊢
    by_cases h5 : 5 ≤ raw.length
    rotate_left
    · rw [hbad' fun z => h5 z.2.1]
      (first | (refine H.wg ?_; clear H; intros; rename_i w H; constructor) | refine wk ?_)
      exact ⟨V4, ⟨none, 0, 0⟩, [], false, hV34, H.sx, rfl, rfl⟩
    obtain ⟨pr, e0⟩ := hr.at1 (g := bv) (fun _ => rfl) (i := 0) (by omega)
    have hb0 : b8 raw 0 = (raw[0]'(by omega)).toNat := by simp [b8, show 0 < raw.length by omega]
    have hlt0 := (raw[0]'(by omega)).toNat_lt
    by_cases h6 : raw.length = 5 + b8 raw 0
    rotate_left
    · rw [hbad' fun z => h6 z.2.2.1]
      rw [hb0] at h6
      (first | (refine H.wg ?_; clear H; intros; rename_i w H; constructor) | refine wk ?_)
      exact ⟨V4, ⟨none, 0, 0⟩, [], false, hV34, H.sx, rfl, rfl⟩
    have h6' := h6
    rw [hb0] at h6'
    by_cases h7 : z % 256 = 0
    rotate_left
    · rw [hbad' fun y => h7 (by rw [hz]; exact y.2.2.2)]
      (first | (refine H.wg ?_; clear H; intros; rename_i w H; constructor) | refine wk ?_)
      exact ⟨V4, ⟨none, 0, 0⟩, [], false, hV34, H.sx, rfl, rfl⟩
    have hok : recOk raw := ⟨h5, h6, by rw [← hz]; exact h7⟩
    have hline := hgood htk hok
    replace hline : rdLine fl (l.drop p) = some (raw, l.drop (q + 1)) := by rw [← hdr]; exact hline
    rw [recs_step hline] at hrec
    (first | (refine H.wg ?_; clear H; intros; rename_i w H; constructor) | refine wk ?_)
    refine Rel.app1_0 (f := slC) (l := gs) (x := rr) tabOk rfl rfl rfl rfl rfl (by decide) (fun _ => rfl) (by simp [Value.oneCell']) H (by show (gs.length + 1) * 24 ≤ _; have := hP.len; omega) (by have := hP.len; omega) ?_
    clear H
    intro r1 w H
    (first | (refine H.wg ?_; clear H; intros; rename_i w H; constructor) | refine wk ?_)
    refine ⟨(by repeat (first | exact trivial | refine ⟨rfl, ?_⟩)), ((q + 1), r1, gs ++ [rr], done ++ [raw]), ⟨rfl, congrArg (fun z => some (iv z)) (by dsimp only; omega), trivial⟩, ⟨by dsimp only; omega, by simp; omega, ?_, V4, hV34, (hP.up (fun _ _ _ _ k h => h.up k) hV4).snoc hr, H⟩, by dsimp only; omega⟩
    dsimp only
    rw [hrec]
    cases recs fl (l.drop (q + 1)) with
    | none => rfl
    | some rs => simp only [List.append_assoc, List.cons_append, List.nil_append]
end
end Go.Proofs.Ytjfcpnlacodjjaa
