/-
  Files of hexadecimal records: readResidue, Explain.
-/
import Derived.Test.YtjfcpnlacodjjaaGreatHexF
import Derived.Test.YtjfcpnlacodjjaaGreatHexP
import Derived.Test.YtjfcpnlacodjjaaGreatLibE
import Derived.Test.YtjfcpnlacodjjaaGreatHexA
namespace Go.Proofs.YtjfcpnlacodjjaaGreat
open Go Go.RowKit

set_option maxRecDepth 100000 in
set_option maxHeartbeats 1000000 in
theorem readSlice_ints {V W : World} (hV : Sub V W) {s : Sl} {l : List UInt8} (hs : Byt V s l) (hl : l.length ≤ 1099511627776) {p : Nat} (hp : p ≤ l.length) {m : Int} (hm : 0 ≤ m ∧ m ≤ 4294967296) {g : FuncId} {cap : List Value} {one : Nat → Got Int}
    (hone : ∀ q, q ≤ l.length → Reads V g cap s iv (fun _ x y => x = y) q (one q)) (hin : ∀ q x q', q ≤ l.length → one q = .ok x q' → q' ≤ l.length) :
    Ret Tryz.prog 42 [s.v, iv p, iv m, .func (.func g) #[] cap.toArray].toArray W (ReadR Sl.v (RL itC (fun _ x y => x = y)) W V (listAt l one m p)) := by
  have H := Rel.start hV
  have hlen := hs.len
  have hR : ∀ (V V' : World) (x : Int) (y : Int), Sub V V' → ((fun _ x y => x = y) : World → Int → Int → Prop) V x y → ((fun _ x y => x = y) : World → Int → Int → Prop) V' x y := fun _ _ _ _ _ h => h
  refine cal_of_vc tabOk Tryz.func42 rfl (by kernel_rfl) 64 rfl (by simp) [0, 1, 2, 3, 8, 9, 10, 11, 12, 13, 14, 15, 16, 17, 25, 30, 40, 41, 42, 53] ?_
  (first | (refine H.wh ?_; clear H; intros; rename_i w H; constructor) | refine wk ?_)
  ((first | refine Rel.nwD H ?_ | refine Rel.nw H ?_); clear H; intro w b10 H)
  (first | (refine H.wg ?_; clear H; intros; rename_i w H; constructor) | refine wk ?_)
  refine (readNumber_spec H.data hs hl hp).use ?_
  rintro v w ⟨rfl, K⟩
  replace H := H.call K
  simp only [List.nil_append] at H
  cases hn : numAt l p with
  | bad c i =>
    have hc0 := numAt_ne hn
    have hr : listAt l one m p = .bad c i := by rw [listAt, hn]
    rw [hr]
    (first | (refine H.wh ?_; clear H; intros; rename_i w H; constructor) | refine wk ?_)
    ((first | refine Rel.nwD H ?_ | refine Rel.nw H ?_); clear H; intro w b13 H)
    (first | (refine H.wg ?_; clear H; intros; rename_i w H; constructor) | refine wk ?_)
    ((first | refine draw_vc (id := 3) tabOk mixed [] [0, 1, 2, 3] (by kernel_rfl) ?_ | refine draw_vc (id := 11) tabOk mixed [] [0, 1, 2, 3] (by kernel_rfl) ?_); intro w hdw; replace H := Rel.ext H hdw.ext)
    (first | (refine H.wg ?_; clear H; intros; rename_i w H; constructor) | refine wk ?_)
    exact ⟨V, ⟨none, 0, 0⟩, 0, c, i, Sub.refl _, H.sx, rfl, rfl, rfl, hc0⟩
  | ok n q0 =>
    obtain ⟨h1, h2, h3, h4, h5⟩ := numAt_ok hp hn
    (first | (refine H.wh ?_; clear H; intros; rename_i w H; constructor) | refine wk ?_)
    ((first | refine Rel.nwD H ?_ | refine Rel.nw H ?_); clear H; intro w b13 H)
    by_cases hb : n < 0 ∨ m < n
    · have hr : listAt l one m p = .bad 4 p := by rw [listAt, hn]; simp only; rw [if_pos hb]
      rw [hr]
      by_cases hn0 : n < 0
      all_goals
        (first | (refine H.wg ?_; clear H; intros; rename_i w H; constructor) | refine wk ?_)
        refine (fault_wire H.data 4 p).use ?_
        rintro v w ⟨rfl, K⟩
        replace H := H.call K
        simp only [List.nil_append] at H
        (first | (refine H.wg ?_; clear H; intros; rename_i w H; constructor) | refine wk ?_)
        exact ⟨V, ⟨none, 0, 0⟩, 0, 4, p, Sub.refl _, H.sx, rfl, rfl, rfl, by decide⟩
    have hr : listAt l one m p = manyAt one n.toNat q0 := by rw [listAt, hn]; simp only; rw [if_neg hb]
    rw [hr]
    obtain ⟨N, rfl⟩ : ∃ N : Nat, n = N := ⟨n.toNat, by omega⟩
    rw [Int.toNat_natCast]
    (first | (refine H.wg ?_; clear H; intros; rename_i w H; constructor) | refine wk ?_)
    replace H := H.rowNil 3 1
    refine loop_inv (S := Nat × Nat × Sl × List Int × List Int) tabOk [0, 1, 2, 3, 10, 11, 13, 25, 30, 40] (fun k => [(12, iv k.2.1), (14, k.2.2.1.v), (41, iv k.1)]) (fun k w' => k.1 ≤ N ∧ k.2.1 ≤ l.length ∧ k.2.2.2.1.length = k.1 ∧ manyAt one k.1 q0 = .ok k.2.2.2.2 k.2.1 ∧ ∃ V1, Sub V V1 ∧ Pw (fun _ x y => x = y) V1 k.2.2.2.1 k.2.2.2.2 ∧ Rel W V [.row k.2.2.1 3 1 (k.2.2.2.1.flatMap itC), .blk b13 [iv 0, iv 0] 29, .blk b10 [iv 0, iv 0] 29] V1 w') (fun k _ => N - k.1) (0, q0, ⟨none, 0, 0⟩, [], []) ?_
    (conv => whnf)
    refine ⟨(by repeat (first | exact trivial | refine ⟨rfl, ?_⟩)), ⟨by omega, h2, rfl, rfl, V, Sub.refl _, Pw.nil, H.sx⟩, ?_⟩
    clear H
    rintro ⟨k, q, r, xs, ys⟩ w ⟨hk, hq, hxl, hma, V1, hV1, hpw, H⟩
    dsimp only at hk hq hxl hma hpw H
    by_cases hlt : k < N
    rotate_left
    · obtain rfl : k = N := by omega
      (first | (refine H.wg ?_; clear H; intros; rename_i w H; constructor) | refine wk ?_)
      obtain ⟨V2, hV2, H, hrr⟩ := Rel.freezeF H (fun _ => rfl) (by decide)
      rw [hma]
      exact ⟨V2, r, q, 0, 0, hV1.trans hV2, H.sx, rfl, rfl, rfl, rfl, xs, hrr, hpw.up hR hV2⟩
    (first | (refine H.wg ?_; clear H; intros; rename_i w H; constructor) | refine wk ?_)
    refine (hone q hq V1 w hV1 H.data).use ?_
    rintro v w ⟨V2, x, n2, c, i, hV2, K, rfl, hres⟩
    replace H := H.call K
    simp only [List.nil_append] at H
    cases ho : one q with
    | bad c' i' =>
      rw [ho] at hres
      obtain ⟨rfl, rfl, hc0⟩ := hres
      have hmb : manyAt one N q0 = .bad c i := by
        have := manyAt_badAt hma ho (N - (k + 1))
        rwa [show k + 1 + (N - (k + 1)) = N by omega] at this
      rw [hmb]
      (first | (refine H.wg ?_; clear H; intros; rename_i w H; constructor) | refine wk ?_)
      ((first | refine draw_vc (id := 3) tabOk mixed [] [0, 1, 2, 3] (by kernel_rfl) ?_ | refine draw_vc (id := 11) tabOk mixed [] [0, 1, 2, 3] (by kernel_rfl) ?_); intro w hdw; replace H := Rel.ext H hdw.ext)
      (first | (refine H.wg ?_; clear H; intros; rename_i w H; constructor) | refine wk ?_)
      exact ⟨V2, ⟨none, 0, 0⟩, 0, c, i, hV1.trans hV2, H.sx, rfl, rfl, rfl, hc0⟩
    | ok y q' =>
      rw [ho] at hres
      obtain ⟨rfl, rfl, rfl, hxy⟩ := hres
      have hq' := hin q y q' hq ho
      (first | (refine H.wg ?_; clear H; intros; rename_i w H; constructor) | refine wk ?_)
      refine Rel.app1_1 (f := itC) (l := xs) (x := x) tabOk rfl rfl rfl rfl rfl (by decide) (fun _ => rfl) (List.all_eq_true.1 rfl) H (by simp; omega) (by omega) ?_
      clear H
      intro rn w H
      (first | (refine H.wg ?_; clear H; intros; rename_i w H; constructor) | refine wk ?_)
      exact ⟨(by repeat (first | exact trivial | refine ⟨rfl, ?_⟩)), (k + 1, q', rn, xs ++ [x], ys ++ [y]), (by repeat (first | exact trivial | refine ⟨rfl, ?_⟩)), ⟨by omega, hq', by simp [hxl], manyAt_step hma ho, V2, hV1.trans hV2, (hpw.up hR hV2).snoc hxy, H.sx⟩, by omega⟩
section
variable {V W : World}
theorem containsFunc_ints (hV : Sub V W) {s : Sl} {l : List Int} (hs : SlF itC V s l) (hl : l.length ≤ 1099511627776) {g : FuncId} {caps : List Value} (p : Int → Bool)
    (hg : ∀ (x : Int) (w : World), x ∈ l → Sub V w → Ret Tryz.prog g (iv x :: caps).toArray w fun v w' => v = .bool (p x) ∧ Rel w V [] V w') :
    Ret Tryz.prog 44 [s.v, .func (.func g) #[] caps.toArray].toArray W fun v w' => v = .bool (l.any p) ∧ Rel W V [] V w' := by
  have key : Ret Tryz.prog 69 [s.v, .func (.func g) #[] caps.toArray].toArray W fun v w' => (∃ i : Int, v = iv i ∧ (0 ≤ i ↔ l.any p = true)) ∧ Rel W V [] V w' := by
    have H := Rel.start hV
    have hlen := hs.len
    refine cal_of_vc tabOk Tryz.func69 rfl (by kernel_rfl) 19 rfl (by simp) [0, 1, 4, 5, 7, 8, 9, 16] ?_
    (first | (refine H.wg ?_; clear H; intros; rename_i w H; constructor) | refine wk ?_)
    refine loop_inv (S := Nat) tabOk [0, 1, 7] (fun k => [(8, iv k)]) (fun k w' => k ≤ l.length ∧ (l.take k).any p = false ∧ Rel W V [] V w') (fun k _ => l.length - k) 0 ?_
    (conv => whnf)
    refine ⟨(by repeat (first | exact trivial | refine ⟨rfl, ?_⟩)), ⟨by omega, by simp, H⟩, ?_⟩
    clear H
    rintro k w ⟨hk, hz, H⟩
    by_cases hlt : k < l.length
    · obtain ⟨hp, hc⟩ := hs.at1 (g := iv) (fun _ => rfl) hlt
      (first | (refine H.wg ?_; clear H; intros; rename_i w H; constructor) | refine wk ?_)
      refine (hg l[k] _ (List.getElem_mem hlt) H.data).use ?_
      rintro v w ⟨rfl, K⟩
      replace H := H.call K
      (conv => whnf)
      refine condG_split (fun h1 => ?_) (fun h1 => ?_)
      · (first | (refine H.wg ?_; clear H; intros; rename_i w H; constructor) | refine wk ?_)
        refine ⟨⟨k, rfl, fun _ => ?_, fun _ => by omega⟩, H⟩
        rw [List.any_eq_true]
        exact ⟨l[k], List.getElem_mem hlt, h1⟩
      · (first | (refine H.wg ?_; clear H; intros; rename_i w H; constructor) | refine wk ?_)
        exact ⟨(by repeat (first | exact trivial | refine ⟨rfl, ?_⟩)), k + 1, (by repeat (first | exact trivial | refine ⟨rfl, ?_⟩)), ⟨by omega, by rw [any_take hlt, hz, h1]; rfl, H⟩, by omega⟩
    · (first | (refine H.wg ?_; clear H; intros; rename_i w H; constructor) | refine wk ?_)
      refine ⟨⟨-1, rfl, fun h => by omega, fun h => ?_⟩, H⟩
      rw [List.take_of_length_le (by omega)] at hz
      rw [hz] at h
      cases h
  refine cal_of_vc tabOk Tryz.func44 rfl (by kernel_rfl) 9 rfl (by simp) [0, 1, 4] ?_
  (conv => whnf)
  refine key.use ?_
  rintro v w ⟨⟨i, rfl, hi⟩, H⟩
  (conv => whnf)
  refine ⟨?_, H⟩
  simp only [hi]
  cases l.any p <;> rfl
/-! lengths of lists -/
theorem manyAt_len {α : Type} {one : Nat → Got α} : ∀ {n p q : Nat} {l : List α}, manyAt one n p = .ok l q → l.length = n
  | 0, p, q, l, h => by
    simp only [manyAt] at h
    cases h
    rfl
  | n + 1, p, q, l, h => by
    simp only [manyAt] at h
    split at h
    · cases h
    · split at h
      · cases h
      · rename_i h2
        cases h
        simp [manyAt_len h2]
theorem listAt_len {α : Type} {l : List UInt8} {one : Nat → Got α} {m : Int} {p q : Nat} {ys : List α} (h : listAt l one m p = .ok ys q) : (ys.length : Int) ≤ m := by
  unfold listAt at h
  split at h
  · cases h
  · split at h
    · cases h
    · have := manyAt_len h
      omega
def wrongS (n : Int) : Bool := decide (n < 1 ∨ 255 < n)
theorem wrong_spec (hV : Sub V W) (n : Int) : Ret Tryz.prog 43 [iv n].toArray W fun v w' => v = .bool (wrongS n) ∧ Rel W V [] V w' := by
  have H := Rel.start hV
  refine cal_of_vc tabOk Tryz.func43 rfl (by kernel_rfl) 9 rfl (by simp) [0, 2] ?_
  unfold wrongS
  by_cases h1 : n < 1
  · rw [decide_eq_true (show n < 1 ∨ 255 < n from .inl h1)]
    (first | (refine H.wg ?_; clear H; intros; rename_i w H; constructor) | refine wk ?_)
    exact H.sx
  · by_cases h2 : 255 < n
    · rw [decide_eq_true (show n < 1 ∨ 255 < n from .inr h2)]
      (first | (refine H.wg ?_; clear H; intros; rename_i w H; constructor) | refine wk ?_)
      rw [decide_eq_true h2]
      exact ⟨rfl, H.sx⟩
    · rw [decide_eq_false (show ¬ (n < 1 ∨ 255 < n) by omega)]
      (first | (refine H.wg ?_; clear H; intros; rename_i w H; constructor) | refine wk ?_)
      rw [decide_eq_false h2]
      exact ⟨rfl, H.sx⟩
theorem any_wrong {z : List Int} : z.any wrongS = !decide (szOk z) := by
  by_cases h : szOk z
  · rw [decide_eq_true h]
    rw [Bool.not_true, List.any_eq_false]
    intro n hn
    have := h n hn
    unfold wrongS
    rw [decide_eq_false (by omega)]
    decide
  · rw [decide_eq_false h]
    rw [Bool.not_false, List.any_eq_true]
    have : ∃ n, n ∈ z ∧ ¬ (1 ≤ n ∧ n ≤ 255) := Decidable.byContradiction fun q => h fun n hn => Decidable.byContradiction fun r => q ⟨n, hn, r⟩
    obtain ⟨n, hn, hne⟩ := this
    exact ⟨n, hn, by unfold wrongS; rw [decide_eq_true (by omega)]⟩
structure RdH (W V : World) (o : Option (Nat × List Nat)) (v : Value) (w' : World) : Prop where
  ex : ∃ (V' : World) (r : Sl) (c : Int) (k : Bool), Sub V V' ∧ Rel W V [] V' w' ∧ v = .tuple #[iv c, r.v, .bool k] ∧ (match o with
    | none => k = false
    | some (fl, Z) => k = true ∧ c = fl ∧ SlF itC V' r (ints Z))
theorem pw_eq {V : World} {xs ys : List Int} (h : Pw (fun _ x y => x = y) V xs ys) : xs = ys := h.eq
theorem ints_toNat {z : List Int} (h : szOk z) : ints (z.map Int.toNat) = z := by
  unfold ints
  rw [List.map_map]
  conv => rhs; rw [← List.map_id z]
  refine List.map_congr_left fun x hx => ?_
  have := h x hx
  show ((x.toNat : Nat) : Int) = x
  omega
set_option maxRecDepth 100000 in
set_option maxHeartbeats 1000000 in
theorem readResidue_hex (hV : Sub V W) {s : Sl} {b : List UInt8} (hs : Byt V s b) (hl : b.length ≤ 1099511627776) : Ret Tryz.prog 19 [s.v].toArray W (RdH W V (hexRd b)) := by
  have H := Rel.start hV
  have hlen := hs.len
  refine cal_of_vc tabOk Tryz.func19 rfl (by kernel_rfl) 59 rfl (by simp) [0, 2, 3, 4, 5, 6, 7, 10, 27, 52] ?_
  by_cases h0 : b.length = 0
  · have hb : b = [] := List.eq_nil_of_length_eq_zero h0
    have e : hexRd b = some (0, []) := by rw [hb]; exact hexRd_nil
    rw [e]
    (first | (refine H.wg ?_; clear H; intros; rename_i w H; constructor) | refine wk ?_)
    exact ⟨V, ⟨none, 0, 0⟩, 0, true, Sub.refl _, H.sx, rfl, rfl, rfl, SlF.nil _ _⟩
  have hb : b ≠ [] := fun h => h0 (by rw [h]; rfl)
  have hrd : hexRd b = match hexRaw b with
    | none => none
    | some (c, z) => if (0 ≤ c ∧ c < 4) ∧ ¬ (c = 0 ∧ z = []) ∧ szOk z then some (c.toNat, z.map Int.toNat) else none := by
    unfold hexRd
    rw [if_neg hb]
    cases hexRaw b <;> rfl
  rw [hrd]
  (first | (refine H.wg ?_; clear H; intros; rename_i w H; constructor) | refine wk ?_)
  refine (readNumber_spec (p := 0) H.data hs hl (Nat.zero_le _)).use ?_
  rintro v w ⟨rfl, K⟩
  (have hKb := K.base; replace H := H.call0 K)
  cases hn : numAt b 0 with
  | bad c i =>
    have hc0 := numAt_ne hn
    have e : hexRaw b = none := by unfold hexRaw; rw [hn]
    rw [e]
    (first | (refine H.wh ?_; clear H; intros; rename_i w H; constructor) | refine wk ?_)
    ((first | refine Rel.nwD H ?_ | refine Rel.nw H ?_); clear H; intro w b6 H)
    (first | (refine H.wg ?_; clear H; intros; rename_i w H; constructor) | refine wk ?_)
    exact ⟨V, ⟨none, 0, 0⟩, 0, false, Sub.refl _, H.sx, rfl, rfl⟩
  | ok c q =>
    obtain ⟨g1, g2, g3, g4, g5⟩ := numAt_ok (Nat.zero_le _) hn
    have hraw : hexRaw b = match listAt b (numAt b) 1000 q with
      | .bad _ _ => none
      | .ok z q => if q = b.length then some (c, z) else none := by
      unfold hexRaw
      rw [hn]
      simp only
      cases listAt b (numAt b) 1000 q <;> rfl
    (first | (refine H.wh ?_; clear H; intros; rename_i w H; constructor) | refine wk ?_)
    ((first | refine Rel.nwD H ?_ | refine Rel.nw H ?_); clear H; intro w b6 H)
    by_cases hc : c < 0 ∨ 4 ≤ c
    · have e : (match hexRaw b with
        | none => none
        | some (c, z) => if (0 ≤ c ∧ c < 4) ∧ ¬ (c = 0 ∧ z = []) ∧ szOk z then some (c.toNat, z.map Int.toNat) else none) = none := by
        rw [hraw]
        cases listAt b (numAt b) 1000 q with
        | bad _ _ => rfl
        | ok z q' =>
          simp only
          by_cases hq : q' = b.length
          · rw [if_pos hq]; simp only; rw [if_neg (by omega)]
          · rw [if_neg hq]
      rw [e]
      by_cases hcn : c < 0
      all_goals
        (first | (refine H.wg ?_; clear H; intros; rename_i w H; constructor) | refine wk ?_)
        exact ⟨V, ⟨none, 0, 0⟩, 0, false, Sub.refl _, H.sx, rfl, rfl⟩
    obtain ⟨C, rfl⟩ : ∃ C : Nat, c = C := ⟨c.toNat, by omega⟩
    (first | (refine H.wg ?_; clear H; intros; rename_i w H; constructor) | refine wk ?_)
    refine (readSlice_ints (m := 1000) H.data hs hl g2 (by constructor <;> omega) (fun p hp V1 W1 h1 h2 => Ret.mono (readNumber_spec h2 (hs.up h1) hl hp) fun v w' ⟨hv, hR⟩ => ?_) (fun p x p' hp h => (numAt_ok hp h).2.1)).use ?_
    · cases hnp : numAt b p with
      | bad c i =>
        rw [hnp] at hv
        exact ⟨V1, 0, 0, c, i, Sub.refl _, hR, hv, rfl, rfl, numAt_ne hnp⟩
      | ok x q =>
        rw [hnp] at hv
        exact ⟨V1, x, q, 0, 0, Sub.refl _, hR, hv, rfl, rfl, rfl, rfl⟩
    rintro v w ⟨V2, x, n, c, i, hV2, K, rfl, hres⟩
    (have hKb := K.base; replace H := H.call0 K)
    cases hli : listAt b (numAt b) 1000 q with
    | bad c' i' =>
      rw [hli] at hres hraw
      obtain ⟨rfl, rfl, hc0⟩ := hres
      rw [hraw]
      (first | (refine H.wg ?_; clear H; intros; rename_i w H; constructor) | refine wk ?_)
      exact ⟨V2, ⟨none, 0, 0⟩, 0, false, hV2, H.sx, rfl, rfl⟩
    | ok z q' =>
      rw [hli] at hres hraw
      obtain ⟨rfl, rfl, rfl, hns⟩ := hres
      obtain ⟨ps, hps, hpw⟩ := hns
      obtain rfl := pw_eq hpw
      have hxl := hps.len
      have hn1000 := listAt_len hli
      simp only at hraw
      by_cases hq : q' = b.length
      rotate_left
      · rw [if_neg hq] at hraw
        rw [hraw]
        (first | (refine H.wg ?_; clear H; intros; rename_i w H; constructor) | refine wk ?_)
        exact ⟨V2, ⟨none, 0, 0⟩, 0, false, hV2, H.sx, rfl, rfl⟩
      rw [if_pos hq] at hraw
      rw [hraw]
      simp only
      by_cases h2 : C = 0 ∧ ps = []
      · rw [if_neg (fun h => h.2.1 ⟨by omega, h2.2⟩)]
        have h3 : ps.length = 0 := by rw [h2.2]; rfl
        obtain ⟨rfl, _⟩ := h2
        (first | (refine H.wg ?_; clear H; intros; rename_i w H; constructor) | refine wk ?_)
        exact ⟨V2, ⟨none, 0, 0⟩, 0, false, hV2, H.sx, rfl, rfl⟩
      have hnn : C = 0 → ps.length ≠ 0 := fun h h3 => h2 ⟨h, List.eq_nil_of_length_eq_zero h3⟩
      have hfin : (if (0 ≤ (C : Int) ∧ (C : Int) < 4) ∧ ¬ ((C : Int) = 0 ∧ ps = []) ∧ szOk ps then some ((C : Int).toNat, ps.map Int.toNat) else none) = if szOk ps then some (C, ps.map Int.toNat) else none := by
        by_cases hz : szOk ps
        · rw [if_pos hz, if_pos ⟨by omega, fun h => h2 ⟨by omega, h.2⟩, hz⟩]; rfl
        · rw [if_neg hz, if_neg fun h => hz h.2.2]
      rw [hfin]
      by_cases hC : C = 0
      · have hnn1 := hnn hC
        subst hC
        (first | (refine H.wg ?_; clear H; intros; rename_i w H; constructor) | refine wk ?_)
        refine (containsFunc_ints H.data hps (by omega) (caps := []) wrongS (fun x w _ hw => wrong_spec hw x)).use ?_
        rintro v w ⟨rfl, K⟩
        (have hKb := K.base; replace H := H.call0 K)
        rw [any_wrong]
        (first | (refine H.wg ?_; clear H; intros; rename_i w H; constructor) | refine wk ?_)
        rw [Bool.not_not]
        by_cases hz : szOk ps
        · rw [if_pos hz, decide_eq_true hz]
          exact ⟨V2, x, _, true, hV2, H.sx, rfl, rfl, rfl, by rw [ints_toNat hz]; exact hps⟩
        · rw [if_neg hz, decide_eq_false hz]
          exact ⟨V2, x, _, false, hV2, H.sx, rfl, rfl⟩
      · (first | (refine H.wg ?_; clear H; intros; rename_i w H; constructor) | refine wk ?_)
        refine (containsFunc_ints H.data hps (by omega) (caps := []) wrongS (fun x w _ hw => wrong_spec hw x)).use ?_
        rintro v w ⟨rfl, K⟩
        (have hKb := K.base; replace H := H.call0 K)
        rw [any_wrong]
        (first | (refine H.wg ?_; clear H; intros; rename_i w H; constructor) | refine wk ?_)
        rw [Bool.not_not]
        by_cases hz : szOk ps
        · rw [if_pos hz, decide_eq_true hz]
          exact ⟨V2, x, _, true, hV2, H.sx, rfl, rfl, rfl, by rw [ints_toNat hz]; exact hps⟩
        · rw [if_neg hz, decide_eq_false hz]
          exact ⟨V2, x, _, false, hV2, H.sx, rfl, rfl⟩
theorem andh_1 : ∀ f : Nat, f < 4 → bitsI .and .i64 (f : Int) 1 = ((f % 2 : Nat) : Int) := by decide
theorem andh_2 : ∀ f : Nat, f < 4 → bitsI .and .i64 (f : Int) 2 = ((2 * (f / 2) : Nat) : Int) := by decide
theorem lossHex_add (f n : Nat) (hf : f < 4) : addIf (addIf (addIf [] (decide (f % 2 = 1)) (lsLower, 1)) (decide (2 ≤ f)) (lsCrlf, 1)) (decide (0 < n)) (lsRecords, (n : Int)) = lossHex f n := by
  unfold addIf lossHex
  simp only [decide_eq_true_eq]
  by_cases h1 : f % 2 = 1 <;> by_cases h2 : 2 ≤ f <;> by_cases h3 : 0 < n <;> simp [h1, h2, h3]
set_option maxRecDepth 100000 in
theorem explain_hex (hV : Sub V W) {s : Sl} {b : List UInt8} (hs : Byt V s b) (hl : b.length ≤ 100000000) : Ret Tryz.prog 12 [s.v].toArray W (ExR W V (hexLoss b)) := by
  have H := Rel.start hV
  refine cal_of_vc tabOk Tryz.func12 rfl (by kernel_rfl) 38 rfl (by simp) [0, 2, 3, 4, 5, 6, 7, 8, 16] ?_
  (first | (refine H.wh ?_; clear H; intros; rename_i w H; constructor) | refine wk ?_)
  ((first | refine Rel.nwD H ?_ | refine Rel.nw H ?_); clear H; intro w b3 H)
  (first | (refine H.wg ?_; clear H; intros; rename_i w H; constructor) | refine wk ?_)
  refine (readResidue_hex H.data hs (by omega)).use ?_
  rintro q w ⟨V2, r, c, k, hV2, K, rfl, hres⟩
  (have hKb := K.base; replace H := H.call0 K)
  unfold hexLoss
  cases hr : hexRd b with
  | none =>
    rw [hr] at hres
    obtain rfl := hres
    (first | (refine H.wg ?_; clear H; intros; rename_i w H; constructor) | refine wk ?_)
    refine (fault_hex H.data 6 (-1)).use ?_
    rintro q w ⟨rfl, K⟩
    (have hKb := K.base; replace H := H.call0 K)
    (first | (refine H.wg ?_; clear H; intros; rename_i w H; constructor) | refine wk ?_)
    exact ⟨V2, ⟨none, 0, 0⟩, hV2, H.sx, rfl⟩
  | some x =>
    obtain ⟨f, Z⟩ := x
    rw [hr] at hres
    obtain ⟨rfl, rfl, hp⟩ := hres
    obtain ⟨hf, hz1, _, _⟩ := hexRd_some hr
    have hpl := hp.len
    rw [List.length_map] at hpl
    (first | (refine H.wh ?_; clear H; intros; rename_i w H; constructor) | refine wk ?_)
    ((first | refine Rel.nwD H ?_ | refine Rel.nw H ?_); clear H; intro w b7 H)
    replace H := H.rowNil 51 2
    (first | (refine H.wh ?_; clear H; intros; rename_i w H; constructor) | refine wk ?_)
    rw [andh_1 f hf]
    (first | (refine H.wh ?_; clear H; intros; rename_i w H; constructor) | refine wk ?_)
    rw [show decide (((f % 2 : Nat) : Int) ≠ 0) = decide (f % 2 = 1) from decide_eq_decide.2 (by omega)]
    refine (add_hex H (L := []) (by simp) _ _ _).use ?_
    clear H
    rintro q w ⟨r1, H⟩
    (first | (refine H.wh ?_; clear H; intros; rename_i w H; constructor) | refine wk ?_)
    rw [andh_2 f hf]
    (first | (refine H.wh ?_; clear H; intros; rename_i w H; constructor) | refine wk ?_)
    rw [show decide (((2 * (f / 2) : Nat) : Int) ≠ 0) = decide (2 ≤ f) from decide_eq_decide.2 (by omega)]
    refine (add_hex H (Nat.le_trans (addIf_le (Nat.le_refl _)) (by decide)) _ _ _).use ?_
    clear H
    rintro q w ⟨r2, H⟩
    (first | (refine H.wg ?_; clear H; intros; rename_i w H; constructor) | refine wk ?_)
    rw [hpl, show decide ((Z.length : Int) > 0) = decide (0 < Z.length) from decide_eq_decide.2 (by omega)]
    refine (add_hex H (Nat.le_trans (addIf_le (addIf_le (Nat.le_refl _))) (by decide)) _ _ _).use ?_
    clear H
    rintro q w ⟨r3, H⟩
    rw [lossHex_add f Z.length hf] at H
    obtain ⟨V3, hV3, H, hr4⟩ := Rel.freezeF H (fun _ => rfl) (by decide)
    (first | (refine H.wg ?_; clear H; intros; rename_i w H; constructor) | refine wk ?_)
    exact ⟨V3, r3, hV2.trans hV3, H.sx, rfl, hr4⟩
end
end Go.Proofs.YtjfcpnlacodjjaaGreat
