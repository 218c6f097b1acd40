/-
  wire.Slice and wire.ReadSlice of numbers.
-/
import Derived.Test.YtkfcdjomkcmkeaaGreatDoorWirF
import Derived.Test.YtkfcdjomkcmkeaaGreatDoorVcQ
namespace Go.Proofs.YtkfcdjomkcmkeaaGreatDoor
open Go Go.RowKit

set_option maxRecDepth 100000 in
theorem slice_ints {V W : World} (hV : Sub V W) {s : Sl} {l : List Int} (hs : SlF itC V s l) {g : FuncId} {cap : List Value} {enc : Int → List UInt8} (hone : ∀ x ∈ l, OneOk V g cap (iv x) (enc x)) (hll : l.length ≤ 1099511627776) (hb : (putL enc l).length ≤ 1099511627776) :
    Ret Tryz.prog 42 [s.v, .func (.func g) #[] cap.toArray].toArray W fun v w' => ∃ r : Sl, v = r.v ∧ Rel W V [.row r 5 1 ((putL enc l).flatMap byC)] V w' := by
  have H := Rel.start hV
  have hlen := hs.len
  rw [putL, List.length_append] at hb
  refine cal_of_vc tabOk Tryz.func42 rfl (by kernel_rfl) 24 rfl (by simp) [0, 1, 4, 5, 7, 11, 12, 13, 14] ?_
  (first | (refine H.wg ?_; clear H; intros; rename_i w H; constructor) | refine wk ?_)
  rw [hlen]
  refine (number_spec (n := l.length) H.data (by constructor <;> omega)).use ?_
  rintro v w ⟨r0, rfl, K⟩
  replace H := H.call K
  (first | (refine H.wg ?_; clear H; intros; rename_i w H; constructor) | refine wk ?_)
  refine loop_inv (S := Nat × Sl) tabOk [0, 1, 4, 11, 12] (fun k => [(5, k.2.v), (13, iv k.1)]) (fun k w' => k.1 ≤ l.length ∧ ∃ V1, Sub V V1 ∧ Rel W V [.row k.2 5 1 ((putN l.length ++ (l.take k.1).flatMap enc).flatMap byC)] V1 w') (fun k _ => l.length - k.1) (0, r0) ?_
  (conv => whnf)
  refine ⟨(by repeat (first | exact trivial | refine ⟨rfl, ?_⟩)), ⟨by omega, V, Sub.refl _, by simpa using H⟩, ?_⟩
  clear H
  rintro ⟨k, r⟩ w ⟨hk, V1, hV1, H⟩
  dsimp only at hk H
  by_cases hlt : k < l.length
  rotate_left
  · (first | (refine H.wg ?_; clear H; intros; rename_i w H; constructor) | refine wk ?_)
    rw [List.take_of_length_le (by omega)] at H
    exact ⟨r, rfl, H.back⟩
  have hbl := flat_part (enc := enc) hlt
  obtain ⟨hp, hq⟩ := (hs.up hV1).at1 (g := iv) (fun _ => rfl) hlt
  (first | (refine H.wg ?_; clear H; intros; rename_i w H; constructor) | refine wk ?_)
  refine (hone l[k] (List.getElem_mem hlt) V1 w hV1 H.data).use ?_
  rintro v w ⟨V2, x, hV2, rfl, hx, K⟩
  replace H := H.call K
  simp only [List.nil_append] at H
  (first | (refine H.wg ?_; clear H; intros; rename_i w H; constructor) | refine wk ?_)
  refine Rel.appD H (i := 0) rfl hx (by simp only [List.length_append]; omega) ?_
  clear H
  intro rn w H
  rw [flat_next hlt] at H
  (first | (refine H.wg ?_; clear H; intros; rename_i w H; constructor) | refine wk ?_)
  exact ⟨(by repeat (first | exact trivial | refine ⟨rfl, ?_⟩)), (k + 1, rn), (by repeat (first | exact trivial | refine ⟨rfl, ?_⟩)), ⟨by omega, V2, hV1.trans hV2, H.sx⟩, by omega⟩
section
variable {V W : World}
theorem one_int (z : Int) (hz : I64 z) : OneOk V 41 [] (iv z) (putN z) := oneOk_of fun V1 W1 hV hVV => number_spec hV hz
end
set_option maxRecDepth 100000 in
set_option maxHeartbeats 1000000 in
theorem readSlice_ints {V W : World} (hV : Sub V W) {s : Sl} {l : List UInt8} (hs : Byt V s l) (hl : l.length ≤ 1099511627776) {p : Nat} (hp : p ≤ l.length) {m : Int} (hm : 0 ≤ m ∧ m ≤ 4294967296) {g : FuncId} {cap : List Value} {one : Nat → Got Int}
    (hone : ∀ q, q ≤ l.length → Reads V g cap s iv (fun _ x y => x = y) q (one q)) (hin : ∀ q x q', q ≤ l.length → one q = .ok x q' → q' ≤ l.length) :
    Ret Tryz.prog 48 [s.v, iv p, iv m, .func (.func g) #[] cap.toArray].toArray W (ReadR Sl.v (RL itC (fun _ x y => x = y)) W V (listAt l one m p)) := by
  have H := Rel.start hV
  have hlen := hs.len
  have hR : ∀ (V V' : World) (x : Int) (y : Int), Sub V V' → ((fun _ x y => x = y) : World → Int → Int → Prop) V x y → ((fun _ x y => x = y) : World → Int → Int → Prop) V' x y := fun _ _ _ _ _ h => h
  refine cal_of_vc tabOk Tryz.func48 rfl (by kernel_rfl) 64 rfl (by simp) [0, 1, 2, 3, 8, 9, 10, 11, 12, 13, 14, 15, 16, 17, 25, 30, 40, 41, 42, 53] ?_
  (first | (refine H.wh ?_; clear H; intros; rename_i w H; constructor) | refine wk ?_)
  ((first | refine Rel.nwD H ?_ | refine Rel.nw H ?_); clear H; intro w b10 H)
  (first | (refine H.wg ?_; clear H; intros; rename_i w H; constructor) | refine wk ?_)
  refine (readNumber_spec H.data hs hl hp).use ?_
  rintro v w ⟨rfl, K⟩
  replace H := H.call K
  simp only [List.nil_append] at H
  cases hn : numAt l p with
  | bad c i =>
    have hc0 := numAt_ne hn
    have hr : listAt l one m p = .bad c i := by rw [listAt, hn]
    rw [hr]
    (first | (refine H.wh ?_; clear H; intros; rename_i w H; constructor) | refine wk ?_)
    ((first | refine Rel.nwD H ?_ | refine Rel.nw H ?_); clear H; intro w b13 H)
    (first | (refine H.wg ?_; clear H; intros; rename_i w H; constructor) | refine wk ?_)
    ((first | refine draw_vc (id := 3) tabOk mixed [] [0, 1, 2, 3] (by kernel_rfl) ?_ | refine draw_vc (id := 11) tabOk mixed [] [0, 1, 2, 3] (by kernel_rfl) ?_); intro w hdw; replace H := Rel.ext H hdw.ext)
    (first | (refine H.wg ?_; clear H; intros; rename_i w H; constructor) | refine wk ?_)
    exact ⟨V, ⟨none, 0, 0⟩, 0, c, i, Sub.refl _, H.sx, rfl, rfl, rfl, hc0⟩
  | ok n q0 =>
    obtain ⟨h1, h2, h3, h4, h5⟩ := numAt_ok hp hn
    (first | (refine H.wh ?_; clear H; intros; rename_i w H; constructor) | refine wk ?_)
    ((first | refine Rel.nwD H ?_ | refine Rel.nw H ?_); clear H; intro w b13 H)
    by_cases hb : n < 0 ∨ m < n
    · have hr : listAt l one m p = .bad 4 p := by rw [listAt, hn]; simp only; rw [if_pos hb]
      rw [hr]
      by_cases hn0 : n < 0
      all_goals
        (first | (refine H.wg ?_; clear H; intros; rename_i w H; constructor) | refine wk ?_)
        refine (fault_wire H.data 4 p).use ?_
        rintro v w ⟨rfl, K⟩
        replace H := H.call K
        simp only [List.nil_append] at H
        (first | (refine H.wg ?_; clear H; intros; rename_i w H; constructor) | refine wk ?_)
        exact ⟨V, ⟨none, 0, 0⟩, 0, 4, p, Sub.refl _, H.sx, rfl, rfl, rfl, by decide⟩
    have hr : listAt l one m p = manyAt one n.toNat q0 := by rw [listAt, hn]; simp only; rw [if_neg hb]
    rw [hr]
    obtain ⟨N, rfl⟩ : ∃ N : Nat, n = N := ⟨n.toNat, by omega⟩
    rw [Int.toNat_natCast]
    (first | (refine H.wg ?_; clear H; intros; rename_i w H; constructor) | refine wk ?_)
    replace H := H.rowNil 3 1
    refine loop_inv (S := Nat × Nat × Sl × List Int × List Int) tabOk [0, 1, 2, 3, 10, 11, 13, 25, 30, 40] (fun k => [(12, iv k.2.1), (14, k.2.2.1.v), (41, iv k.1)]) (fun k w' => k.1 ≤ N ∧ k.2.1 ≤ l.length ∧ k.2.2.2.1.length = k.1 ∧ manyAt one k.1 q0 = .ok k.2.2.2.2 k.2.1 ∧ ∃ V1, Sub V V1 ∧ Pw (fun _ x y => x = y) V1 k.2.2.2.1 k.2.2.2.2 ∧ Rel W V [.row k.2.2.1 3 1 (k.2.2.2.1.flatMap itC), .blk b13 [iv 0, iv 0] 29, .blk b10 [iv 0, iv 0] 29] V1 w') (fun k _ => N - k.1) (0, q0, ⟨none, 0, 0⟩, [], []) ?_
    (conv => whnf)
    refine ⟨(by repeat (first | exact trivial | refine ⟨rfl, ?_⟩)), ⟨by omega, h2, rfl, rfl, V, Sub.refl _, Pw.nil, H.sx⟩, ?_⟩
    clear H
    rintro ⟨k, q, r, xs, ys⟩ w ⟨hk, hq, hxl, hma, V1, hV1, hpw, H⟩
    dsimp only at hk hq hxl hma hpw H
    by_cases hlt : k < N
    rotate_left
    · obtain rfl : k = N := by omega
      (first | (refine H.wg ?_; clear H; intros; rename_i w H; constructor) | refine wk ?_)
      obtain ⟨V2, hV2, H, hrr⟩ := Rel.freezeF H (fun _ => rfl) (by decide)
      rw [hma]
      exact ⟨V2, r, q, 0, 0, hV1.trans hV2, H.sx, rfl, rfl, rfl, rfl, xs, hrr, hpw.up hR hV2⟩
    (first | (refine H.wg ?_; clear H; intros; rename_i w H; constructor) | refine wk ?_)
    refine (hone q hq V1 w hV1 H.data).use ?_
    rintro v w ⟨V2, x, n2, c, i, hV2, K, rfl, hres⟩
    replace H := H.call K
    simp only [List.nil_append] at H
    cases ho : one q with
    | bad c' i' =>
      rw [ho] at hres
      obtain ⟨rfl, rfl, hc0⟩ := hres
      have hmb : manyAt one N q0 = .bad c i := by
        have := manyAt_badAt hma ho (N - (k + 1))
        rwa [show k + 1 + (N - (k + 1)) = N by omega] at this
      rw [hmb]
      (first | (refine H.wg ?_; clear H; intros; rename_i w H; constructor) | refine wk ?_)
      ((first | refine draw_vc (id := 3) tabOk mixed [] [0, 1, 2, 3] (by kernel_rfl) ?_ | refine draw_vc (id := 11) tabOk mixed [] [0, 1, 2, 3] (by kernel_rfl) ?_); intro w hdw; replace H := Rel.ext H hdw.ext)
      (first | (refine H.wg ?_; clear H; intros; rename_i w H; constructor) | refine wk ?_)
      exact ⟨V2, ⟨none, 0, 0⟩, 0, c, i, hV1.trans hV2, H.sx, rfl, rfl, rfl, hc0⟩
    | ok y q' =>
      rw [ho] at hres
      obtain ⟨rfl, rfl, rfl, hxy⟩ := hres
      have hq' := hin q y q' hq ho
      (first | (refine H.wg ?_; clear H; intros; rename_i w H; constructor) | refine wk ?_)
      refine Rel.app1_1 (f := itC) (l := xs) (x := x) tabOk rfl rfl rfl rfl rfl (by decide) (fun _ => rfl) (List.all_eq_true.1 rfl) H (by simp; omega) (by omega) ?_
      clear H
      intro rn w H
      (first | (refine H.wg ?_; clear H; intros; rename_i w H; constructor) | refine wk ?_)
      exact ⟨(by repeat (first | exact trivial | refine ⟨rfl, ?_⟩)), (k + 1, q', rn, xs ++ [x], ys ++ [y]), (by repeat (first | exact trivial | refine ⟨rfl, ?_⟩)), ⟨by omega, hq', by simp [hxl], manyAt_step hma ho, V2, hV1.trans hV2, (hpw.up hR hV2).snoc hxy, H.sx⟩, by omega⟩
/-! lengths of lists -/
theorem manyAt_len {α : Type} {one : Nat → Got α} : ∀ {n p q : Nat} {l : List α}, manyAt one n p = .ok l q → l.length = n
  | 0, p, q, l, h => by
    simp only [manyAt] at h
    cases h
    rfl
  | n + 1, p, q, l, h => by
    simp only [manyAt] at h
    split at h
    · cases h
    · split at h
      · cases h
      · rename_i h2
        cases h
        simp [manyAt_len h2]
theorem listAt_len {α : Type} {l : List UInt8} {one : Nat → Got α} {m : Int} {p q : Nat} {ys : List α} (h : listAt l one m p = .ok ys q) : (ys.length : Int) ≤ m := by
  unfold listAt at h
  split at h
  · cases h
  · split at h
    · cases h
    · have := manyAt_len h
      omega
theorem pw_eq {V : World} {xs ys : List Int} (h : Pw (fun _ x y => x = y) V xs ys) : xs = ys := h.eq
end Go.Proofs.YtkfcdjomkcmkeaaGreatDoor
