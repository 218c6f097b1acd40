/-
  Files of hexadecimal records: residues.
-/
import Derived.Test.YtjfcpnlacodjjaaGreatHexE
import Derived.Test.YtjfcpnlacodjjaaGreatWirF
namespace Go.Proofs.YtjfcpnlacodjjaaGreat
open Go Go.RowKit

set_option maxRecDepth 100000 in
theorem slice_ints {V W : World} (hV : Sub V W) {s : Sl} {l : List Int} (hs : SlF itC V s l) {g : FuncId} {cap : List Value} {enc : Int → List UInt8} (hone : ∀ x ∈ l, OneOk V g cap (iv x) (enc x)) (hll : l.length ≤ 1099511627776) (hb : (putL enc l).length ≤ 1099511627776) :
    Ret Tryz.prog 64 [s.v, .func (.func g) #[] cap.toArray].toArray W fun v w' => ∃ r : Sl, v = r.v ∧ Rel W V [.row r 5 1 ((putL enc l).flatMap byC)] V w' := by
  have H := Rel.start hV
  have hlen := hs.len
  rw [putL, List.length_append] at hb
  refine cal_of_vc tabOk Tryz.func64 rfl (by kernel_rfl) 24 rfl (by simp) [0, 1, 4, 5, 7, 11, 12, 13, 14] ?_
  (first | (refine H.wg ?_; clear H; intros; rename_i w H; constructor) | refine wk ?_)
  rw [hlen]
  refine (number_spec (n := l.length) H.data (by constructor <;> omega)).use ?_
  rintro v w ⟨r0, rfl, K⟩
  replace H := H.call K
  (first | (refine H.wg ?_; clear H; intros; rename_i w H; constructor) | refine wk ?_)
  refine loop_inv (S := Nat × Sl) tabOk [0, 1, 4, 11, 12] (fun k => [(5, k.2.v), (13, iv k.1)]) (fun k w' => k.1 ≤ l.length ∧ ∃ V1, Sub V V1 ∧ Rel W V [.row k.2 5 1 ((putN l.length ++ (l.take k.1).flatMap enc).flatMap byC)] V1 w') (fun k _ => l.length - k.1) (0, r0) ?_
  (conv => whnf)
  refine ⟨(by repeat (first | exact trivial | refine ⟨rfl, ?_⟩)), ⟨by omega, V, Sub.refl _, by simpa using H⟩, ?_⟩
  clear H
  rintro ⟨k, r⟩ w ⟨hk, V1, hV1, H⟩
  dsimp only at hk H
  by_cases hlt : k < l.length
  rotate_left
  · (first | (refine H.wg ?_; clear H; intros; rename_i w H; constructor) | refine wk ?_)
    rw [List.take_of_length_le (by omega)] at H
    exact ⟨r, rfl, H.back⟩
  have hbl := flat_part (enc := enc) hlt
  obtain ⟨hp, hq⟩ := (hs.up hV1).at1 (g := iv) (fun _ => rfl) hlt
  (first | (refine H.wg ?_; clear H; intros; rename_i w H; constructor) | refine wk ?_)
  refine (hone l[k] (List.getElem_mem hlt) V1 w hV1 H.data).use ?_
  rintro v w ⟨V2, x, hV2, rfl, hx, K⟩
  replace H := H.call K
  simp only [List.nil_append] at H
  (first | (refine H.wg ?_; clear H; intros; rename_i w H; constructor) | refine wk ?_)
  refine Rel.appD H (i := 0) rfl hx (by simp only [List.length_append]; omega) ?_
  clear H
  intro rn w H
  rw [flat_next hlt] at H
  (first | (refine H.wg ?_; clear H; intros; rename_i w H; constructor) | refine wk ?_)
  exact ⟨(by repeat (first | exact trivial | refine ⟨rfl, ?_⟩)), (k + 1, rn), (by repeat (first | exact trivial | refine ⟨rfl, ?_⟩)), ⟨by omega, V2, hV1.trans hV2, H.sx⟩, by omega⟩
section
variable {V W : World}
theorem equal_ints (hV : Sub V W) {x y : Sl} {a b : List Int} (hx : SlF itC V x a) (hy : SlF itC V y b) (ha : a.length ≤ 1099511627776) : Ret Tryz.prog 62 [x.v, y.v].toArray W fun v w' => v = .bool (decide (a = b)) ∧ Rel W V [] V w' := by
  have H := Rel.start hV
  have h1 := hx.len
  have h2 := hy.len
  refine cal_of_vc tabOk Tryz.func62 rfl (by kernel_rfl) 26 rfl (by simp) [0, 1, 4, 5, 10, 12, 13, 14, 24] ?_
  by_cases hl : a.length = b.length
  rotate_left
  · (first | (refine H.wg ?_; clear H; intros; rename_i w H; constructor) | refine wk ?_)
    rw [decide_eq_false (fun h => hl (by rw [h]))]
    exact ⟨rfl, H⟩
  (first | (refine H.wg ?_; clear H; intros; rename_i w H; constructor) | refine wk ?_)
  refine loop_inv (S := Nat) tabOk [0, 1, 10, 12] (fun k => [(13, iv k)]) (fun k w' => k ≤ a.length ∧ a.take k = b.take k ∧ Rel W V [] V w') (fun k _ => a.length - k) 0 ?_
  (conv => whnf)
  refine ⟨(by repeat (first | exact trivial | refine ⟨rfl, ?_⟩)), ⟨by omega, rfl, H⟩, ?_⟩
  clear H
  rintro k w ⟨hk, hz, H⟩
  by_cases hka : k < a.length
  rotate_left
  · rw [List.take_of_length_le (by omega), List.take_of_length_le (by omega)] at hz
    (first | (refine H.wg ?_; clear H; intros; rename_i w H; constructor) | refine wk ?_)
    rw [decide_eq_true hz]
    exact ⟨rfl, H⟩
  have hkb : k < b.length := by omega
  obtain ⟨hp, hc⟩ := hx.at1 (g := iv) (fun _ => rfl) hka
  obtain ⟨hp', hc'⟩ := hy.at1 (g := iv) (fun _ => rfl) hkb
  have ta := List.take_succ_eq_append_getElem hka
  have tb := List.take_succ_eq_append_getElem hkb
  by_cases he : a[k] = b[k]
  · rw [he] at hc ta
    (first | (refine H.wg ?_; clear H; intros; rename_i w H; constructor) | refine wk ?_)
    ((first | refine draw_vc (id := 6) tabOk mixed [] [0, 1, 2, 3, 4, 5, 6, 7, 8] (by kernel_rfl) ?_); intro w hdw; replace H := Rel.ext H hdw.ext)
    (first | (refine H.wg ?_; clear H; intros; rename_i w H; constructor) | refine wk ?_)
    exact ⟨(by repeat (first | exact trivial | refine ⟨rfl, ?_⟩)), k + 1, (by repeat (first | exact trivial | refine ⟨rfl, ?_⟩)), ⟨by omega, by rw [ta, tb, hz], H.sx⟩, by omega⟩
  · have hne : a ≠ b := fun h => he (by subst h; rfl)
    generalize a[k] = u at hc he
    generalize b[k] = v at hc' he
    (first | (refine H.wg ?_; clear H; intros; rename_i w H; constructor) | refine wk ?_)
    ((first | refine draw_vc (id := 6) tabOk mixed [] [0, 1, 2, 3, 4, 5, 6, 7, 8] (by kernel_rfl) ?_); intro w hdw; replace H := Rel.ext H hdw.ext)
    (first | (refine H.wg ?_; clear H; intros; rename_i w H; constructor) | refine wk ?_)
    rw [decide_eq_false hne]
    exact ⟨rfl, H.sx⟩
theorem one_int (z : Int) (hz : I64 z) : OneOk V 63 [] (iv z) (putN z) := oneOk_of fun V1 W1 hV hVV => number_spec hV hz
theorem ints_inj {a b : List Nat} : ints a = ints b ↔ a = b := by
  constructor
  · intro h
    have := congrArg (List.map Int.toNat) h
    rwa [ints_nat, ints_nat] at this
  · intro h; rw [h]
set_option maxRecDepth 100000 in
set_option maxHeartbeats 1000000 in
theorem residue_hex (hV : Sub V W) {fl : Nat} (hf : fl < 4) {sg sz : Sl} {S : List Seg} {Z : List Nat} (hs : SegsAt V sg S) (hz : SlF itC V sz (ints Z)) (hSl : S.length ≤ 1000) (hZl : Z.length ≤ 1000) (hZ : ∀ n ∈ Z, n ≤ 255) (hd : ∀ x ∈ S, x.2.length ≤ 65536) :
    Ret Tryz.prog 36 [.agg [sg.v, sz.v, iv (fl : Int)].toArray].toArray W fun v w' => ∃ (V' : World) (r : Sl), Sub V V' ∧ Rel W V [] V' w' ∧ v = r.v ∧ Byt V' r (resB fl (szOf S Z)) := by
  have H := Rel.start hV
  have hzl := hz.len
  rw [List.length_map] at hzl
  refine cal_of_vc tabOk Tryz.func36 rfl (by kernel_rfl) 25 rfl (by simp) [0, 1, 2, 3, 10, 18] ?_
  (first | (refine H.wh ?_; clear H; intros; rename_i w H; constructor) | refine wk ?_)
  ((first | refine Rel.nwD H ?_ | refine Rel.nw H ?_); clear H; intro w b1 H)
  (first | (refine H.wg ?_; clear H; intros; rename_i w H; constructor) | refine wk ?_)
  refine (plainSizes_spec H.data hs hSl hd).use ?_
  rintro v w ⟨V2, r, hV2, K, rfl, hr⟩
  (have hKb := K.base; replace H := H.call0 K)
  (first | (refine H.wg ?_; clear H; intros; rename_i w H; constructor) | refine wk ?_)
  refine (equal_ints H.data (hz.up hV2) hr (by rw [List.length_map]; omega)).use ?_
  rintro v w ⟨rfl, K⟩
  (have hKb := K.base; replace H := H.call0 K)
  by_cases he : Z = usual S
  · rw [decide_eq_true (ints_inj.2 he)]
    have e : szOf S Z = [] := by unfold szOf; rw [if_pos he]
    rw [e]
    (first | (refine H.wg ?_; clear H; intros; rename_i w H; constructor) | refine wk ?_)
    by_cases h1 : fl = 0
    · have e : resB fl [] = [] := by unfold resB; rw [if_pos ⟨h1, rfl⟩]
      rw [e]
      (first | (refine H.wg ?_; clear H; intros; rename_i w H; constructor) | refine wk ?_)
      exact ⟨V2, ⟨none, 0, 0⟩, hV2, H.sx, rfl, SlF.nil _ _⟩
    have e : resB fl [] = putN fl ++ putL putN (ints []) := by unfold resB; rw [if_neg fun q => h1 q.1]
    rw [e]
    have hpl := putL_ints_len (Z := []) (by simp) (by simp)
    have hpn := putN_len (n := (fl : Int)) (by omega) (by omega)
    (first | (refine H.wg ?_; clear H; intros; rename_i w H; constructor) | refine wk ?_)
    refine (number_spec (n := (fl : Int)) H.data (by constructor <;> omega)).use ?_
    rintro v w ⟨r1, rfl, K⟩
    (have hKb := K.base; replace H := Rel.call H K)
    simp only [List.cons_append, List.nil_append] at H
    (first | (refine H.wg ?_; clear H; intros; rename_i w H; constructor) | refine wk ?_)
    refine (slice_ints (l := ints ([] : List Nat)) (enc := putN) H.data (SlF.nil _ _) (fun z hz => one_int z ?_) (by first | (simp only [List.length_map]; have := (show ([] : List Nat).length ≤ 1000 by simp); omega) | simp) (by omega)).use ?_
    · obtain ⟨n, hn, rfl⟩ := List.mem_map.1 hz
      have := (fun (n : Nat) (hn : n ∈ ([] : List Nat)) => (by simp at hn : n ≤ 255)) n hn
      constructor <;> omega
    rintro v w ⟨r2, rfl, K⟩
    (have hKb := K.base; replace H := Rel.call H K)
    simp only [List.cons_append, List.nil_append] at H
    (first | (refine H.wg ?_; clear H; intros; rename_i w H; constructor) | refine wk ?_)
    refine Rel.appB H (i := 0) rfl (by omega) ?_
    clear H
    intro rn w H
    simp only [List.set_cons_zero] at H
    obtain ⟨V3, hV3, H, hr3⟩ := Rel.freezeF H (fun _ => rfl) (by decide)
    (first | (refine H.wg ?_; clear H; intros; rename_i w H; constructor) | refine wk ?_)
    exact ⟨V3, rn, hV2.trans hV3, H.sx, rfl, hr3⟩
  · rw [decide_eq_false (fun q => he (ints_inj.1 q))]
    have e : szOf S Z = Z := by unfold szOf; rw [if_neg he]
    rw [e]
    (first | (refine H.wg ?_; clear H; intros; rename_i w H; constructor) | refine wk ?_)
    by_cases h0 : fl = 0 ∧ Z = []
    · have e : resB fl Z = [] := by unfold resB; rw [if_pos h0]
      obtain ⟨h1, h2⟩ := h0
      have h3 : Z.length = 0 := by rw [h2]; rfl
      rw [e]
      (first | (refine H.wg ?_; clear H; intros; rename_i w H; constructor) | refine wk ?_)
      exact ⟨V2, ⟨none, 0, 0⟩, hV2, H.sx, rfl, SlF.nil _ _⟩
    have e : resB fl Z = putN fl ++ putL putN (ints Z) := by unfold resB; rw [if_neg h0]
    rw [e]
    have hpl := putL_ints_len (Z := Z) hZl hZ
    have hpn := putN_len (n := (fl : Int)) (by omega) (by omega)
    by_cases h1 : fl = 0
    · have h3 : Z.length ≠ 0 := fun q => h0 ⟨h1, List.eq_nil_of_length_eq_zero q⟩
      (first | (refine H.wg ?_; clear H; intros; rename_i w H; constructor) | refine wk ?_)
      refine (number_spec (n := (fl : Int)) H.data (by constructor <;> omega)).use ?_
      rintro v w ⟨r1, rfl, K⟩
      (have hKb := K.base; replace H := Rel.call H K)
      simp only [List.cons_append, List.nil_append] at H
      (first | (refine H.wg ?_; clear H; intros; rename_i w H; constructor) | refine wk ?_)
      refine (slice_ints (l := ints Z) (enc := putN) H.data (hz.up hV2) (fun z hz => one_int z ?_) (by first | (simp only [List.length_map]; have := hZl; omega) | simp) (by omega)).use ?_
      · obtain ⟨n, hn, rfl⟩ := List.mem_map.1 hz
        have := hZ n hn
        constructor <;> omega
      rintro v w ⟨r2, rfl, K⟩
      (have hKb := K.base; replace H := Rel.call H K)
      simp only [List.cons_append, List.nil_append] at H
      (first | (refine H.wg ?_; clear H; intros; rename_i w H; constructor) | refine wk ?_)
      refine Rel.appB H (i := 0) rfl (by omega) ?_
      clear H
      intro rn w H
      simp only [List.set_cons_zero] at H
      obtain ⟨V3, hV3, H, hr3⟩ := Rel.freezeF H (fun _ => rfl) (by decide)
      (first | (refine H.wg ?_; clear H; intros; rename_i w H; constructor) | refine wk ?_)
      exact ⟨V3, rn, hV2.trans hV3, H.sx, rfl, hr3⟩
    · (first | (refine H.wg ?_; clear H; intros; rename_i w H; constructor) | refine wk ?_)
      refine (number_spec (n := (fl : Int)) H.data (by constructor <;> omega)).use ?_
      rintro v w ⟨r1, rfl, K⟩
      (have hKb := K.base; replace H := Rel.call H K)
      simp only [List.cons_append, List.nil_append] at H
      (first | (refine H.wg ?_; clear H; intros; rename_i w H; constructor) | refine wk ?_)
      refine (slice_ints (l := ints Z) (enc := putN) H.data (hz.up hV2) (fun z hz => one_int z ?_) (by first | (simp only [List.length_map]; have := hZl; omega) | simp) (by omega)).use ?_
      · obtain ⟨n, hn, rfl⟩ := List.mem_map.1 hz
        have := hZ n hn
        constructor <;> omega
      rintro v w ⟨r2, rfl, K⟩
      (have hKb := K.base; replace H := Rel.call H K)
      simp only [List.cons_append, List.nil_append] at H
      (first | (refine H.wg ?_; clear H; intros; rename_i w H; constructor) | refine wk ?_)
      refine Rel.appB H (i := 0) rfl (by omega) ?_
      clear H
      intro rn w H
      simp only [List.set_cons_zero] at H
      obtain ⟨V3, hV3, H, hr3⟩ := Rel.freezeF H (fun _ => rfl) (by decide)
      (first | (refine H.wg ?_; clear H; intros; rename_i w H; constructor) | refine wk ?_)
      exact ⟨V3, rn, hV2.trans hV3, H.sx, rfl, hr3⟩
end
end Go.Proofs.YtjfcpnlacodjjaaGreat
