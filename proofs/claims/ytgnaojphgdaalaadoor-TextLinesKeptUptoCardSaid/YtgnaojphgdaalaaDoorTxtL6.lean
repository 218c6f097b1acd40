/-
  Text files: the law that lines are kept.
-/
import Derived.Test.YtgnaojphgdaalaaDoorTxtT
import Derived.Test.YtgnaojphgdaalaaDoorTxtZ
import Derived.Test.YtgnaojphgdaalaaDoorVcW
namespace Go.Proofs.YtgnaojphgdaalaaDoor
open Go Go.RowKit

theorem low_u8 : ∀ {d : List UInt8}, (∀ x ∈ d, x.toNat < 128) → (d.map UInt8.toNat).flatMap u8c = d
  | [], _ => rfl
  | x :: d, h => by
    rw [List.map_cons, List.flatMap_cons, low_u8 fun y hy => h y (by simp [hy])]
    unfold u8c
    rw [if_pos (h x (by simp)), UInt8.ofNat_toNat]
    rfl
theorem fileC_low {d : List UInt8} (h : ∀ x ∈ d, x.toNat < 128) : fileC d = (d.map UInt8.toNat, 0) := by
  have hu : ∀ big, u16Of big d = none := fun big => by
    unfold u16Of
    rw [if_neg]
    rintro ⟨_, _, h3⟩
    have h4 : (254 : UInt8) ∈ d.take 2 := by rw [h3]; cases big <;> simp
    have := h _ (List.mem_of_mem_take h4)
    exact absurd this (by decide)
  have hc : chars d = some (d.map UInt8.toNat) := chars_iff.2 ⟨fun c hc => by
    obtain ⟨x, hx, rfl⟩ := List.mem_map.1 hc
    have := h x hx
    unfold isCh
    omega, low_u8 h⟩
  unfold fileC
  rw [hu, hu]
  unfold fileC8
  rw [hc]
  simp only
  rw [if_neg]
  cases d with
  | nil => simp
  | cons x d =>
    have := h x (by simp)
    simp only [List.map_cons, List.head?_cons, Option.some.injEq]
    omega
theorem lines_app : ∀ {A : List Nat}, (∀ c ∈ A, c ≠ 10 ∧ c ≠ 13) → ∀ r, lines (A ++ r) = (A ++ (lines r).1, (lines r).2)
  | [], _, r => by simp
  | c :: A, h, r => by
    obtain ⟨h1, h2⟩ := h c (by simp)
    rw [List.cons_append, lines_other h1 h2, lines_app fun x hx => h x (by simp [hx])]
    rfl
theorem lines_end {k : Nat} (hk : k < 3) {r : List Nat} (hr : ∀ q, r ≠ 10 :: q) : lines (endC k ++ r) = (10 :: (lines r).1, k :: (lines r).2) := by
  obtain rfl | rfl | rfl : k = 0 ∨ k = 1 ∨ k = 2 := by omega
  · exact lines_lf r
  · exact lines_both r
  · exact lines_cr hr
/-- a line end of this kind, as bytes -/
def endB (k : Nat) : List UInt8 := if k = 0 then [10] else if k = 1 then [13, 10] else [13]
theorem endB_nat {k : Nat} (hk : k < 3) : (endB k).map UInt8.toNat = endC k := by
  obtain rfl | rfl | rfl : k = 0 ∨ k = 1 ∨ k = 2 := by omega
  · rfl
  · rfl
  · rfl
theorem endC_hd {k : Nat} {B r : List Nat} (hB : ∀ c ∈ B, c ≠ 10 ∧ c ≠ 13) (hk : k = 2) : ∀ q, B ++ (endC k ++ r) ≠ 10 :: q := fun q h => by
  subst hk
  cases B with
  | nil => cases h
  | cons b B => injection h with h1 _; exact (hB b (by simp)).1 h1
theorem lines_two {A B : List Nat} (hA : ∀ c ∈ A, c ≠ 10 ∧ c ≠ 13) (hB : ∀ c ∈ B, c ≠ 10 ∧ c ≠ 13) {k : Nat} (hk : k < 3) : lines (A ++ (endC k ++ (B ++ endC k))) = (A ++ 10 :: (B ++ [10]), [k, k]) := by
  have e2 : lines (endC k) = ([10], [k]) := by
    have := lines_end hk (r := []) (by simp)
    rw [List.append_nil] at this
    rw [this]
    rfl
  have e1 : lines (endC k ++ (B ++ endC k)) = (10 :: (lines (B ++ endC k)).1, k :: (lines (B ++ endC k)).2) := by
    obtain rfl | rfl | rfl : k = 0 ∨ k = 1 ∨ k = 2 := by omega
    · exact lines_lf _
    · exact lines_both _
    · exact lines_cr (by have := endC_hd (k := 2) (r := []) hB rfl; rwa [List.append_nil] at this)
  rw [lines_app hA, e1, lines_app hB, e2]
theorem lin_to {a b : List UInt8} (ha : ∀ x ∈ a, 32 ≤ x.toNat ∧ x.toNat ≤ 126) (hb : ∀ x ∈ b, 32 ≤ x.toNat ∧ x.toNat ≤ 126) {k : Nat} (hk : k < 3) : txtTo (((a ++ endB k) ++ b) ++ endB k) = some (txtVal (((a ++ [10]) ++ b) ++ [10]), txtRes 0 [k, k]) := by
  have he : ∀ x ∈ endB k, x.toNat = 10 ∨ x.toNat = 13 := by
    obtain rfl | rfl | rfl : k = 0 ∨ k = 1 ∨ k = 2 := by omega
    · simp [endB]
    · simp [endB]
    · simp [endB]
  have hall : ∀ x ∈ ((a ++ endB k) ++ b) ++ endB k, (32 ≤ x.toNat ∧ x.toNat ≤ 126) ∨ x.toNat = 10 ∨ x.toNat = 13 := fun x hx => by
    simp only [List.mem_append] at hx
    rcases hx with ((h | h) | h) | h
    · exact .inl (ha x h)
    · exact .inr (he x h)
    · exact .inl (hb x h)
    · exact .inr (he x h)
  have hf := fileC_low (d := ((a ++ endB k) ++ b) ++ endB k) (fun x hx => by have := hall x hx; omega)
  have hA : ∀ (l : List UInt8), (∀ x ∈ l, 32 ≤ x.toNat ∧ x.toNat ≤ 126) → ∀ c ∈ l.map UInt8.toNat, c ≠ 10 ∧ c ≠ 13 := fun l hl c hc => by
    obtain ⟨x, hx, rfl⟩ := List.mem_map.1 hc
    have := hl x hx
    omega
  have hm : (((a ++ endB k) ++ b) ++ endB k).map UInt8.toNat = a.map UInt8.toNat ++ (endC k ++ (b.map UInt8.toNat ++ endC k)) := by
    rw [List.map_append, List.map_append, List.map_append, endB_nat hk]
    simp only [List.append_assoc]
  have hl := lines_two (hA a ha) (hA b hb) hk
  have hback : (a.map UInt8.toNat ++ 10 :: (b.map UInt8.toNat ++ [10])).flatMap u8c = ((a ++ [10]) ++ b) ++ [10] := by
    have : a.map UInt8.toNat ++ 10 :: (b.map UInt8.toNat ++ [10]) = (((a ++ [10]) ++ b) ++ [10]).map UInt8.toNat := by simp
    rw [this]
    refine low_u8 fun x hx => ?_
    simp only [List.mem_append, List.mem_singleton] at hx
    rcases hx with ((h | h) | h) | h
    · have := ha x h; omega
    · rw [h]; decide
    · have := hb x h; omega
    · rw [h]; decide
  unfold txtTo
  rw [hf]
  simp only
  rw [if_neg, hm, hl, hback]
  intro h
  obtain ⟨c, hc, hd⟩ := List.any_eq_true.1 h
  obtain ⟨x, hx, rfl⟩ := List.mem_map.1 hc
  have hd := of_decide_eq_true hd
  have := hall x hx
  omega
section
set_option maxRecDepth 100000 in
set_option maxHeartbeats 2000000 in
theorem law_txt_lines {W : World} (hT : Lib.Utf8Tabs 0 1 W) {s t : Sl} {a b : List UInt8} (hs0 : By W s a) (hla : a.length ≤ 1048576) (ht0 : By W t b) (hlb : b.length ≤ 1048576) (z : Int) (hz : I64 z) : Ret Tryd.prog 6 [s.v, t.v, iv z].toArray W fun v w' => v = .bool true ∧ Ext W w' := by
  have H := Rel.start (Sub.refl W)
  have hs := hs0.slf
  have ht := ht0.slf
  have hsl := hs.len
  have htl := ht.len
  refine cal_of_vc tabOk Tryd.func6 rfl (by kernel_rfl) 95 rfl (by simp) [0, 1, 2, 6, 7, 8, 9, 10, 11, 12, 14, 25, 29, 38, 42, 51] ?_
  (first | (refine H.wg ?_; clear H; intros; rename_i w H; constructor) | refine wk ?_)
  refine (example_txt H.data hT).use ?_
  rintro q w ⟨rfl, V1, hV1, K⟩
  (have hKb := K.base; replace H := H.call0 K)
  (first | (refine H.wg ?_; clear H; intros; rename_i w H; constructor) | refine wk ?_)
  refine (in_ref z 0 2 _).use ?_
  rintro q w' ⟨rfl, rfl⟩
  by_cases hz3 : 0 ≤ z ∧ z ≤ 2
  rotate_left
  · rw [decide_eq_false hz3]
    (first | (refine H.wg ?_; clear H; intros; rename_i w H; constructor) | refine wk ?_)
    first | exact H.base | exact ⟨rfl, H.base⟩
  rw [decide_eq_true hz3]
  obtain ⟨k, rfl⟩ : ∃ n : Nat, z = n := ⟨z.toNat, by omega⟩
  have hk : k < 3 := by omega
  by_cases h300 : a.length + b.length ≤ 300
  rotate_left
  · (first | (refine H.wg ?_; clear H; intros; rename_i w H; constructor) | refine wk ?_)
    first | exact H.base | exact ⟨rfl, H.base⟩
  (first | (refine H.wg ?_; clear H; intros; rename_i w H; constructor) | refine wk ?_)
  refine loop_inv (S := Nat) tabOk [0, 1, 2, 8, 9, 10, 11, 12, 14, 25, 42, 51] (fun i => [(7, iv i)]) (fun i w' => i ≤ a.length ∧ (∀ x ∈ a.take i, 32 ≤ x.toNat ∧ x.toNat ≤ 126) ∧ Rel W W [] V1 w') (fun i _ => a.length - i) 0 ?_
  (conv => whnf)
  refine ⟨(by repeat (first | exact trivial | refine ⟨rfl, ?_⟩)), ⟨Nat.zero_le _, by simp, H⟩, ?_⟩
  clear H
  rintro i w ⟨hi, ha, H⟩
  dsimp only at hi ha H ⊢
  by_cases hlt : i < a.length
  · obtain ⟨p0, c0⟩ := (hs.up hV1).cell8 hlt
    have hat := at8_get hlt
    (first | (refine H.wg ?_; clear H; intros; rename_i w H; constructor) | refine wk ?_)
    refine (in_ref ((at8 a i : Nat) : Int) 32 126 _).use ?_
    rintro q w' ⟨rfl, rfl⟩
    by_cases hr : 32 ≤ at8 a i ∧ at8 a i ≤ 126
    · rw [decide_eq_true (by omega)]
      (first | (refine H.wg ?_; clear H; intros; rename_i w H; constructor) | refine wk ?_)
      refine ⟨(by repeat (first | exact trivial | refine ⟨rfl, ?_⟩)), i + 1, (by repeat (first | exact trivial | refine ⟨rfl, ?_⟩)), ⟨by omega, fun x hx => ?_, H.sx⟩, by omega⟩
      rw [List.take_succ_eq_append_getElem hlt] at hx
      rcases List.mem_append.1 hx with h | h
      · exact ha x h
      · rw [List.mem_singleton.1 h]
        omega
    · rw [decide_eq_false (by omega)]
      (first | (refine H.wg ?_; clear H; intros; rename_i w H; constructor) | refine wk ?_)
      first | exact H.base | exact ⟨rfl, H.base⟩
  rw [List.take_of_length_le (by omega)] at ha
  (first | (refine H.wg ?_; clear H; intros; rename_i w H; constructor) | refine wk ?_)
  refine loop_inv (S := Nat) tabOk [0, 1, 2, 7, 9, 10, 11, 12, 14, 25, 29, 38] (fun i => [(8, iv i)]) (fun i w' => i ≤ b.length ∧ (∀ x ∈ b.take i, 32 ≤ x.toNat ∧ x.toNat ≤ 126) ∧ Rel W W [] V1 w') (fun i _ => b.length - i) 0 ?_
  clear hi hlt
  (conv => whnf)
  refine ⟨(by repeat (first | exact trivial | refine ⟨rfl, ?_⟩)), ⟨Nat.zero_le _, by simp, H⟩, ?_⟩
  clear H
  rintro i w ⟨hi, hb, H⟩
  dsimp only at hi hb H ⊢
  by_cases hlt : i < b.length
  · obtain ⟨p0, c0⟩ := (ht.up hV1).cell8 hlt
    have hat := at8_get hlt
    (first | (refine H.wg ?_; clear H; intros; rename_i w H; constructor) | refine wk ?_)
    refine (in_ref ((at8 b i : Nat) : Int) 32 126 _).use ?_
    rintro q w' ⟨rfl, rfl⟩
    by_cases hr : 32 ≤ at8 b i ∧ at8 b i ≤ 126
    · rw [decide_eq_true (by omega)]
      (first | (refine H.wg ?_; clear H; intros; rename_i w H; constructor) | refine wk ?_)
      refine ⟨(by repeat (first | exact trivial | refine ⟨rfl, ?_⟩)), i + 1, (by repeat (first | exact trivial | refine ⟨rfl, ?_⟩)), ⟨by omega, fun x hx => ?_, H.sx⟩, by omega⟩
      rw [List.take_succ_eq_append_getElem hlt] at hx
      rcases List.mem_append.1 hx with h | h
      · exact hb x h
      · rw [List.mem_singleton.1 h]
        omega
    · rw [decide_eq_false (by omega)]
      (first | (refine H.wg ?_; clear H; intros; rename_i w H; constructor) | refine wk ?_)
      first | exact H.base | exact ⟨rfl, H.base⟩
  rw [List.take_of_length_le (by omega)] at hb
  have hto := lin_to ha hb hk
  have hel : (endB k).length ≤ 2 := by
    unfold endB
    split
    · simp
    · split <;> simp
  (first | (refine H.wh ?_; clear H; intros; rename_i w H; constructor) | refine wk ?_)
  ((first | refine Rel.nwD H ?_ | refine Rel.nw H ?_); clear H; intro w b15 H)
  replace H := H.blkEq (c' := [endB 0, endB 1, endB 2].flatMap strC) rfl
  obtain ⟨V2, hV2, H, hb15⟩ := H.freezeBlk
  have hes : SlF strC V2 ⟨some ⟨b15, 0, none⟩, 3, 3⟩ [endB 0, endB 1, endB 2] := ⟨rfl, Nat.le_refl _, hb15.cells⟩
  obtain ⟨_, ck⟩ := hes.at1 (g := str) (fun _ => rfl) (i := k) hk
  have hek : ([endB 0, endB 1, endB 2])[k]'hk = endB k := by
    obtain rfl | rfl | rfl : k = 0 ∨ k = 1 ∨ k = 2 := by omega
    · rfl
    · rfl
    · rfl
  rw [hek] at ck
  have hV12 := hV1.trans hV2
  have h15p : Plain (some (⟨b15, 0, none⟩ : Addr)) := rfl
  (first | (refine H.wg ?_; clear H; intros; rename_i w H; constructor) | refine wk ?_)
  refine ⟨byC_map _ ▸ ((hs.up hV12).up H.data).cells, ?_⟩
  (first | (refine H.wg ?_; clear H; intros; rename_i w H; constructor) | refine wk ?_)
  refine ⟨byC_map _ ▸ ((ht.up hV12).up H.data).cells, ?_⟩
  obtain ⟨D, hD⟩ : ∃ D, D = ((a ++ endB k) ++ b) ++ endB k := ⟨_, rfl⟩
  have hDl : D.length ≤ 304 := by rw [hD]; simp only [List.length_append]; omega
  have hl1 : (a ++ endB k).length ≤ 302 := by simp only [List.length_append]; omega
  have hl2 : ((a ++ endB k) ++ b).length ≤ 302 := by simp only [List.length_append]; omega
  (first | (refine H.wg ?_; clear H; intros; rename_i w H; constructor) | refine wk ?_)
  rw [← hD] at hto ⊢
  refine Rel.convSB Tryd.underlying9 Tryd.underlying22 Tryd.underlying5 H D ?_
  clear H
  intro V3 sD w _ hV3 hsD H
  (first | (refine H.wg ?_; clear H; intros; rename_i w H; constructor) | refine wk ?_)
  refine (to_txt H.data (tabs_up hT (hV12.trans hV3)) hsD (by omega)).use ?_
  rintro q w ⟨V4, h, r, hV4, K, rfl, hv, hr⟩
  (have hKb := K.base; replace H := H.call0 K)
  have e : toRes (txtTo D) D.length = ⟨txtVal (((a ++ [10]) ++ b) ++ [10]), txtRes 0 [k, k], 0, 0⟩ := by unfold toRes; rw [if_neg (by omega), hto]
  rw [e] at hv hr ⊢
  have hvb := hv.bytes
  dsimp only at hv hr hvb ⊢
  have hV14 := (hV2.trans hV3).trans hV4
  have hl3 : (a ++ [10]).length ≤ 301 := by simp only [List.length_append, List.length_singleton]; omega
  have hl4 : ((a ++ [10]) ++ b).length ≤ 301 := by simp only [List.length_append, List.length_singleton]; omega
  (first | (refine H.wh ?_; clear H; intros; rename_i w H; constructor) | refine wk ?_)
  ((first | refine Rel.nwD H ?_ | refine Rel.nw H ?_); clear H; intro w b10 H)
  (first | (refine H.wh ?_; clear H; intros; rename_i w H; constructor) | refine wk ?_)
  ((first | refine Rel.nwD H ?_ | refine Rel.nw H ?_); clear H; intro w b12 H)
  (first | (refine H.wg ?_; clear H; intros; rename_i w H; constructor) | refine wk ?_)
  refine ⟨_, hvb.len, byC_map _ ▸ (hvb.up H.data).cells, ?_⟩
  (first | (refine H.wg ?_; clear H; intros; rename_i w H; constructor) | refine wk ?_)
  refine ⟨byC_map _ ▸ ((hs.up (hV1.trans hV14)).up H.data).cells, ?_⟩
  (first | (refine H.wg ?_; clear H; intros; rename_i w H; constructor) | refine wk ?_)
  refine ⟨by simp only [List.length_singleton]; omega, ?_⟩
  (first | (refine H.wg ?_; clear H; intros; rename_i w H; constructor) | refine wk ?_)
  refine ⟨byC_map _ ▸ ((ht.up (hV1.trans hV14)).up H.data).cells, ?_⟩
  (first | (refine H.wg ?_; clear H; intros; rename_i w H; constructor) | refine wk ?_)
  refine ⟨by simp only [List.length_append, List.length_singleton]; omega, ?_⟩
  (first | (refine H.wg ?_; clear H; intros; rename_i w H; constructor) | refine wk ?_)
  rw [decide_eq_true (show (txtVal (a ++ [10] ++ b ++ [10])).bytes = a ++ [10] ++ b ++ [10] from rfl)]
  (first | (refine H.wh ?_; clear H; intros; rename_i w H; constructor) | refine wk ?_)
  ((first | refine Rel.nwD H ?_ | refine Rel.nw H ?_); clear H; intro w b91 H)
  obtain ⟨V5, hV5, H, hb91⟩ := H.freezeBlk
  have hkk : SlF naC V5 ⟨some ⟨b91, 0, none⟩, 2, 2⟩ [k, k] := ⟨rfl, Nat.le_refl _, hb91.cells⟩
  (first | (refine H.wg ?_; clear H; intros; rename_i w H; constructor) | refine wk ?_)
  refine (txtRes_ref (e := 0) H.data hkk (by simp) (by simp [hk]) (by decide)).use ?_
  rintro q w ⟨V6, r6, hV6, K, rfl, hr6⟩
  (have hKb := K.base; replace H := H.call0 K)
  (first | (refine H.wg ?_; clear H; intros; rename_i w H; constructor) | refine wk ?_)
  refine (bytes_ref H.data ((hr.up hV5).up hV6) hr6).use ?_
  rintro q w ⟨rfl, K⟩
  (have hKb := K.base; replace H := H.call0 K)
  rw [decide_eq_true rfl]
  (first | (refine H.wg ?_; clear H; intros; rename_i w H; constructor) | refine wk ?_)
  first | exact H.base | exact ⟨rfl, H.base⟩
end
end Go.Proofs.YtgnaojphgdaalaaDoor
