/-
  Comparing lists of strings.
-/
import Derived.Test.YtffaffojkfalhaaGreatDoorVcS
import Derived.Test.YtffaffojkfalhaaGreatDoorVcY
namespace Go.Proofs.YtffaffojkfalhaaGreatDoor
open Go Go.RowKit

section
variable {V W : World}
theorem strings_ref (hV : Sub V W) {x y : Sl} {a b : List (List UInt8)} (hx : Strs V x a) (hy : Strs V y b) (ha : a.length ≤ 1099511627776) : Ret Tryz.prog 28 [x.v, y.v].toArray W fun v w' => v = .bool (decide (a = b)) ∧ Rel W V [] V w' := by
  have H := Rel.start hV
  have h1 := hx.len
  have h2 := hy.len
  refine cal_of_vc tabOk Tryz.func28 rfl (by kernel_rfl) 26 rfl (by simp) [0, 1, 4, 5, 10, 14, 25] ?_
  by_cases hl : a.length = b.length
  rotate_left
  · (first | (refine H.wg ?_; clear H; intros; rename_i w H; constructor) | refine wk ?_)
    refine ⟨?_, H⟩
    have : a ≠ b := fun e => hl (by rw [e])
    simp [this]
  (first | (refine H.wg ?_; clear H; intros; rename_i w H; constructor) | refine wk ?_)
  refine loop_inv (S := Nat) tabOk [0, 1, 10] (fun k => [(5, iv k)]) (fun k w' => k ≤ a.length ∧ (∀ j, j < k → a[j]? = b[j]?) ∧ Rel W V [] V w') (fun k _ => a.length - k) 0 ?_
  (conv => whnf)
  refine ⟨(by repeat (first | exact trivial | refine ⟨rfl, ?_⟩)), ⟨by omega, by omega, H⟩, ?_⟩
  clear H
  rintro k w ⟨hk, hj, H⟩
  by_cases hka : k < a.length
  · have hkb : k < b.length := by omega
    obtain ⟨hp, hc⟩ := hx.get1 (g := str) (fun _ => rfl) hka
    obtain ⟨hp', hc'⟩ := hy.get1 (g := str) (fun _ => rfl) hkb
    (first | (refine H.wg ?_; clear H; intros; rename_i w H; constructor) | refine wk ?_)
    ((first | refine draw_vc (id := 6) tabOk mixed [] [0, 1, 2, 3, 4, 5, 6, 7, 8] (by kernel_rfl) ?_); intro w hdw; replace H := Rel.ext H hdw.ext)
    (first | (refine H.wg ?_; clear H; intros; rename_i w H; constructor) | refine wk ?_)
    refine condG_ndec (fun h5 => ?_) (fun h5 => ?_)
    · (first | (refine H.wg ?_; clear H; intros; rename_i w H; constructor) | refine wk ?_)
      refine ⟨?_, H⟩
      have : a ≠ b := by
        intro e; subst e
        exact h5 rfl
      simp [this]
    · (first | (refine H.wg ?_; clear H; intros; rename_i w H; constructor) | refine wk ?_)
      refine ⟨(by repeat (first | exact trivial | refine ⟨rfl, ?_⟩)), k + 1, (by repeat (first | exact trivial | refine ⟨rfl, ?_⟩)), ⟨by omega, ?_, H⟩, by omega⟩
      intro j hjk
      by_cases e : j = k
      · subst e
        simp only [hka, hkb, List.getElem?_eq_getElem]
        exact congrArg some h5
      · exact hj j (by omega)
  · (first | (refine H.wg ?_; clear H; intros; rename_i w H; constructor) | refine wk ?_)
    refine ⟨?_, H⟩
    have : a = b := List.ext_getElem? fun j => by
      by_cases hj2 : j < k
      · exact hj j hj2
      · rw [List.getElem?_eq_none (by omega), List.getElem?_eq_none (by omega)]
    simp [this]
end
end Go.Proofs.YtffaffojkfalhaaGreatDoor
namespace Go.Proofs.YtffaffojkfalhaaGreatDoor
open Go Go.RowKit

theorem take_mem {α : Type} {l : List α} {k : Nat} {x : α} (hk : k < l.length) (h1 : x ∉ l.take k) (h2 : x ≠ l[k]) : x ∉ l.take (k + 1) := by
  rw [List.take_succ_eq_append_getElem hk, List.mem_append]
  rintro (h | h)
  · exact h1 h
  · exact h2 (List.mem_singleton.1 h)
theorem any_take {α : Type} {p : α → Bool} {l : List α} {k : Nat} (hk : k < l.length) : (l.take (k + 1)).any p = ((l.take k).any p || p l[k]) := by
  rw [List.take_succ_eq_append_getElem hk, List.any_append]
  simp
section
variable {V W : World}
theorem contains_strs (hV : Sub V W) {s : Sl} {l : List (List UInt8)} (hs : Strs V s l) (hl : l.length ≤ 1099511627776) (x : List UInt8) : Ret Tryz.prog 108 [s.v, str x].toArray W fun v w' => v = .bool (decide (x ∈ l)) ∧ Rel W V [] V w' := by
  have key : Ret Tryz.prog 124 [s.v, str x].toArray W fun v w' => (∃ i : Int, v = iv i ∧ (0 ≤ i ↔ x ∈ l)) ∧ Rel W V [] V w' := by
    have H := Rel.start hV
    have hlen := hs.len
    refine cal_of_vc tabOk Tryz.func124 rfl (by kernel_rfl) 19 rfl (by simp) [0, 1, 4, 5, 7, 8, 9, 16] ?_
    (first | (refine H.wg ?_; clear H; intros; rename_i w H; constructor) | refine wk ?_)
    refine loop_inv (S := Nat) tabOk [0, 1, 7] (fun k => [(8, iv k)]) (fun k w' => k ≤ l.length ∧ x ∉ l.take k ∧ Rel W V [] V w') (fun k _ => l.length - k) 0 ?_
    (conv => whnf)
    refine ⟨(by repeat (first | exact trivial | refine ⟨rfl, ?_⟩)), ⟨by omega, by simp, H⟩, ?_⟩
    clear H
    rintro k w ⟨hk, hz, H⟩
    by_cases hlt : k < l.length
    · obtain ⟨hp, hc⟩ := hs.get1 (g := str) (fun _ => rfl) hlt
      (first | (refine H.wg ?_; clear H; intros; rename_i w H; constructor) | refine wk ?_)
      refine condG_dec (fun h => ?_) (fun h => ?_)
      · (first | (refine H.wg ?_; clear H; intros; rename_i w H; constructor) | refine wk ?_)
        exact ⟨⟨k, rfl, fun _ => by rw [h]; exact List.getElem_mem hlt, fun _ => by omega⟩, H.sx⟩
      · (first | (refine H.wg ?_; clear H; intros; rename_i w H; constructor) | refine wk ?_)
        exact ⟨(by repeat (first | exact trivial | refine ⟨rfl, ?_⟩)), k + 1, (by repeat (first | exact trivial | refine ⟨rfl, ?_⟩)), ⟨by omega, take_mem hlt hz h, H⟩, by omega⟩
    · (first | (refine H.wg ?_; clear H; intros; rename_i w H; constructor) | refine wk ?_)
      refine ⟨⟨-1, rfl, fun h => by omega, fun h => ?_⟩, H.sx⟩
      rw [List.take_of_length_le (by omega)] at hz
      exact absurd h hz
  refine cal_of_vc tabOk Tryz.func108 rfl (by kernel_rfl) 9 rfl (by simp) [0, 1, 4] ?_
  (conv => whnf)
  refine key.use ?_
  rintro v w ⟨⟨i, rfl, hi⟩, H⟩
  (conv => whnf)
  exact ⟨by simp only [hi], H⟩
theorem containsFunc_strs (hV : Sub V W) {s : Sl} {l : List (List UInt8)} (hs : Strs V s l) (hl : l.length ≤ 1099511627776) {g : FuncId} {caps : List Value} (p : List UInt8 → Bool)
    (hg : ∀ (x : List UInt8) (w : World), Sub V w → Ret Tryz.prog g (str x :: caps).toArray w fun v w' => v = .bool (p x) ∧ Rel w V [] V w') :
    Ret Tryz.prog 106 [s.v, .func (.func g) #[] caps.toArray].toArray W fun v w' => v = .bool (l.any p) ∧ Rel W V [] V w' := by
  have key : Ret Tryz.prog 123 [s.v, .func (.func g) #[] caps.toArray].toArray W fun v w' => (∃ i : Int, v = iv i ∧ (0 ≤ i ↔ l.any p = true)) ∧ Rel W V [] V w' := by
    have H := Rel.start hV
    have hlen := hs.len
    refine cal_of_vc tabOk Tryz.func123 rfl (by kernel_rfl) 19 rfl (by simp) [0, 1, 4, 5, 7, 8, 9, 16] ?_
    (first | (refine H.wg ?_; clear H; intros; rename_i w H; constructor) | refine wk ?_)
    refine loop_inv (S := Nat) tabOk [0, 1, 7] (fun k => [(8, iv k)]) (fun k w' => k ≤ l.length ∧ (l.take k).any p = false ∧ Rel W V [] V w') (fun k _ => l.length - k) 0 ?_
    (conv => whnf)
    refine ⟨(by repeat (first | exact trivial | refine ⟨rfl, ?_⟩)), ⟨by omega, by simp, H⟩, ?_⟩
    clear H
    rintro k w ⟨hk, hz, H⟩
    by_cases hlt : k < l.length
    · obtain ⟨hp, hc⟩ := hs.get1 (g := str) (fun _ => rfl) hlt
      (first | (refine H.wg ?_; clear H; intros; rename_i w H; constructor) | refine wk ?_)
      refine (hg l[k] _ H.data).use ?_
      rintro v w ⟨rfl, K⟩
      replace H := H.call K
      (conv => whnf)
      refine condG_split (fun h1 => ?_) (fun h1 => ?_)
      · (first | (refine H.wg ?_; clear H; intros; rename_i w H; constructor) | refine wk ?_)
        refine ⟨⟨k, rfl, fun _ => ?_, fun _ => by omega⟩, H⟩
        rw [List.any_eq_true]
        exact ⟨l[k], List.getElem_mem hlt, h1⟩
      · (first | (refine H.wg ?_; clear H; intros; rename_i w H; constructor) | refine wk ?_)
        exact ⟨(by repeat (first | exact trivial | refine ⟨rfl, ?_⟩)), k + 1, (by repeat (first | exact trivial | refine ⟨rfl, ?_⟩)), ⟨by omega, by rw [any_take hlt, hz, h1]; rfl, H⟩, by omega⟩
    · (first | (refine H.wg ?_; clear H; intros; rename_i w H; constructor) | refine wk ?_)
      refine ⟨⟨-1, rfl, fun h => by omega, fun h => ?_⟩, H⟩
      rw [List.take_of_length_le (by omega)] at hz
      rw [hz] at h
      cases h
  refine cal_of_vc tabOk Tryz.func106 rfl (by kernel_rfl) 9 rfl (by simp) [0, 1, 4] ?_
  (conv => whnf)
  refine key.use ?_
  rintro v w ⟨⟨i, rfl, hi⟩, H⟩
  (conv => whnf)
  refine ⟨?_, H⟩
  simp only [hi]
  cases l.any p <;> rfl
end
end Go.Proofs.YtffaffojkfalhaaGreatDoor
