/-
  Plain values: a node by itself.
-/
import Derived.Test.YtffaffojkfalhaaGreatDoorValP
import Derived.Test.YtffaffojkfalhaaGreatDoorStrA
import Derived.Test.YtffaffojkfalhaaGreatDoorVcU
import Derived.Test.YtffaffojkfalhaaGreatDoorWirA
namespace Go.Proofs.YtffaffojkfalhaaGreatDoor
open Go Go.RowKit

section
variable {V W : World}
theorem contains_ints (hV : Sub V W) {s : Sl} {l : List Int} (hs : SlF itC V s l) (hl : l.length ≤ 1099511627776) (x : Int) : Ret Tryz.prog 105 [s.v, iv x].toArray W fun v w' => v = .bool (decide (x ∈ l)) ∧ Rel W V [] V w' := by
  have key : Ret Tryz.prog 122 [s.v, iv x].toArray W fun v w' => (∃ i : Int, v = iv i ∧ (0 ≤ i ↔ x ∈ l)) ∧ Rel W V [] V w' := by
    have H := Rel.start hV
    have hlen := hs.len
    refine cal_of_vc tabOk Tryz.func122 rfl (by kernel_rfl) 19 rfl (by simp) [0, 1, 4, 5, 7, 8, 9, 16] ?_
    (first | (refine H.wg ?_; clear H; intros; rename_i w H; constructor) | refine wk ?_)
    refine loop_inv (S := Nat) tabOk [0, 1, 7] (fun k => [(8, iv k)]) (fun k w' => k ≤ l.length ∧ x ∉ l.take k ∧ Rel W V [] V w') (fun k _ => l.length - k) 0 ?_
    (conv => whnf)
    refine ⟨(by repeat (first | exact trivial | refine ⟨rfl, ?_⟩)), ⟨by omega, by simp, H⟩, ?_⟩
    clear H
    rintro k w ⟨hk, hz, H⟩
    by_cases hlt : k < l.length
    · obtain ⟨hp, hc⟩ := hs.get1 (g := iv) (fun _ => rfl) hlt
      (first | (refine H.wg ?_; clear H; intros; rename_i w H; constructor) | refine wk ?_)
      refine condG_dec (fun h => ?_) (fun h => ?_)
      · (first | (refine H.wg ?_; clear H; intros; rename_i w H; constructor) | refine wk ?_)
        exact ⟨⟨k, rfl, fun _ => by rw [h]; exact List.getElem_mem hlt, fun _ => by omega⟩, H.sx⟩
      · (first | (refine H.wg ?_; clear H; intros; rename_i w H; constructor) | refine wk ?_)
        exact ⟨(by repeat (first | exact trivial | refine ⟨rfl, ?_⟩)), k + 1, (by repeat (first | exact trivial | refine ⟨rfl, ?_⟩)), ⟨by omega, take_mem hlt hz h, H⟩, by omega⟩
    · (first | (refine H.wg ?_; clear H; intros; rename_i w H; constructor) | refine wk ?_)
      refine ⟨⟨-1, rfl, fun h => by omega, fun h => ?_⟩, H.sx⟩
      rw [List.take_of_length_le (by omega)] at hz
      exact absurd h hz
  refine cal_of_vc tabOk Tryz.func105 rfl (by kernel_rfl) 9 rfl (by simp) [0, 1, 4] ?_
  (conv => whnf)
  refine key.use ?_
  rintro v w ⟨⟨i, rfl, hi⟩, H⟩
  (conv => whnf)
  exact ⟨by simp only [hi], H⟩
theorem has_spec (hV : Sub V W) {b : Nat} {k : Int} (hb : V.cell? ⟨b, 0, none⟩ = some (iv k)) {s : Sl} {l : List Int} (hs : SlF itC V s l) (hl : l.length ≤ 1099511627776) {p : Prop} [Decidable p] (hp : p ↔ k ∈ l) :
    Ret Tryz.prog 104 [s.v, .pointer (some ⟨b, 0, none⟩)].toArray W fun v w' => v = .bool (decide p) ∧ Rel W V [] V w' := by
  have H := Rel.start hV
  refine cal_of_vc tabOk Tryz.func104 rfl (by kernel_rfl) 8 rfl (by simp) [0, 1, 3] ?_
  (first | (refine H.wg ?_; clear H; intros; rename_i w H; constructor) | refine wk ?_)
  refine (contains_ints H.data hs hl k).use ?_
  rintro v w ⟨rfl, K⟩
  replace H := H.call K
  (first | (refine H.wg ?_; clear H; intros; rename_i w H; constructor) | refine wk ?_)
  exact ⟨by simp only [hp], H⟩
theorem notName_spec (hV : Sub V W) (s : List UInt8) : Ret Tryz.prog 107 [str s].toArray W fun v w' => v = .bool (!nameOk s) ∧ Rel W V [] V w' := by
  have H := Rel.start hV
  refine cal_of_vc tabOk Tryz.func107 rfl (by kernel_rfl) 6 rfl (by simp) [0, 2] ?_
  (first | (refine H.wg ?_; clear H; intros; rename_i w H; constructor) | refine wk ?_)
  refine (name_spec H.data s).use ?_
  rintro v w ⟨rfl, K⟩
  replace H := H.call K
  (first | (refine H.wg ?_; clear H; intros; rename_i w H; constructor) | refine wk ?_)
  exact H
end
end Go.Proofs.YtffaffojkfalhaaGreatDoor
