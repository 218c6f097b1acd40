/-
  Plain values: a node by itself.
-/
import Derived.Test.YtjfcpnlacodjjaaValP
import Derived.Test.YtjfcpnlacodjjaaStrA
import Derived.Test.YtjfcpnlacodjjaaVcU
import Derived.Test.YtjfcpnlacodjjaaWirA
namespace Go.Proofs.Ytjfcpnlacodjjaa
open Go Go.RowKit

section
variable {V W : World}
theorem contains_ints (hV : Sub V W) {s : Sl} {l : List Int} (hs : SlF itC V s l) (hl : l.length ≤ 1099511627776) (x : Int) : Ret Try.prog 132 [s.v, iv x].toArray W fun v w' => v = .bool (decide (x ∈ l)) ∧ Rel W V [] V w' := by
  have key : Ret Try.prog 142 [s.v, iv x].toArray W fun v w' => (∃ i : Int, v = iv i ∧ (0 ≤ i ↔ x ∈ l)) ∧ Rel W V [] V w' := by
    have H := Rel.start hV
    have hlen := hs.len
    refine cal_of_vc tabOk Try.func142 rfl (by kernel_rfl) 19 rfl (by simp) [0, 1, 4, 5, 7, 8, 9, 16] ?_
    ((repeat ((conv => whnf); first | refine an ?_ | ((first | refine H.nwD ?_ | refine H.nw ?_); clear H; intro w _ H) | refine H.ce ?_ | refine H.db ?_ | refine ea ?_ | refine ol ?_ | (refine H.st ?_; (conv => whnf); clear H; intro w H) | refine cT ?_ | refine cF ?_ | refine cN ?_ | refine cM ?_ | refine H.lw ?_ | refine H.ll ?_)); (conv => whnf))
    refine loop_inv (S := Nat) tabOk [0, 1, 7] (fun k => [(8, iv k)]) (fun k w' => k ≤ l.length ∧ x ∉ l.take k ∧ Rel W V [] V w') (fun k _ => l.length - k) 0 ?_
    (conv => whnf)
    refine ⟨(by repeat (first | exact trivial | refine ⟨rfl, ?_⟩)), ⟨by omega, by simp, H⟩, ?_⟩
    clear H
    rintro k w ⟨hk, hz, H⟩
    by_cases hlt : k < l.length
    · obtain ⟨hp, hc⟩ := hs.get1 (g := iv) (fun _ => rfl) hlt
      ((repeat ((conv => whnf); first | refine an ?_ | ((first | refine H.nwD ?_ | refine H.nw ?_); clear H; intro w _ H) | refine H.ce ?_ | refine H.db ?_ | refine ea ?_ | refine ol ?_ | (refine H.st ?_; (conv => whnf); clear H; intro w H) | refine cT ?_ | refine cF ?_ | refine cN ?_ | refine cM ?_ | refine H.lw ?_ | refine H.ll ?_)); (conv => whnf))
      refine condG_dec (fun h => ?_) (fun h => ?_)
      · ((repeat ((conv => whnf); first | refine an ?_ | ((first | refine H.nwD ?_ | refine H.nw ?_); clear H; intro w _ H) | refine H.ce ?_ | refine H.db ?_ | refine ea ?_ | refine ol ?_ | (refine H.st ?_; (conv => whnf); clear H; intro w H) | refine cT ?_ | refine cF ?_ | refine cN ?_ | refine cM ?_ | refine H.lw ?_ | refine H.ll ?_)); (conv => whnf))
        exact ⟨⟨k, rfl, fun _ => by rw [h]; exact List.getElem_mem hlt, fun _ => by omega⟩, H.sx⟩
      · ((repeat ((conv => whnf); first | refine an ?_ | ((first | refine H.nwD ?_ | refine H.nw ?_); clear H; intro w _ H) | refine H.ce ?_ | refine H.db ?_ | refine ea ?_ | refine ol ?_ | (refine H.st ?_; (conv => whnf); clear H; intro w H) | refine cT ?_ | refine cF ?_ | refine cN ?_ | refine cM ?_ | refine H.lw ?_ | refine H.ll ?_)); (conv => whnf))
        exact ⟨(by repeat (first | exact trivial | refine ⟨rfl, ?_⟩)), k + 1, (by repeat (first | exact trivial | refine ⟨rfl, ?_⟩)), ⟨by omega, take_mem hlt hz h, H⟩, by omega⟩
    · ((repeat ((conv => whnf); first | refine an ?_ | ((first | refine H.nwD ?_ | refine H.nw ?_); clear H; intro w _ H) | refine H.ce ?_ | refine H.db ?_ | refine ea ?_ | refine ol ?_ | (refine H.st ?_; (conv => whnf); clear H; intro w H) | refine cT ?_ | refine cF ?_ | refine cN ?_ | refine cM ?_ | refine H.lw ?_ | refine H.ll ?_)); (conv => whnf))
      refine ⟨⟨-1, rfl, fun h => by omega, fun h => ?_⟩, H.sx⟩
      rw [List.take_of_length_le (by omega)] at hz
      exact absurd h hz
  refine cal_of_vc tabOk Try.func132 rfl (by kernel_rfl) 9 rfl (by simp) [0, 1, 4] ?_
  (conv => whnf)
  refine key.use ?_
  rintro v w ⟨⟨i, rfl, hi⟩, H⟩
  (conv => whnf)
  exact ⟨by simp only [hi], H⟩
theorem has_spec (hV : Sub V W) {b : Nat} {k : Int} (hb : V.cell? ⟨b, 0, none⟩ = some (iv k)) {s : Sl} {l : List Int} (hs : SlF itC V s l) (hl : l.length ≤ 1099511627776) {p : Prop} [Decidable p] (hp : p ↔ k ∈ l) :
    Ret Try.prog 131 [s.v, .pointer (some ⟨b, 0, none⟩)].toArray W fun v w' => v = .bool (decide p) ∧ Rel W V [] V w' := by
  have H := Rel.start hV
  refine cal_of_vc tabOk Try.func131 rfl (by kernel_rfl) 8 rfl (by simp) [0, 1, 3] ?_
  ((repeat ((conv => whnf); first | refine an ?_ | ((first | refine H.nwD ?_ | refine H.nw ?_); clear H; intro w _ H) | refine H.ce ?_ | refine H.db ?_ | refine ea ?_ | refine ol ?_ | (refine H.st ?_; (conv => whnf); clear H; intro w H) | refine cT ?_ | refine cF ?_ | refine cN ?_ | refine cM ?_ | refine H.lw ?_ | refine H.ll ?_)); (conv => whnf))
  refine (contains_ints H.data hs hl k).use ?_
  rintro v w ⟨rfl, K⟩
  replace H := H.call K
  ((repeat ((conv => whnf); first | refine an ?_ | ((first | refine H.nwD ?_ | refine H.nw ?_); clear H; intro w _ H) | refine H.ce ?_ | refine H.db ?_ | refine ea ?_ | refine ol ?_ | (refine H.st ?_; (conv => whnf); clear H; intro w H) | refine cT ?_ | refine cF ?_ | refine cN ?_ | refine cM ?_ | refine H.lw ?_ | refine H.ll ?_)); (conv => whnf))
  exact ⟨by simp only [hp], H⟩
theorem notName_spec (hV : Sub V W) (s : List UInt8) : Ret Try.prog 134 [str s].toArray W fun v w' => v = .bool (!nameOk s) ∧ Rel W V [] V w' := by
  have H := Rel.start hV
  refine cal_of_vc tabOk Try.func134 rfl (by kernel_rfl) 6 rfl (by simp) [0, 2] ?_
  ((repeat ((conv => whnf); first | refine an ?_ | ((first | refine H.nwD ?_ | refine H.nw ?_); clear H; intro w _ H) | refine H.ce ?_ | refine H.db ?_ | refine ea ?_ | refine ol ?_ | (refine H.st ?_; (conv => whnf); clear H; intro w H) | refine cT ?_ | refine cF ?_ | refine cN ?_ | refine cM ?_ | refine H.lw ?_ | refine H.ll ?_)); (conv => whnf))
  refine (name_spec H.data s).use ?_
  rintro v w ⟨rfl, K⟩
  replace H := H.call K
  ((repeat ((conv => whnf); first | refine an ?_ | ((first | refine H.nwD ?_ | refine H.nw ?_); clear H; intro w _ H) | refine H.ce ?_ | refine H.db ?_ | refine ea ?_ | refine ol ?_ | (refine H.st ?_; (conv => whnf); clear H; intro w H) | refine cT ?_ | refine cF ?_ | refine cN ?_ | refine cM ?_ | refine H.lw ?_ | refine H.ll ?_)); (conv => whnf))
  exact H
end
end Go.Proofs.Ytjfcpnlacodjjaa
