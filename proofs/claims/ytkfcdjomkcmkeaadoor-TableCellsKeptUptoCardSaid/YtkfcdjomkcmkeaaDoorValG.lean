/-
  Plain values: Same; nodeCode and nodeSize of the reference.
-/
import Derived.Test.YtkfcdjomkcmkeaaDoorValE
import Derived.Test.YtkfcdjomkcmkeaaDoorStrA
namespace Go.Proofs.YtkfcdjomkcmkeaaDoor
open Go Go.RowKit

theorem Val.ext {a b : Val} (h1 : a.kind = b.kind) (h2 : a.num = b.num) (h3 : a.bytes = b.bytes) (h4 : a.names = b.names) (h5 : a.parts = b.parts) : a = b := by
  cases a; cases b
  simp only [Val.kind, Val.num, Val.bytes, Val.names, Val.parts] at h1 h2 h3 h4 h5
  subst h1 h2 h3 h4 h5
  rfl
section
variable {V W : World}
set_option maxRecDepth 100000 in
set_option maxHeartbeats 1000000 in
theorem same_value : ∀ (N : Nat) {V W : World}, Sub V W → ∀ {h h' : VH} {a b : Val}, SizeOf.sizeOf a < N → ValAt V h a → ValAt V h' b → VB 1099511627776 a →
    Ret Tryd.prog 9 [valV h, valV h'].toArray W fun q w' => ∃ r : Bool, q = .bool r ∧ (r = true ↔ a = b) ∧ Rel W V [] V w' := by
  intro N
  induction N with
  | zero => intro V W _ h h' a b hs; omega
  | succ N ih =>
    intro V W hV h h' a b hs ha hb hB
    have H := Rel.start hV
    have l3 := ha.plen
    have l3' := hb.plen
    have hpl := hB.parts
    have hnl := hB.names
    have e1 := ha.kind
    have e2 := ha.num
    have f1 := hb.kind
    have f2 := hb.num
    have hns := ha.names
    have hns' := hb.names
    have hbs := ha.bytes
    have hbs' := hb.bytes
    obtain ⟨hk, hn, bs, ss, pl⟩ := h
    obtain ⟨hk', hn', bs', ss', pl'⟩ := h'
    dsimp only at e1 e2 l3 hns hbs f1 f2 l3' hns' hbs'
    subst e1 e2 f1 f2
    change Ret Tryd.prog 9 [.agg [iv a.kind, iv a.num, bs.v, ss.v, pl.v].toArray, .agg [iv b.kind, iv b.num, bs'.v, ss'.v, pl'.v].toArray].toArray W _
    refine cal_of_vc tabOk Tryd.func9 rfl (by kernel_rfl) 62 rfl (by simp) [0, 1, 2, 3, 4, 5, 42, 47, 61] ?_
    (first | (refine H.wh ?_; clear H; intros; rename_i w H; constructor) | refine wk ?_)
    ((first | refine Rel.nwD H ?_ | refine Rel.nw H ?_); clear H; intro w b2 H)
    (first | (refine H.wh ?_; clear H; intros; rename_i w H; constructor) | refine wk ?_)
    ((first | refine Rel.nwD H ?_ | refine Rel.nw H ?_); clear H; intro w b3 H)
    by_cases c1 : a.kind = b.kind
    rotate_left
    · (first | (refine H.wg ?_; clear H; intros; rename_i w H; constructor) | refine wk ?_)
      exact ⟨false, rfl, ⟨fun h => (by cases h), fun h => absurd (by rw [h]) c1⟩, H.sx⟩
    by_cases c2 : a.num = b.num
    rotate_left
    · (first | (refine H.wg ?_; clear H; intros; rename_i w H; constructor) | refine wk ?_)
      exact ⟨false, rfl, ⟨fun h => (by cases h), fun h => absurd (by rw [h]) c2⟩, H.sx⟩
    (first | (refine H.wg ?_; clear H; intros; rename_i w H; constructor) | refine wk ?_)
    refine (bytes_ref H.data hbs hbs').use ?_
    rintro q w ⟨rfl, K⟩
    (have hKb := K.base; replace H := H.call0 K)
    by_cases c3 : a.bytes = b.bytes
    rotate_left
    · rw [decide_eq_false c3]
      (first | (refine H.wg ?_; clear H; intros; rename_i w H; constructor) | refine wk ?_)
      exact ⟨false, rfl, ⟨fun h => (by cases h), fun h => absurd (by rw [h]) c3⟩, H.sx⟩
    rw [decide_eq_true c3]
    (first | (refine H.wg ?_; clear H; intros; rename_i w H; constructor) | refine wk ?_)
    refine (strings_ref H.data hns hns' hnl).use ?_
    rintro q w ⟨rfl, K⟩
    (have hKb := K.base; replace H := H.call0 K)
    by_cases c4 : a.names = b.names
    rotate_left
    · rw [decide_eq_false c4]
      (first | (refine H.wg ?_; clear H; intros; rename_i w H; constructor) | refine wk ?_)
      exact ⟨false, rfl, ⟨fun h => (by cases h), fun h => absurd (by rw [h]) c4⟩, H.sx⟩
    rw [decide_eq_true c4]
    by_cases c5 : a.parts.length = b.parts.length
    rotate_left
    · (first | (refine H.wg ?_; clear H; intros; rename_i w H; constructor) | refine wk ?_)
      exact ⟨false, rfl, ⟨fun h => (by cases h), fun h => absurd (by rw [h]) c5⟩, H.sx⟩
    (first | (refine H.wg ?_; clear H; intros; rename_i w H; constructor) | refine wk ?_)
    refine loop_inv (S := Nat) tabOk [0, 1, 2, 3, 42] (fun k => [(5, iv k)]) (fun k w' => k ≤ a.parts.length ∧ a.parts.take k = b.parts.take k ∧ Rel W V [.blk b3 [iv b.kind, iv b.num, bs'.v, ss'.v, pl'.v] 27, .blk b2 [iv a.kind, iv a.num, bs.v, ss.v, pl.v] 27] V w') (fun k _ => a.parts.length - k) 0 ?_
    (conv => whnf)
    refine ⟨(by repeat (first | exact trivial | refine ⟨rfl, ?_⟩)), ⟨by omega, rfl, H.sx⟩, ?_⟩
    clear H
    rintro k w ⟨hk, hz, H⟩
    by_cases hlt : k < a.parts.length
    rotate_left
    · rw [List.take_of_length_le (by omega), List.take_of_length_le (by omega)] at hz
      (first | (refine H.wg ?_; clear H; intros; rename_i w H; constructor) | refine wk ?_)
      exact ⟨true, rfl, ⟨fun _ => Val.ext c1 c2 c3 c4 hz, fun _ => rfl⟩, H.sx⟩
    have hlt' : k < b.parts.length := by omega
    obtain ⟨hp, x, hx, q0, q1, q2, q3, q4⟩ := ha.part5 hlt
    obtain ⟨hp', x', hx', q0', q1', q2', q3', q4'⟩ := hb.part5 hlt'
    have hmem := List.getElem_mem hlt
    (first | (refine H.wg ?_; clear H; intros; rename_i w H; constructor) | refine wk ?_)
    ((first | refine draw_vc (id := 6) tabOk mixed [] [0, 1, 2, 3, 4, 5, 6, 7, 8, 9, 10, 11] (by kernel_rfl) ?_); intro w hdw; replace H := Rel.ext H hdw.ext)
    (first | (refine H.wg ?_; clear H; intros; rename_i w H; constructor) | refine wk ?_)
    refine (ih H.data (by have := Val.part_lt hmem; omega) hx hx' (hB.part _ hmem)).use ?_
    rintro q w ⟨r, rfl, hr, K⟩
    (have hKb := K.base; replace H := H.call0 K)
    cases r with
    | false =>
      have hne : ¬ a.parts[k] = b.parts[k] := fun h => by have := hr.2 h; cases this
      (first | (refine H.wg ?_; clear H; intros; rename_i w H; constructor) | refine wk ?_)
      refine ⟨false, rfl, ⟨fun h => (by cases h), fun h => absurd ?_ hne⟩, H.sx⟩
      subst h
      rfl
    | true =>
      have he := hr.1 rfl
      (first | (refine H.wg ?_; clear H; intros; rename_i w H; constructor) | refine wk ?_)
      refine ⟨(by repeat (first | exact trivial | refine ⟨rfl, ?_⟩)), k + 1, (by repeat (first | exact trivial | refine ⟨rfl, ?_⟩)), ⟨by omega, ?_, H.sx⟩, by omega⟩
      rw [List.take_succ_eq_append_getElem hlt, List.take_succ_eq_append_getElem hlt', hz, he]
end
end Go.Proofs.YtkfcdjomkcmkeaaDoor
namespace Go.Proofs.YtkfcdjomkcmkeaaDoor
open Go Go.RowKit

theorem names_first {l : List (List UInt8)} : (∀ s ∈ l, nameOk s = true) ↔ l.any (fun s => !nameOk s) = false := by
  rw [List.any_eq_false]
  simp
section
variable {V W : World}
end
end Go.Proofs.YtkfcdjomkcmkeaaDoor
