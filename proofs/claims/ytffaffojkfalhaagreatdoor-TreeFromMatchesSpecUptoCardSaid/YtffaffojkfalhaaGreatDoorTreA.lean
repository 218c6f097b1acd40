/-
  bytes.TrimLeft; the reader's state, and its small methods.
-/
import Derived.Test.YtffaffojkfalhaaGreatDoorTreP
import Derived.Test.YtffaffojkfalhaaGreatDoorVcQ
import Derived.Test.YtffaffojkfalhaaGreatDoorVcW
import Derived.Shelf.Bytes.SlTrimWalks
namespace Go.Proofs.YtffaffojkfalhaaGreatDoor
open Go Go.RowKit Go.Shelf

theorem Byt.dr {V : World} {s : Sl} {l : List UInt8} (h : Byt V s l) {k : Nat} (hk : k ≤ l.length) : Byt V ⟨subA s.a k s.cap 1, s.len - k, s.cap - k⟩ (l.drop k) := by
  have := SlF.sub h (n := 1) (fun _ => rfl) (a := k) (b := l.length) hk (Nat.le_refl _)
  rw [List.take_length] at this
  rw [h.len]
  exact this
theorem Byt.tk {V : World} {s : Sl} {l : List UInt8} (h : Byt V s l) {k : Nat} (hk : k ≤ l.length) : Byt V ⟨subA s.a 0 s.cap 1, k - 0, s.cap - 0⟩ (l.take k) := SlF.sub h (n := 1) (fun _ => rfl) (a := 0) (b := k) (Nat.zero_le _) hk
/-- s[:k:k] -/
theorem Byt.tk3 {V : World} {s : Sl} {l : List UInt8} (h : Byt V s l) {k : Nat} (hk : k ≤ l.length) : Byt V ⟨subA s.a 0 k 1, k - 0, k - 0⟩ (l.take k) := by
  refine ⟨by simp; omega, Nat.le_refl _, fun hne => ?_, fun j v hj => ?_⟩
  · have hp : Plain s.a := h.cells.1 (fun e => hne (by
      have : l = [] := by cases l with
        | nil => rfl
        | cons c r => simp at e
      rw [this]; simp))
    exact (subA_plain hp : Plain (subA s.a 0 k 1))
  · have hj' : (l.flatMap byC)[j]? = some v := by
      have := flat_take (f := byC) (n := 1) (l := l) (fun _ => rfl) k
      rw [← this, List.getElem?_take] at hj
      split at hj
      · exact hj
      · cases hj
    have hp : Plain s.a := h.cells.1 (fun e => by rw [e] at hj'; simp at hj')
    have hc := h.cells.2 j v hj'
    have ho : aoff (subA s.a 0 k 1) = aoff s.a := by
      by_cases hz : k = 0
      · unfold subA; rw [if_pos hz]
      · rw [subA_off hp hz, Nat.zero_mul, Nat.add_zero]
    show V.cell? ⟨ablk (subA s.a 0 k 1), aoff (subA s.a 0 k 1) + j, none⟩ = some v
    rw [subA_blk, ho]
    exact hc
def setT (cs : List UInt8) : List Value := (List.range 256).map fun j => Value.bool (cs.contains (UInt8.ofNat j))
theorem setT_at (cs : List UInt8) (x : UInt8) : (setT cs)[x.toNat]? = some (.bool (cs.contains x)) := by
  unfold setT
  rw [List.getElem?_map, List.getElem?_range x.toNat_lt]
  simp
section
variable {V W : World}
def renT : Shelf.Ren := ⟨fun _ => 83, fun x => if x = 0 then 0 else if x = 3 then 3 else if x = 4 then 4 else if x = 5 then 5 else if x = 9 then 9 else if x = 27 then 127 else x, fun x => x⟩
set_option maxRecDepth 100000 in
theorem laysT : SlLaysV.n11 Tryz.prog renT where
  mixed := by kernel_rfl
  f11 := Tryz.func83.trans (congrArg some (by kernel_rfl))
  t0 := Tryz.underlying0
  a0 := Tryz.isAgg0
  z0 := Tryz.sizeOf0
  v0 := Tryz.zeroValue0
  t3 := Tryz.underlying3
  a3 := Tryz.isAgg3
  z3 := Tryz.sizeOf3
  v3 := Tryz.zeroValue3
  t4 := Tryz.underlying4
  a4 := Tryz.isAgg4
  z4 := Tryz.sizeOf4
  v4 := Tryz.zeroValue4
  t5 := Tryz.underlying5
  a5 := Tryz.isAgg5
  z5 := Tryz.sizeOf5
  v5 := Tryz.zeroValue5
  t9 := Tryz.underlying9
  a9 := Tryz.isAgg9
  z9 := Tryz.sizeOf9
  v9 := Tryz.zeroValue9
  t27 := Tryz.underlying127
  a27 := Tryz.isAgg127
  z27 := Tryz.sizeOf127
set_option maxRecDepth 100000 in
theorem setT_spec (hV : Sub V W) {cs : List UInt8} (hcs : ∀ b ∈ cs, b.toNat < 128) (hl : cs.length < 1000) : Ret Tryz.prog 83 [str cs].toArray W fun v w' => v = .tuple #[.agg (setT cs).toArray, .bool true] ∧ Rel W V [] V w' := by
  have h := Any.bytes_makeASCIISet laysT (fun w => by kernel_rfl) (by kernel_rfl) ⟨cs.toArray⟩ W (by show cs.toArray.size < _; simp; omega) (fun j b hb => hcs b (List.mem_of_getElem? (by simpa using hb)))
  have e : Lib.setCells (⟨cs.toArray⟩ : ByteArray).data.toList = (setT cs).toArray := by
    rw [Lib.setCells_eq]
    unfold setT
    apply Array.ext'
    simp
  rw [e] at h
  exact Ret.ofCalls Tryz.func83 (by kernel_rfl) (by kernel_rfl) (Calls.mono' h fun e w' ⟨he, hw⟩ => ⟨_, he, rfl, by rw [hw]; exact ((Rel.start hV).newObj _).drop1⟩)
theorem inT_spec (hV : Sub V W) {b : Nat} {cs : List UInt8} (hb : Blk V b (setT cs) 127) (x : UInt8) : Ret Tryz.prog 94 [.pointer (some ⟨b, 0, none⟩), bv x].toArray W fun v w' => v = .bool (cs.contains x) ∧ Rel W V [] V w' := by
  have H := Rel.start hV
  have h1 := hb.cel (setT_at cs x)
  have hx8 := x.toNat_lt
  refine cal_of_vc tabOk Tryz.func94 rfl (by kernel_rfl) 10 rfl (by simp) [0, 1, 4] ?_
  (first | (refine H.wg ?_; clear H; intros; rename_i w H; constructor) | refine wk ?_)
  rw [show x.toNat = placeOf 0 ((x.toNat : Nat) : Int).toNat 1 by simp [placeOf]] at h1
  refine ⟨_, H.dat h1, ?_⟩
  (first | (refine H.wg ?_; clear H; intros; rename_i w H; constructor) | refine wk ?_)
  exact H
theorem trimA_spec (hV : Sub V W) {b : Nat} {cs : List UInt8} (hb : Blk V b (setT cs) 127) {s : Sl} {l : List UInt8} (hs : Byt V s l) (hl : l.length ≤ 1099511627776) : Ret Tryz.prog 84 [s.v, .pointer (some ⟨b, 0, none⟩)].toArray W fun v w' => (∃ r : Sl, v = r.v ∧ ∀ U, Byt U s l → Byt U r (l.dropWhile fun c => cs.contains c)) ∧ Rel W V [] V w' := by
  have H := Rel.start hV
  have hlen := hs.len
  refine cal_of_vc tabOk Tryz.func84 rfl (by kernel_rfl) 20 rfl (by simp) [0, 1, 4, 7, 13, 18] ?_
  (first | (refine H.wg ?_; clear H; intros; rename_i w H; constructor) | refine wk ?_)
  refine SemC.cut 0 (fun r : Sl => [(0, r.v)]) (fun r w' => (∀ U, Byt U s l → Byt U r (l.dropWhile fun c => cs.contains c)) ∧ Rel W V [] V w') ?_ ?_
  · refine loop_inv (S := Sl) tabOk [1, 4, 18] (fun k => [(0, k.v)]) (fun k w' => (∃ m, (∀ U, Byt U s l → Byt U k m) ∧ m.length ≤ l.length ∧ m.dropWhile (fun c => cs.contains c) = l.dropWhile (fun c => cs.contains c)) ∧ Rel W V [] V w') (fun k _ => k.len) s ?_
    (conv => whnf)
    refine ⟨(by repeat (first | exact trivial | refine ⟨rfl, ?_⟩)), ⟨⟨l, fun _ h => h, Nat.le_refl _, rfl⟩, H⟩, ?_⟩
    clear H
    rintro r w ⟨⟨m, hr', hml, hm⟩, H⟩
    have hr := hr' V hs
    have hrl := hr.len
    cases m with
    | nil =>
      have hr0 : r.len = 0 := hrl
      (first | (refine H.wg ?_; clear H; intros; rename_i w H; constructor) | refine wk ?_)
      refine ⟨r, (by repeat (first | exact trivial | refine ⟨rfl, ?_⟩)), ?_, H⟩
      rw [← hm]
      exact hr'
    | cons x m =>
      rw [List.length_cons] at hrl
      obtain ⟨p0, c0⟩ := hr.at1 (g := bv) (fun _ => rfl) (show 0 < (x :: m).length by simp)
      rw [List.getElem_cons_zero] at c0
      (first | (refine H.wg ?_; clear H; intros; rename_i w H; constructor) | refine wk ?_)
      refine (inT_spec H.data hb x).use ?_
      rintro v w ⟨rfl, K⟩
      (have hKb := K.base; replace H := H.call0 K)
      cases hx : cs.contains x with
      | false =>
        have e : (x :: m).dropWhile (fun c => cs.contains c) = x :: m := by rw [List.dropWhile_cons, if_neg (by rw [hx]; decide)]
        rw [e] at hm
        (first | (refine H.wg ?_; clear H; intros; rename_i w H; constructor) | refine wk ?_)
        refine ⟨r, (by repeat (first | exact trivial | refine ⟨rfl, ?_⟩)), ?_, H.sx⟩
        rw [← hm]
        exact hr'
      | true =>
        have e : (x :: m).dropWhile (fun c => cs.contains c) = m.dropWhile (fun c => cs.contains c) := by rw [List.dropWhile_cons, if_pos hx]
        rw [e] at hm
        (first | (refine H.wg ?_; clear H; intros; rename_i w H; constructor) | refine wk ?_)
        exact ⟨(by repeat (first | exact trivial | refine ⟨rfl, ?_⟩)), _, (by repeat (first | exact trivial | refine ⟨rfl, ?_⟩)), ⟨⟨m, fun U hU => (hr' U hU).dr (k := 1) (by simp), by simp at hml ⊢; omega, hm⟩, H.sx⟩, by dsimp only; omega⟩
  clear H
  rintro r w ⟨hr, H⟩
  have hrl := (hr V hs).len
  by_cases h0 : r.len = 0
  · (first | (refine H.wg ?_; clear H; intros; rename_i w H; constructor) | refine wk ?_)
    refine ⟨⟨⟨none, 0, 0⟩, rfl, fun U _ => ?_⟩, H.sx⟩
    rw [List.eq_nil_of_length_eq_zero (hrl.symm.trans h0)]
    exact SlF.nil _ _
  · (first | (refine H.wg ?_; clear H; intros; rename_i w H; constructor) | refine wk ?_)
    exact ⟨⟨r, rfl, hr⟩, H.sx⟩
set_option maxRecDepth 100000 in
theorem trim_spec (hV : Sub V W) {s : Sl} {l : List UInt8} (hs : Byt V s l) (hl : l.length ≤ 1099511627776) {cs : List UInt8} (hcs : ∀ b ∈ cs, b.toNat < 128) (h1 : 2 ≤ cs.length) (h2 : cs.length < 1000) : Ret Tryz.prog 61 [s.v, str cs].toArray W fun v w' => (∃ r : Sl, v = r.v ∧ Byt V r (l.dropWhile fun c => cs.contains c)) ∧ Rel W V [] V w' := by
  have H := Rel.start hV
  have hlen := hs.len
  have hsz : (ByteArray.mk cs.toArray).size = cs.length := rfl
  refine cal_of_vc tabOk Tryz.func61 rfl (by kernel_rfl) 36 rfl (by simp) [0, 1, 4, 5, 6, 9, 11, 20, 30] ?_
  by_cases h0 : s.len = 0
  · (first | (refine H.wg ?_; clear H; intros; rename_i w H; constructor) | refine wk ?_)
    refine ⟨⟨⟨none, 0, 0⟩, rfl, ?_⟩, H.sx⟩
    rw [List.eq_nil_of_length_eq_zero (hlen.symm.trans h0)]
    exact SlF.nil _ _
  (first | (refine H.wg ?_; clear H; intros; rename_i w H; constructor) | refine wk ?_)
  refine condG_dec (fun h => ?_) (fun _ => ?_)
  · rw [h] at h1
    simp at h1
  (first | (refine H.wg ?_; clear H; intros; rename_i w H; constructor) | refine wk ?_)
  refine (setT_spec H.data hcs h2).use ?_
  rintro v w ⟨rfl, K⟩
  (have hKb := K.base; replace H := H.call0 K)
  (first | (refine H.wh ?_; clear H; intros; rename_i w H; constructor) | refine wk ?_)
  ((first | refine Rel.nwD H ?_ | refine Rel.nw H ?_); clear H; intro w b5 H)
  (first | (refine H.wh ?_; clear H; intros; rename_i w H; constructor) | refine wk ?_)
  replace H := H.blkEq (c' := setT cs) (by rfl)
  obtain ⟨V2, hV2, H, hb5⟩ := H.freezeBlk
  (first | (refine H.wg ?_; clear H; intros; rename_i w H; constructor) | refine wk ?_)
  refine (trimA_spec H.data hb5 (hs.up hV2) hl).use ?_
  rintro v w ⟨⟨r, rfl, hr⟩, K⟩
  (have hKb := K.base; replace H := H.call0 K)
  (first | (refine H.wg ?_; clear H; intros; rename_i w H; constructor) | refine wk ?_)
  exact ⟨⟨r, rfl, hr V hs⟩, H.sx.less (Sub.refl _) hV2⟩
end
end Go.Proofs.YtffaffojkfalhaaGreatDoor
