/-
  Text files: the characters of a file.
-/
import Derived.Test.YtgnaojphgdaalaaDoorTxtE
namespace Go.Proofs.YtgnaojphgdaalaaDoor
open Go Go.RowKit

structure DecR (W V : World) (x : List Nat × Nat) (v : Value) (w' : World) : Prop where
  ex : ∃ (V' : World) (r : Sl), Sub V V' ∧ Rel W V [] V' w' ∧ v = .tuple #[r.v, iv (x.2 : Int)] ∧ SlF ruC V' r x.1
theorem chars_at {l : List UInt8} {p : Nat} (h : (chars (l.drop p)).isSome = true) (hp : p < l.length) : ∃ c n, chAt (l.drop p) = some (c, n) ∧ isCh c ∧ 1 ≤ n ∧ p + n ≤ l.length ∧ chars (l.drop p) = (chars (l.drop (p + n))).map (c :: ·) := by
  have hne : l.drop p ≠ [] := fun e => by
    have := congrArg List.length e
    rw [List.length_drop, List.length_nil] at this
    omega
  rw [chars_step hne] at h ⊢
  cases hc : chAt (l.drop p) with
  | none => rw [hc] at h; cases h
  | some x =>
    obtain ⟨c, n⟩ := x
    obtain ⟨q1, q2, q3, _⟩ := chAt_some hc
    have := u8n_le c
    rw [List.length_drop] at q3
    refine ⟨c, n, rfl, q1, by omega, by omega, ?_⟩
    simp only
    rw [List.drop_drop]
theorem take2 {b : List UInt8} {x y : UInt8} : b.take 2 = [x, y] → 2 ≤ b.length := fun h => by
  have := congrArg List.length h
  simp at this
  omega
theorem mark_chars {b : List UInt8} {cs : List Nat} (h : chars b = some cs) : (b.take 3 = markB ↔ cs.head? = some 65279) ∧ (b.take 3 = markB → chars (b.drop 3) = some cs.tail) := by
  obtain ⟨h1, h2⟩ := chars_iff.1 h
  have hm : u8c 65279 = markB := by decide
  cases cs with
  | nil =>
    simp only [List.flatMap_nil] at h2
    rw [← h2]
    exact ⟨⟨fun e => (by cases e), fun e => (by cases e)⟩, fun e => (by cases e)⟩
  | cons c r =>
    rw [List.flatMap_cons] at h2
    have key : b.take 3 = markB → c = 65279 := fun e => by
      have e2 : b = u8c 65279 ++ b.drop 3 := by rw [hm, ← e, List.take_append_drop]
      have g1 := chAt_of (b.drop 3) (c := 65279) (by decide)
      rw [← e2] at g1
      have g2 := chAt_of (r.flatMap u8c) (h1 c (by simp))
      rw [h2, g1] at g2
      injection g2 with g2
      injection g2 with g2
      exact g2.symm
    have back : c = 65279 → b.take 3 = markB ∧ b.drop 3 = r.flatMap u8c := fun e => by
      rw [e, hm] at h2
      rw [← h2]
      exact ⟨rfl, rfl⟩
    refine ⟨⟨fun e => by rw [key e]; rfl, fun e => (back (by simpa using e)).1⟩, fun e => ?_⟩
    rw [(back (key e)).2, List.tail_cons]
    exact chars_of r fun x hx => h1 x (by simp [hx])
section
variable {V W : World}
theorem gap4 {w0 V0 V w : World} {own : List Res} (H : Rel w0 V0 own V w) {b1 b2 : Nat} {k : Value → World → Prop}
    (hk : ∀ w' b3, Rel w0 V0 (.blk b3 [.slice none 0 0, .slice none 0 0, .slice (some ⟨b1, 0, none⟩) 2 2, .slice (some ⟨b2, 0, none⟩) 2 2] 22 :: own) V w' → k (.slice (some ⟨b3, 0, none⟩) 4 4) w') :
    SemOk Tryd.prog (Instr.buildSlice 91 4 [(2, .slice (some ⟨b1, 0, none⟩) 2 2), (3, .slice (some ⟨b2, 0, none⟩) 2 2)].toArray) w k := by
  refine .of (v := .slice (some ⟨w.heap.size, 0, none⟩) 4 4) (w' := w.alloc (.cells #[.slice none 0 0, .slice none 0 0, .slice (some ⟨b1, 0, none⟩) 2 2, .slice (some ⟨b2, 0, none⟩) 2 2] 22)) (by kernel_rfl) (hk _ _ (H.newBlk ⟨rfl, rfl⟩))
set_option maxRecDepth 100000 in
set_option maxHeartbeats 1000000 in
theorem decode_spec (hV : Sub V W) (hT : Lib.Utf8Tabs 0 1 V) {s : Sl} {b : List UInt8} (hs : Byt V s b) (hl : b.length ≤ 1000000) : Ret Tryd.prog 25 [s.v].toArray W (DecR W V (fileC b)) := by
  have H := Rel.start hV
  have hlen := hs.len
  have hcap := hs.cap
  refine cal_of_sem tabOk Tryd.func25 rfl (by kernel_rfl) 86 rfl (by simp) [0, 2, 3, 4, 5, 6, 7, 8, 9, 10, 12, 14, 23, 26, 27, 28, 29, 39, 48, 53, 62, 63, 64, 70, 73, 74, 75, 76] ?_
  refine SemC.seqGo tabOk ?_
  (first | (refine H.wg ?_; clear H; intros; rename_i w H; constructor) | refine wk ?_)
  refine SemC.seqCut tabOk (fun _ : Unit => [(0, s.v)]) (fun _ w' => u16Of true b = none ∧ u16Of false b = none ∧ Rel W V [] V w') ?_ ?_
  · by_cases he : 2 ≤ b.length ∧ b.length % 2 = 0
    rotate_left
    · have e : ∀ big, u16Of big b = none := fun big => by unfold u16Of; rw [if_neg (fun h => he ⟨h.1, h.2.1⟩)]
      by_cases h2 : 2 ≤ b.length
      · have h3 : ¬ b.length % 2 = 0 := fun h => he ⟨h2, h⟩
        (first | (refine H.wg ?_; clear H; intros; rename_i w H; constructor) | refine wk ?_)
        exact ⟨(), (by repeat (first | exact trivial | refine ⟨rfl, ?_⟩)), e _, e _, H.sx⟩
      · (first | (refine H.wg ?_; clear H; intros; rename_i w H; constructor) | refine wk ?_)
        exact ⟨(), (by repeat (first | exact trivial | refine ⟨rfl, ?_⟩)), e _, e _, H.sx⟩
    obtain ⟨h2, hev⟩ := he
    have hu : ∀ big, u16Of big b = if b.take 2 = (if big = true then [254, 255] else [255, 254]) then unitsD (unitsOf big (b.drop 2)) else none := fun big => by
      unfold u16Of
      by_cases h : b.take 2 = (if big = true then [254, 255] else [255, 254])
      · rw [if_pos ⟨h2, hev, h⟩, if_pos h]
      · rw [if_neg (fun q => h q.2.2), if_neg h]
    have hr2 : Byt V ⟨subA s.a 2 s.cap 1, s.len - 2, s.cap - 2⟩ (b.drop 2) := by
      have := hs.sub (n := 1) (fun _ => rfl) (a := 2) (b := b.length) (by omega) (by omega)
      rw [List.take_length] at this
      rw [hlen]
      exact this
    have hd2 : (b.drop 2).length = b.length - 2 := List.length_drop
    (first | (refine H.wh ?_; clear H; intros; rename_i w H; constructor) | refine wk ?_)
    ((first | refine Rel.nwD H ?_ | refine Rel.nw H ?_); clear H; intro w b1 H)
    replace H := H.blkEq (c' := ([254, 255] : List UInt8).flatMap byC) rfl
    (first | (refine H.wh ?_; clear H; intros; rename_i w H; constructor) | refine wk ?_)
    ((first | refine Rel.nwD H ?_ | refine Rel.nw H ?_); clear H; intro w b2 H)
    replace H := H.blkEq (c' := ([255, 254] : List UInt8).flatMap byC) rfl
    (first | (refine H.wg ?_; clear H; intros; rename_i w H; constructor) | refine wk ?_)
    refine gap4 H ?_
    clear H
    intro w b3 H
    obtain ⟨V1, hV1, H, hb3⟩ := H.freezeBlk
    obtain ⟨V2, hV2, H, hb2⟩ := H.freezeBlk
    obtain ⟨V3, hV3, H, hb1⟩ := H.freezeBlk
    have hVV := (hV1.trans hV2).trans hV3
    have f0 := (hV2.trans hV3).cell (hb3.cel (i := 0) rfl)
    have f1 := (hV2.trans hV3).cell (hb3.cel (i := 1) rfl)
    have f2 := (hV2.trans hV3).cell (hb3.cel (i := 2) rfl)
    have f3 := (hV2.trans hV3).cell (hb3.cel (i := 3) rfl)
    have m1 : Byt V3 ⟨some ⟨b1, 0, none⟩, 2, 2⟩ [254, 255] := ⟨rfl, Nat.le_refl _, hb1.cells⟩
    have m2 : Byt V3 ⟨some ⟨b2, 0, none⟩, 2, 2⟩ [255, 254] := ⟨rfl, Nat.le_refl _, hb2.cells.sub' hV3⟩
    (first | (refine H.wg ?_; clear H; intros; rename_i w H; constructor) | refine wk ?_)
    refine loop_inv (S := Nat) tabOk [0, 8, 9, 10, 12, 14, 23, 26, 27, 53, 62, 63, 64, 70, 73, 74, 75, 76] (fun k => [(28, iv k)]) (fun k w' => k ≤ 4 ∧ (2 < k → u16Of true b = none) ∧ (3 < k → u16Of false b = none) ∧ Rel W V [] V3 w') (fun k _ => 4 - k) 0 ?_
    (conv => whnf)
    refine ⟨(by repeat (first | exact trivial | refine ⟨rfl, ?_⟩)), ⟨by omega, fun h => by omega, fun h => by omega, H⟩, ?_⟩
    clear H
    rintro k w ⟨hk, n1, n2, H⟩
    have hcase : k = 0 ∨ k = 1 ∨ k = 2 ∨ k = 3 ∨ k = 4 := by omega
    rcases hcase with rfl | rfl | rfl | rfl | rfl
    · (first | (refine H.wg ?_; clear H; intros; rename_i w H; constructor) | refine wk ?_)
      exact ⟨(by repeat (first | exact trivial | refine ⟨rfl, ?_⟩)), 1, (by repeat (first | exact trivial | refine ⟨rfl, ?_⟩)), ⟨by omega, fun h => by omega, fun h => by omega, H.sx⟩, by omega⟩
    · (first | (refine H.wg ?_; clear H; intros; rename_i w H; constructor) | refine wk ?_)
      exact ⟨(by repeat (first | exact trivial | refine ⟨rfl, ?_⟩)), 2, (by repeat (first | exact trivial | refine ⟨rfl, ?_⟩)), ⟨by omega, fun h => by omega, fun h => by omega, H.sx⟩, by omega⟩
    · (first | (refine H.wg ?_; clear H; intros; rename_i w H; constructor) | refine wk ?_)
      refine (hasPrefix_spec H.data (hs.up hVV) m1).use ?_
      rintro v w ⟨rfl, K⟩
      (have hKb := K.base; replace H := H.call0 K)
      rw [show ([254, 255] : List UInt8).length = 2 from rfl]
      by_cases hp : b.take 2 = [254, 255]
      rotate_left
      · have e : u16Of true b = none := by rw [hu, if_neg (by simpa using hp)]
        rw [decide_eq_false hp]
        (first | (refine H.wg ?_; clear H; intros; rename_i w H; constructor) | refine wk ?_)
        exact ⟨(by repeat (first | exact trivial | refine ⟨rfl, ?_⟩)), 3, (by repeat (first | exact trivial | refine ⟨rfl, ?_⟩)), ⟨by omega, fun _ => e, fun h => by omega, H.sx⟩, by omega⟩
      have e : u16Of true b = unitsD (unitsOf true (b.drop 2)) := by rw [hu, if_pos (by simpa using hp)]
      rw [decide_eq_true hp]
      (first | (refine H.wg ?_; clear H; intros; rename_i w H; constructor) | refine wk ?_)
      refine (utf16_spec H.data (hr2.up hVV) (by omega) (by omega) true).use ?_
      rintro v w ⟨V4, r, hV4, K, hres⟩
      (have hKb := K.base; replace H := H.call0 K)
      cases hd : unitsD (unitsOf true (b.drop 2)) with
      | none =>
        rw [hd] at hres e
        obtain rfl := hres
        (first | (refine H.wg ?_; clear H; intros; rename_i w H; constructor) | refine wk ?_)
        exact ⟨(by repeat (first | exact trivial | refine ⟨rfl, ?_⟩)), 3, (by repeat (first | exact trivial | refine ⟨rfl, ?_⟩)), ⟨by omega, fun _ => e, fun h => by omega, H.less hVV hV4⟩, by omega⟩
      | some cs =>
        rw [hd] at hres e
        obtain ⟨rfl, hr⟩ := hres
        have ef : fileC b = (cs, 2) := by unfold fileC; rw [e]
        rw [ef]
        (first | (refine H.wg ?_; clear H; intros; rename_i w H; constructor) | refine wk ?_)
        exact ⟨V4, r, hVV.trans hV4, H.sx, rfl, hr⟩
    · have n1 := n1 (by omega)
      (first | (refine H.wg ?_; clear H; intros; rename_i w H; constructor) | refine wk ?_)
      refine (hasPrefix_spec H.data (hs.up hVV) m2).use ?_
      rintro v w ⟨rfl, K⟩
      (have hKb := K.base; replace H := H.call0 K)
      rw [show ([255, 254] : List UInt8).length = 2 from rfl]
      by_cases hp : b.take 2 = [255, 254]
      rotate_left
      · have e : u16Of false b = none := by rw [hu, if_neg (by simpa using hp)]
        rw [decide_eq_false hp]
        (first | (refine H.wg ?_; clear H; intros; rename_i w H; constructor) | refine wk ?_)
        exact ⟨(by repeat (first | exact trivial | refine ⟨rfl, ?_⟩)), 4, (by repeat (first | exact trivial | refine ⟨rfl, ?_⟩)), ⟨by omega, fun _ => n1, fun _ => e, H.sx⟩, by omega⟩
      have e : u16Of false b = unitsD (unitsOf false (b.drop 2)) := by rw [hu, if_pos (by simpa using hp)]
      rw [decide_eq_true hp]
      (first | (refine H.wg ?_; clear H; intros; rename_i w H; constructor) | refine wk ?_)
      refine (utf16_spec H.data (hr2.up hVV) (by omega) (by omega) false).use ?_
      rintro v w ⟨V4, r, hV4, K, hres⟩
      (have hKb := K.base; replace H := H.call0 K)
      cases hd : unitsD (unitsOf false (b.drop 2)) with
      | none =>
        rw [hd] at hres e
        obtain rfl := hres
        (first | (refine H.wg ?_; clear H; intros; rename_i w H; constructor) | refine wk ?_)
        exact ⟨(by repeat (first | exact trivial | refine ⟨rfl, ?_⟩)), 4, (by repeat (first | exact trivial | refine ⟨rfl, ?_⟩)), ⟨by omega, fun _ => n1, fun _ => e, H.less hVV hV4⟩, by omega⟩
      | some cs =>
        rw [hd] at hres e
        obtain ⟨rfl, hr⟩ := hres
        have ef : fileC b = (cs, 3) := by unfold fileC; rw [n1, e]
        rw [ef]
        (first | (refine H.wg ?_; clear H; intros; rename_i w H; constructor) | refine wk ?_)
        exact ⟨V4, r, hVV.trans hV4, H.sx, rfl, hr⟩
    · (first | (refine H.wg ?_; clear H; intros; rename_i w H; constructor) | refine wk ?_)
      exact ⟨(), (by repeat (first | exact trivial | refine ⟨rfl, ?_⟩)), n1 (by omega), n2 (by omega), H.less (Sub.refl V) hVV⟩
  clear H
  rintro _ w ⟨u1, u2, H⟩
  have ef : fileC b = fileC8 b := by unfold fileC; rw [u1, u2]
  rw [ef]
  unfold fileC8
  refine SemC.seqGo tabOk ?_
  (first | (refine H.wg ?_; clear H; intros; rename_i w H; constructor) | refine wk ?_)
  replace H := H.rowNil 21 1
  refine SemC.seqGo tabOk ?_
  (first | (refine H.wg ?_; clear H; intros; rename_i w H; constructor) | refine wk ?_)
  refine (valid_spec H.data hT hs (by omega)).use ?_
  rintro v w ⟨rfl, K⟩
  (have hKb := K.base; replace H := Rel.call H K)
  simp only [List.nil_append] at H
  cases hch : chars b with
  | none =>
    (first | (refine H.wg ?_; clear H; intros; rename_i w H; constructor) | refine wk ?_)
    refine SemC.go tabOk ?_
    (first | (refine H.wg ?_; clear H; intros; rename_i w H; constructor) | refine wk ?_)
    refine loop_inv (S := Nat × Sl) tabOk [0, 2, 3, 4, 5, 6, 7, 9, 10, 12, 23, 26, 27, 28, 29, 39, 48, 53, 62, 63, 64, 70, 73, 74] (fun k => [(8, k.2.v), (75, iv k.1)]) (fun k w' => k.1 ≤ b.length ∧ Rel W V [.row k.2 21 1 (((b.take k.1).map UInt8.toNat).flatMap ruC)] V w') (fun k _ => b.length - k.1) (0, ⟨none, 0, 0⟩) ?_
    (conv => whnf)
    refine ⟨(by repeat (first | exact trivial | refine ⟨rfl, ?_⟩)), ⟨by omega, H⟩, ?_⟩
    clear H
    rintro ⟨k, r⟩ w ⟨hk, H⟩
    dsimp only at hk H ⊢
    by_cases hlt : k < b.length
    · obtain ⟨p0, c0⟩ := hs.at1 (g := bv) (fun _ => rfl) hlt
      have z0 := b[k].toNat_lt
      have hlk : ((b.take k).map UInt8.toNat).length = k := by rw [List.length_map, List.length_take]; omega
      (first | (refine H.wg ?_; clear H; intros; rename_i w H; constructor) | refine wk ?_)
      replace H := H.blkEq (c' := ruC b[k].toNat) (wr32 rfl (by omega))
      refine Rel.app1_0 (f := ruC) (l := (b.take k).map UInt8.toNat) (x := b[k].toNat) tabOk rfl rfl rfl rfl rfl (by decide) (fun _ => rfl) (List.all_eq_true.1 rfl) H (by show (((b.take k).map UInt8.toNat).length + 1) * 4 ≤ _; omega) (by omega) ?_
      clear H
      intro rn w H
      (first | (refine H.wg ?_; clear H; intros; rename_i w H; constructor) | refine wk ?_)
      refine ⟨(by repeat (first | exact trivial | refine ⟨rfl, ?_⟩)), (k + 1, rn), (by repeat (first | exact trivial | refine ⟨rfl, ?_⟩)), ⟨by dsimp only; omega, ?_⟩, by dsimp only; omega⟩
      dsimp only
      rw [List.take_succ_eq_append_getElem hlt, List.map_append]
      exact H
    · rw [List.take_of_length_le (by omega)] at H
      obtain ⟨V2, hV2, H, hr⟩ := Rel.freezeF H (fun _ => rfl) (by decide)
      (first | (refine H.wg ?_; clear H; intros; rename_i w H; constructor) | refine wk ?_)
      exact ⟨V2, r, hV2, H.sx, rfl, hr⟩
  | some cs =>
    obtain ⟨mk1, mk2⟩ := mark_chars hch
    replace H := H.rowNil 5 1
    (first | (refine H.wg ?_; clear H; intros; rename_i w H; constructor) | refine wk ?_)
    refine (appendRune_spec (c := 65279) (xs := []) H (by decide) (by simp)).use ?_
    clear H
    rintro v w ⟨rm, rfl, H⟩
    rw [List.nil_append, show u8c 65279 = markB by decide] at H
    obtain ⟨V2, hV2, H, hm⟩ := Rel.freezeF H (fun _ => rfl) (by decide)
    (first | (refine H.wg ?_; clear H; intros; rename_i w H; constructor) | refine wk ?_)
    refine (cutPrefix2 H.data (hs.up hV2) hm).use ?_
    rintro v w ⟨⟨r2, rfl, hr2⟩, K⟩
    (have hKb := K.base; replace H := Rel.call H K)
    simp only [List.nil_append] at H
    rw [show markB.length = 3 from rfl] at hr2 ⊢
    obtain ⟨L, hL⟩ : ∃ L, L = if b.take 3 = markB then b.drop 3 else b := ⟨_, rfl⟩
    rw [← hL] at hr2
    obtain ⟨ds, hds⟩ : ∃ ds, ds = if b.take 3 = markB then cs.tail else cs := ⟨_, rfl⟩
    have hLd : chars L = some ds := by
      rw [hL, hds]
      split
      · rename_i h; exact mk2 h
      · exact hch
    have hLl : L.length ≤ b.length := by rw [hL]; split <;> simp
    have hr2l := hr2.len
    have hcx : Cells w r2.a (L.map bv) := byC_map L ▸ (hr2.up H.data).cells
    have hsz : (ByteArray.mk L.toArray).size = L.length := rfl
    (first | (refine H.wg ?_; clear H; intros; rename_i w H; constructor) | refine wk ?_)
    refine Rel.range tabOk rfl rfl H ?_
    clear H
    intro w bi H
    (first | (refine H.wg ?_; clear H; intros; rename_i w H; constructor) | refine wk ?_)
    refine loop_inv (S := Nat × Sl × List Nat) tabOk [0, 2, 3, 4, 5, 6, 7, 9, 10, 14, 23, 26, 27, 28, 29, 39, 48, 53, 62, 70, 73, 74, 75, 76] (fun q => [(8, q.2.1.v)]) (fun q w' => q.1 ≤ L.length ∧ (chars (L.drop q.1)).isSome = true ∧ chars L = (chars (L.drop q.1)).map (q.2.2 ++ ·) ∧ q.2.2.length ≤ q.1 ∧ Rel W V [.obj bi (.stringIter ⟨L.toArray⟩ q.1), .row q.2.1 21 1 (q.2.2.flatMap ruC)] V2 w') (fun q _ => L.length - q.1) (0, ⟨none, 0, 0⟩, []) ?_
    (conv => whnf)
    refine ⟨(by repeat (first | exact trivial | refine ⟨rfl, ?_⟩)), ⟨by omega, by rw [List.drop_zero, hLd]; rfl, by simp, Nat.le_refl _, H⟩, ?_⟩
    clear H
    rintro ⟨p, r8, out⟩ w ⟨hp, his, heq, hol, H⟩
    dsimp only at hp his heq hol H ⊢
    (conv => whnf)
    refine Rel.next H (fun hlt w H => ?_) (fun hlt => ?_)
    · have hlt2 : p < L.length := hlt
      obtain ⟨c, n, hc, hic, hn1, hn2, hst⟩ := chars_at his hlt2
      rw [decode_str hc] at H ⊢
      dsimp only at H ⊢
      (first | (refine H.wg ?_; clear H; intros; rename_i w H; constructor) | refine wk ?_)
      refine Rel.app1_1 (f := ruC) (l := out) (x := c) tabOk rfl rfl rfl rfl rfl (by decide) (fun _ => rfl) (List.all_eq_true.1 rfl) H (by show (out.length + 1) * 4 ≤ _; omega) (by omega) ?_
      clear H
      intro rn w H
      (first | (refine H.wg ?_; clear H; intros; rename_i w H; constructor) | refine wk ?_)
      refine ⟨(by repeat (first | exact trivial | refine ⟨rfl, ?_⟩)), (p + n, rn, out ++ [c]), (by repeat (first | exact trivial | refine ⟨rfl, ?_⟩)), ⟨by dsimp only; omega, ?_, ?_, by dsimp only; rw [List.length_append, List.length_singleton]; omega, H.sx⟩, by dsimp only; omega⟩
      · dsimp only
        rw [hst] at his
        cases hq : chars (L.drop (p + n)) with
        | none => rw [hq] at his; cases his
        | some _ => rfl
      · dsimp only
        rw [heq, hst]
        exact map_two out [c] _
    · have hlt2 : ¬ p < L.length := hlt
      rw [List.drop_of_length_le (by omega), chars_nil, hLd] at heq
      have hod : out = ds := by simpa using heq.symm
      rw [hod] at H
      have H0 : Rel W V [.row r8 21 1 (ds.flatMap ruC)] V2 w := H.sx
      clear H
      obtain ⟨V3, hV3, H, hr⟩ := Rel.freezeF H0 (fun _ => rfl) (by decide)
      clear H0
      by_cases hpre : b.take 3 = markB
      · rw [decide_eq_true hpre, if_pos (mk1.1 hpre)]
        rw [if_pos hpre] at hds
        rw [hds] at hr
        (first | (refine H.wg ?_; clear H; intros; rename_i w H; constructor) | refine wk ?_)
        exact ⟨V3, r8, hV2.trans hV3, H.sx, rfl, hr⟩
      · rw [decide_eq_false hpre, if_neg (fun h => hpre (mk1.2 h))]
        rw [if_neg hpre] at hds
        rw [hds] at hr
        (first | (refine H.wg ?_; clear H; intros; rename_i w H; constructor) | refine wk ?_)
        exact ⟨V3, r8, hV2.trans hV3, H.sx, rfl, hr⟩
end
end Go.Proofs.YtgnaojphgdaalaaDoor
