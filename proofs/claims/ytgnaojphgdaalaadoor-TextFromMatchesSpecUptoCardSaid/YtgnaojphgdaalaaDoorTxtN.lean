/-
  Text files, the reference: characters.
-/
import Derived.Test.YtgnaojphgdaalaaDoorTxtM
namespace Go.Proofs.YtgnaojphgdaalaaDoor
open Go Go.RowKit

abbrev naC (n : Nat) : List Value := [iv (n : Int)]
/-- bytes that a function of the reference makes -/
structure BytG (W V : World) (l : List UInt8) (v : Value) (w' : World) : Prop where
  ex : ∃ (V' : World) (r : Sl), Sub V V' ∧ Rel W V [] V' w' ∧ v = r.v ∧ Byt V' r l
structure ChG (W V : World) (o : Option (Nat × Nat)) (v : Value) (w' : World) : Prop where
  ex : ∃ (V' : World), Sub V V' ∧ Rel W V [] V' w' ∧ v = (match o with
    | none => .tuple #[iv 0, iv 0]
    | some (c, n) => .tuple #[iv (c : Int), iv (n : Int)])
/-- numbers that a function of the reference makes, or none -/
structure NumsG (W V : World) (o : Option (List Nat)) (v : Value) (w' : World) : Prop where
  ex : ∃ (V' : World) (r : Sl), Sub V V' ∧ Rel W V [] V' w' ∧ (match o with
    | none => v = .tuple #[.slice none 0 0, .bool false]
    | some l => v = .tuple #[r.v, .bool true] ∧ SlF naC V' r l)
theorem at8_drop {l : List UInt8} {p i : Nat} (h : p + i < l.length) : at8 (l.drop p) i = l[p + i].toNat := by simp [at8, List.getElem?_drop, h]
theorem accS (l : List UInt8) (c k : Nat) : accC l c (k + 1) = 64 * accC l c k + (at8 l (k + 1) - 128) := rfl
theorem acc_int {A x : Nat} (h : 128 ≤ x) : 64 * (A : Int) + (x : Int) - 128 = ((64 * A + (x - 128) : Nat) : Int) := by omega
section
variable {V W : World}
set_option maxRecDepth 100000 in
theorem utf8_ref (hV : Sub V W) {c : Nat} (hc : isCh c) : Ret Tryd.prog 33 [iv (c : Int)].toArray W (BytG W V (u8c c)) := by
  have H := Rel.start hV
  have hlt := isCh_lt hc
  obtain ⟨z, hz⟩ : ∃ z : Int, z = (c : Int) := ⟨_, rfl⟩
  rw [← hz]
  unfold u8c
  refine cal_of_vc tabOk Tryd.func33 rfl (by kernel_rfl) 54 rfl (by simp) [0, 2, 4, 9, 20] ?_
  by_cases h1 : c < 128
  · rw [if_pos h1]
    (first | (refine H.wh ?_; clear H; intros; rename_i w H; constructor) | refine wk ?_)
    ((first | refine Rel.nwD H ?_ | refine Rel.nw H ?_); clear H; intro w b1 H)
    rw [hz, wr8 (by omega)] at H
    replace H := H.blkEq (c' := [UInt8.ofNat c].flatMap byC) (by simp only [List.flatMap_cons, List.flatMap_nil, byC, bv, List.cons_append, List.nil_append, toNat_ofNat_lt (show c < 256 by omega)])
    obtain ⟨V2, hV2, H, hb⟩ := H.freezeBlk
    (first | (refine H.wg ?_; clear H; intros; rename_i w H; constructor) | refine wk ?_)
    exact ⟨V2, ⟨some ⟨b1, 0, none⟩, 1, 1⟩, hV2, H.sx, rfl, rfl, Nat.le_refl _, hb.cells⟩
  rw [if_neg h1]
  by_cases h2 : c < 2048
  · rw [if_pos h2]
    (first | (refine H.wh ?_; clear H; intros; rename_i w H; constructor) | refine wk ?_)
    ((first | refine Rel.nwD H ?_ | refine Rel.nw H ?_); clear H; intro w b1 H)
    rw [show 192 + z / 64 = ((192 + c / 64 : Nat) : Int) by omega, show 128 + z % 64 = ((128 + c % 64 : Nat) : Int) by omega, wr8 (by omega), wr8 (by omega)] at H
    replace H := H.blkEq (c' := [UInt8.ofNat (192 + c / 64), UInt8.ofNat (128 + c % 64)].flatMap byC) (by simp only [List.flatMap_cons, List.flatMap_nil, byC, bv, List.cons_append, List.nil_append, toNat_ofNat_lt (show 192 + c / 64 < 256 by omega), toNat_ofNat_lt (show 128 + c % 64 < 256 by omega)])
    obtain ⟨V2, hV2, H, hb⟩ := H.freezeBlk
    (first | (refine H.wg ?_; clear H; intros; rename_i w H; constructor) | refine wk ?_)
    exact ⟨V2, ⟨some ⟨b1, 0, none⟩, 2, 2⟩, hV2, H.sx, rfl, rfl, Nat.le_refl _, hb.cells⟩
  rw [if_neg h2]
  by_cases h3 : c < 65536
  · rw [if_pos h3]
    (first | (refine H.wh ?_; clear H; intros; rename_i w H; constructor) | refine wk ?_)
    ((first | refine Rel.nwD H ?_ | refine Rel.nw H ?_); clear H; intro w b1 H)
    rw [show 224 + z / 4096 = ((224 + c / 4096 : Nat) : Int) by omega, show 128 + z / 64 % 64 = ((128 + c / 64 % 64 : Nat) : Int) by omega, show 128 + z % 64 = ((128 + c % 64 : Nat) : Int) by omega, wr8 (by omega), wr8 (by omega), wr8 (by omega)] at H
    replace H := H.blkEq (c' := [UInt8.ofNat (224 + c / 4096), UInt8.ofNat (128 + c / 64 % 64), UInt8.ofNat (128 + c % 64)].flatMap byC) (by simp only [List.flatMap_cons, List.flatMap_nil, byC, bv, List.cons_append, List.nil_append, toNat_ofNat_lt (show 224 + c / 4096 < 256 by omega), toNat_ofNat_lt (show 128 + c / 64 % 64 < 256 by omega), toNat_ofNat_lt (show 128 + c % 64 < 256 by omega)])
    obtain ⟨V2, hV2, H, hb⟩ := H.freezeBlk
    (first | (refine H.wg ?_; clear H; intros; rename_i w H; constructor) | refine wk ?_)
    exact ⟨V2, ⟨some ⟨b1, 0, none⟩, 3, 3⟩, hV2, H.sx, rfl, rfl, Nat.le_refl _, hb.cells⟩
  rw [if_neg h3]
  (first | (refine H.wh ?_; clear H; intros; rename_i w H; constructor) | refine wk ?_)
  ((first | refine Rel.nwD H ?_ | refine Rel.nw H ?_); clear H; intro w b1 H)
  rw [show 240 + z / 262144 = ((240 + c / 262144 : Nat) : Int) by omega, show 128 + z / 4096 % 64 = ((128 + c / 4096 % 64 : Nat) : Int) by omega, show 128 + z / 64 % 64 = ((128 + c / 64 % 64 : Nat) : Int) by omega, show 128 + z % 64 = ((128 + c % 64 : Nat) : Int) by omega, wr8 (by omega), wr8 (by omega), wr8 (by omega), wr8 (by omega)] at H
  replace H := H.blkEq (c' := [UInt8.ofNat (240 + c / 262144), UInt8.ofNat (128 + c / 4096 % 64), UInt8.ofNat (128 + c / 64 % 64), UInt8.ofNat (128 + c % 64)].flatMap byC) (by simp only [List.flatMap_cons, List.flatMap_nil, byC, bv, List.cons_append, List.nil_append, toNat_ofNat_lt (show 240 + c / 262144 < 256 by omega), toNat_ofNat_lt (show 128 + c / 4096 % 64 < 256 by omega), toNat_ofNat_lt (show 128 + c / 64 % 64 < 256 by omega), toNat_ofNat_lt (show 128 + c % 64 < 256 by omega)])
  obtain ⟨V2, hV2, H, hb⟩ := H.freezeBlk
  (first | (refine H.wg ?_; clear H; intros; rename_i w H; constructor) | refine wk ?_)
  exact ⟨V2, ⟨some ⟨b1, 0, none⟩, 4, 4⟩, hV2, H.sx, rfl, rfl, Nat.le_refl _, hb.cells⟩
set_option maxRecDepth 100000 in
theorem charAt_ref (hV : Sub V W) {s : Sl} {b : List UInt8} (hs : Byt V s b) (hl : b.length ≤ 1000000000) {p : Nat} (hp : p < b.length) : Ret Tryd.prog 72 [s.v, iv (p : Int)].toArray W (ChG W V (chAt (b.drop p))) := by
  have H := Rel.start hV
  have hlen := hs.len
  have ha : at8 (b.drop p) 0 = b[p].toNat := at8_drop (i := 0) hp
  have hwc := widC_cases (b[p].toNat)
  have hb0 := b[p].toNat_lt
  have hdl : (b.drop p).length = b.length - p := List.length_drop
  obtain ⟨p0, c0⟩ := hs.at1 (g := bv) (fun _ => rfl) hp
  unfold chAt
  rw [ha]
  obtain ⟨a, hae⟩ : ∃ a, a = b[p].toNat := ⟨_, rfl⟩
  rw [← hae] at ha hwc hb0 ⊢
  change _ = some (Value.int .u8 (b[p].toNat : Nat)) at c0
  rw [← hae] at c0
  refine cal_of_sem tabOk Tryd.func72 rfl (by kernel_rfl) 72 rfl (by simp) [0, 1, 4, 5, 6, 7, 8, 9, 10, 18, 22, 26, 30, 36, 39, 51, 69] ?_
  refine SemC.seqGo tabOk ?_
  (first | (refine H.wg ?_; clear H; intros; rename_i w H; constructor) | refine wk ?_)
  refine SemC.seqGo tabOk ?_
  (first | (refine H.wg ?_; clear H; intros; rename_i w H; constructor) | refine wk ?_)
  refine SemC.seqGo tabOk ?_
  (first | (refine H.wg ?_; clear H; intros; rename_i w H; constructor) | refine wk ?_)
  refine SemC.seqGo tabOk ?_
  (first | (refine H.wg ?_; clear H; intros; rename_i w H; constructor) | refine wk ?_)
  by_cases hbad : 128 ≤ a ∧ a < 192
  · have hw : widC a = 0 := by omega
    rw [hw, if_neg (fun h => by have := h.pos; omega)]
    refine SemC.go tabOk ?_
    (first | (refine H.wg ?_; clear H; intros; rename_i w H; constructor) | refine wk ?_)
    exact ⟨V, Sub.refl _, H.sx, rfl⟩
  obtain ⟨n, hn⟩ : ∃ n, n = widC a := ⟨_, rfl⟩
  obtain ⟨c1, hc1⟩ : ∃ c, c = headC a := ⟨_, rfl⟩
  have hraw : rawC (b.drop p) = accC (b.drop p) c1 (n - 1) := by unfold rawC; rw [ha, ← hn, ← hc1]
  rw [← hn, ← hc1] at hwc
  rw [← hn, hraw]
  refine SemC.seqCut tabOk (fun _ : Unit => [(0, s.v), (1, iv (p : Int)), (6, iv (a : Int)), (7, iv (n : Int)), (8, iv (c1 : Int))]) (fun _ w' => w' = W) ?_ ?_
  · clear hraw
    rcases hwc with ⟨h1, h2, h3⟩ | ⟨h1, h2, h3, h4⟩ | ⟨h1, h2, h3, h4⟩ | ⟨h1, h2, h3, h4⟩ | ⟨h1, h2, h3⟩
    · rw [h2, h3]
      (first | (refine H.wg ?_; clear H; intros; rename_i w H; constructor) | refine wk ?_)
      exact ⟨(), (by repeat (first | exact trivial | refine ⟨rfl, ?_⟩)), rfl⟩
    · omega
    · rw [h3, h4, show ((a - 192 : Nat) : Int) = (a : Int) - 192 by omega]
      (first | (refine H.wg ?_; clear H; intros; rename_i w H; constructor) | refine wk ?_)
      exact ⟨(), (by repeat (first | exact trivial | refine ⟨rfl, ?_⟩)), rfl⟩
    · rw [h3, h4, show ((a - 224 : Nat) : Int) = (a : Int) - 224 by omega]
      (first | (refine H.wg ?_; clear H; intros; rename_i w H; constructor) | refine wk ?_)
      exact ⟨(), (by repeat (first | exact trivial | refine ⟨rfl, ?_⟩)), rfl⟩
    · rw [h2, h3, show ((a - 240 : Nat) : Int) = (a : Int) - 240 by omega]
      (first | (refine H.wg ?_; clear H; intros; rename_i w H; constructor) | refine wk ?_)
      exact ⟨(), (by repeat (first | exact trivial | refine ⟨rfl, ?_⟩)), rfl⟩
  rintro _ w rfl
  have hn4 : 1 ≤ n ∧ n ≤ 4 := by omega
  have hc256 : c1 < 256 := by omega
  obtain ⟨l, hle⟩ : ∃ l, l = b.drop p := ⟨_, rfl⟩
  rw [← hle] at hdl ⊢
  have hacc : ∀ k, k < 4 → accC l c1 k < 1000000000 := by
    have b1 : at8 l 1 < 256 := UInt8.toNat_lt _
    have b2 : at8 l 2 < 256 := UInt8.toNat_lt _
    have b3 : at8 l 3 < 256 := UInt8.toNat_lt _
    intro k hk
    obtain rfl | rfl | rfl | rfl : k = 0 ∨ k = 1 ∨ k = 2 ∨ k = 3 := by omega
    · rw [acc0]; omega
    · rw [acc1]; omega
    · rw [acc2]; omega
    · rw [acc3]; omega
  refine SemC.go tabOk ?_
  by_cases hnl : n ≤ l.length
  rotate_left
  · rw [if_neg (fun h => hnl h.le)]
    (first | (refine H.wg ?_; clear H; intros; rename_i w H; constructor) | refine wk ?_)
    exact ⟨V, Sub.refl _, H.sx, rfl⟩
  (first | (refine H.wg ?_; clear H; intros; rename_i w H; constructor) | refine wk ?_)
  refine loop_inv (S := Nat) tabOk [0, 1, 6, 7, 18, 22, 26, 30, 36, 69] (fun j => [(9, iv ((j + 1 : Nat) : Int)), (8, iv (accC l c1 j : Nat))]) (fun j w' => j + 1 ≤ n ∧ (∀ i, i < j + 1 → 0 < i → tail8 l i) ∧ Rel w V [] V w') (fun j _ => n - j) 0 ?_
  (conv => whnf)
  refine ⟨(by repeat (first | exact trivial | refine ⟨rfl, ?_⟩)), ⟨hn4.1, fun i h1 h2 => by omega, H⟩, ?_⟩
  clear H
  rintro j w ⟨hj, htl, H⟩
  dsimp only at hj htl H ⊢
  have hj4 := hacc j (by omega)
  by_cases hlt : j + 1 < n
  · obtain ⟨q0, d0⟩ := hs.at1 (g := bv) (fun _ => rfl) (show p + (j + 1) < b.length by omega)
    have hat : at8 l (j + 1) = b[p + (j + 1)].toNat := (congrArg (at8 · (j + 1)) hle).trans (at8_drop (by omega))
    have hx := b[p + (j + 1)].toNat_lt
    obtain ⟨x, hxe⟩ : ∃ x, x = b[p + (j + 1)].toNat := ⟨_, rfl⟩
    rw [← hxe] at hat hx
    change _ = some (Value.int .u8 (b[p + (j + 1)].toNat : Nat)) at d0
    rw [← hxe] at d0
    (first | (refine H.wg ?_; clear H; intros; rename_i w H; constructor) | refine wk ?_)
    refine (in_ref (x : Int) 128 191 w).use ?_
    rintro q w' ⟨rfl, rfl⟩
    by_cases ht : tail8 l (j + 1)
    · unfold tail8 at ht
      rw [decide_eq_true (show (128 : Int) ≤ (x : Int) ∧ (x : Int) ≤ 191 by omega)]
      (first | (refine H.wg ?_; clear H; intros; rename_i w H; constructor) | refine wk ?_)
      have e1 : ((j + 1 : Nat) : Int) + 1 = ((j + 1 + 1 : Nat) : Int) := by omega
      have e2 : 64 * ((accC l c1 j : Nat) : Int) + (x : Int) - 128 = ((accC l c1 (j + 1) : Nat) : Int) := by rw [accS, hat]; exact acc_int (by rw [← hat]; exact ht.1)
      refine ⟨(by repeat (first | exact trivial | refine ⟨rfl, ?_⟩)), j + 1, ⟨congrArg (fun z => some (iv z)) e1, congrArg (fun z => some (iv z)) e2, trivial⟩, ⟨by omega, fun i h1 h2 => ?_, H⟩, by omega⟩
      by_cases hi : i = j + 1
      · rw [hi]; exact ht
      · exact htl i (by omega) h2
    · rw [if_neg (fun h => ht (h.tl _ hlt (by omega)))]
      unfold tail8 at ht
      rw [decide_eq_false (show ¬ ((128 : Int) ≤ (x : Int) ∧ (x : Int) ≤ 191) by omega)]
      (first | (refine H.wg ?_; clear H; intros; rename_i w H; constructor) | refine wk ?_)
      exact ⟨V, Sub.refl _, H.sx, rfl⟩
  · obtain rfl : n = j + 1 := by omega
    rw [Nat.add_sub_cancel]
    obtain ⟨c, hce⟩ : ∃ c, c = accC l c1 j := ⟨_, rfl⟩
    rw [← hce] at hj4 ⊢
    obtain ⟨z, hz⟩ : ∃ z : Int, z = (c : Int) := ⟨_, rfl⟩
    rw [← hz]
    by_cases hch : isCh c
    · have hu4 := u8n_le c
      unfold isCh at hch
      (first | (refine H.wg ?_; clear H; intros; rename_i w H; constructor) | refine wk ?_)
      refine (in_ref z 55296 57343 w).use ?_
      rintro q w' ⟨rfl, rfl⟩
      rw [decide_eq_false (show ¬ ((55296 : Int) ≤ z ∧ z ≤ 57343) by omega)]
      (first | (refine H.wg ?_; clear H; intros; rename_i w H; constructor) | refine wk ?_)
      rw [hz]
      refine (utf8_ref H.data hch).use ?_
      rintro v w ⟨V3, r, hV3, K, rfl, hr⟩
      (have hKb := K.base; replace H := H.call0 K)
      have hrl := hr.len
      rw [u8c_len] at hrl
      by_cases hu : u8n c = j + 1
      · rw [if_pos ⟨by omega, hnl, htl, hch, hu⟩]
        (first | (refine H.wg ?_; clear H; intros; rename_i w H; constructor) | refine wk ?_)
        exact ⟨V3, hV3, H.sx, rfl⟩
      · rw [if_neg (fun h => hu h.sh)]
        (first | (refine H.wg ?_; clear H; intros; rename_i w H; constructor) | refine wk ?_)
        exact ⟨V3, hV3, H.sx, rfl⟩
    · rw [if_neg (fun h => hch h.ch)]
      unfold isCh at hch
      by_cases hg : c < 1114112
      · (first | (refine H.wg ?_; clear H; intros; rename_i w H; constructor) | refine wk ?_)
        refine (in_ref z 55296 57343 w).use ?_
        rintro q w' ⟨rfl, rfl⟩
        rw [decide_eq_true (show (55296 : Int) ≤ z ∧ z ≤ 57343 by omega)]
        (first | (refine H.wg ?_; clear H; intros; rename_i w H; constructor) | refine wk ?_)
        exact ⟨V, Sub.refl _, H.sx, rfl⟩
      · (first | (refine H.wg ?_; clear H; intros; rename_i w H; constructor) | refine wk ?_)
        exact ⟨V, Sub.refl _, H.sx, rfl⟩
end
end Go.Proofs.YtgnaojphgdaalaaDoor
namespace Go.Proofs.YtgnaojphgdaalaaDoor
open Go Go.RowKit

/-- numbers that a function of the reference makes, and a number -/
structure NumK (W V : World) (p : List Nat × Nat) (v : Value) (w' : World) : Prop where
  ex : ∃ (V' : World) (r : Sl), Sub V V' ∧ Rel W V [] V' w' ∧ v = .tuple #[r.v, iv (p.2 : Int)] ∧ SlF naC V' r p.1
theorem SlF.cell8 {V : World} {s : Sl} {l : List UInt8} (h : Byt V s l) {i : Nat} (hi : i < l.length) : Plain s.a ∧ V.cell? ⟨ablk s.a, aoff s.a + i, none⟩ = some (.int .u8 (at8 l i : Nat)) := by
  obtain ⟨g1, g2⟩ := h.at1 (g := bv) (fun _ => rfl) hi
  exact ⟨g1, by rw [g2, at8_get hi]⟩
theorem SlF.tl {α : Type} {f : α → List Value} {n : Nat} {V : World} {s : Sl} {l : List α} (h : SlF f V s l) (hf : ∀ x, (f x).length = n) {k : Nat} (hk : k ≤ l.length) : SlF f V ⟨subA s.a k s.cap n, s.len - k, s.cap - k⟩ (l.drop k) := by
  have := h.sub hf (a := k) (b := l.length) hk (Nat.le_refl _)
  rw [List.take_length] at this
  rw [h.len]
  exact this
theorem fmap_app {α : Type} (o : Option (List α)) (xs ys : List α) : (o.map (ys ++ ·)).map (xs ++ ·) = o.map ((xs ++ ys) ++ ·) := by cases o <;> simp
section
variable {V W : World}
set_option maxRecDepth 100000 in
theorem chars_ref (hV : Sub V W) {s : Sl} {b : List UInt8} (hs : Byt V s b) (hl : b.length ≤ 1000000000) : Ret Tryd.prog 43 [s.v].toArray W (NumsG W V (chars b)) := by
  have H := Rel.start hV
  have hlen := hs.len
  refine cal_of_vc tabOk Tryd.func43 rfl (by kernel_rfl) 28 rfl (by simp) [0, 2, 3, 4, 5, 6, 7, 11, 19] ?_
  (first | (refine H.wg ?_; clear H; intros; rename_i w H; constructor) | refine wk ?_)
  replace H := H.rowNil 3 1
  refine loop_inv (S := Nat × Sl × List Nat) tabOk [0] (fun q => [(5, iv q.1), (4, q.2.1.v)]) (fun q w' => q.1 ≤ b.length ∧ chars b = (chars (b.drop q.1)).map (q.2.2 ++ ·) ∧ q.2.2.length ≤ q.1 ∧ ∃ V', Sub V V' ∧ Rel W V [.row q.2.1 3 1 (q.2.2.flatMap naC)] V' w') (fun q _ => b.length - q.1) (0, ⟨none, 0, 0⟩, []) ?_
  (conv => whnf)
  refine ⟨(by repeat (first | exact trivial | refine ⟨rfl, ?_⟩)), ⟨by omega, by simp, Nat.le_refl _, V, Sub.refl _, H⟩, ?_⟩
  clear H
  rintro ⟨p, r, out⟩ w ⟨hp, heq, hol, V3, hV3, H⟩
  dsimp only at hp heq hol H ⊢
  by_cases hlt : p < b.length
  · have hne : b.drop p ≠ [] := by intro e; have := congrArg List.length e; rw [List.length_drop, List.length_nil] at this; omega
    rw [chars_step hne] at heq
    (first | (refine H.wg ?_; clear H; intros; rename_i w H; constructor) | refine wk ?_)
    refine (charAt_ref H.data (hs.up hV3) hl hlt).use ?_
    rintro v w ⟨V4, hV4, K, rfl⟩
    (have hKb := K.base; replace H := H.call0 K)
    cases hca : chAt (b.drop p) with
    | none =>
      rw [hca] at heq
      rw [heq]
      (first | (refine H.wg ?_; clear H; intros; rename_i w H; constructor) | refine wk ?_)
      exact ⟨V4, ⟨none, 0, 0⟩, hV3.trans hV4, H.sx, rfl⟩
    | some x =>
      obtain ⟨c, n⟩ := x
      obtain ⟨hch, hn1, hn2, _⟩ := chAt_some hca
      have hcl := isCh_lt hch
      have hu4 := u8n_le c
      rw [List.length_drop] at hn2
      rw [hca] at heq
      dsimp only at heq ⊢
      rw [show ((chars ((b.drop p).drop n)).map (c :: ·)) = ((chars (b.drop (p + n))).map ([c] ++ ·)) by rw [List.drop_drop]; rfl, fmap_app] at heq
      (first | (refine H.wg ?_; clear H; intros; rename_i w H; constructor) | refine wk ?_)
      refine Rel.app1_0 (f := naC) (l := out) (x := c) tabOk rfl rfl rfl rfl rfl (by decide) (fun _ => rfl) (List.all_eq_true.1 rfl) H (by show (out.length + 1) * 8 ≤ _; first | omega | (simp only [List.length_map, List.length_range]; omega)) (by first | omega | (simp only [List.length_map, List.length_range]; omega)) ?_
      clear H
      intro rn w H
      (first | (refine H.wg ?_; clear H; intros; rename_i w H; constructor) | refine wk ?_)
      exact ⟨(by repeat (first | exact trivial | refine ⟨rfl, ?_⟩)), (p + n, rn, out ++ [c]), (by repeat (first | exact trivial | refine ⟨rfl, ?_⟩)), ⟨by dsimp only; omega, heq, by dsimp only; rw [List.length_append, List.length_singleton]; omega, V4, hV3.trans hV4, H.sx⟩, by dsimp only; omega⟩
  · rw [List.drop_of_length_le (by omega), chars_nil, Option.map_some, List.append_nil] at heq
    rw [heq]
    obtain ⟨V4, hV4, H, hr⟩ := Rel.freezeF H (fun _ => rfl) (by decide)
    (first | (refine H.wg ?_; clear H; intros; rename_i w H; constructor) | refine wk ?_)
    exact ⟨V4, r, hV3.trans hV4, H.sx, rfl, hr⟩
/-- the row of numbers that a function of the reference leaves -/
structure NumL (W V : World) (l : List Nat) (v : Value) (w' : World) : Prop where
  ex : ∃ (V' : World) (r : Sl), Sub V V' ∧ Rel W V [] V' w' ∧ v = r.v ∧ SlF naC V' r l
theorem units_snoc (big : Bool) (b : List UInt8) (k : Nat) : (List.range (k + 1)).map (unitAt big b) = (List.range k).map (unitAt big b) ++ [unitAt big b k] := by rw [List.range_succ, List.map_append]; rfl
set_option maxRecDepth 100000 in
theorem units_ref (hV : Sub V W) {s : Sl} {b : List UInt8} (hs : Byt V s b) (hl : b.length ≤ 1000000000) (big : Bool) : Ret Tryd.prog 59 [s.v, .bool big].toArray W (NumL W V (unitsOf big b)) := by
  have H := Rel.start hV
  have hlen := hs.len
  refine cal_of_vc tabOk Tryd.func59 rfl (by kernel_rfl) 48 rfl (by simp) [0, 1, 4, 5, 6, 11, 14] ?_
  (first | (refine H.wg ?_; clear H; intros; rename_i w H; constructor) | refine wk ?_)
  replace H := H.rowNil 3 1
  refine loop_inv (S := Nat × Sl) tabOk [0, 1, 4] (fun q => [(6, iv ((2 * q.1 : Nat) : Int)), (5, q.2.v)]) (fun q w' => q.1 ≤ b.length / 2 ∧ Rel W V [.row q.2 3 1 (((List.range q.1).map (unitAt big b)).flatMap naC)] V w') (fun q _ => b.length / 2 - q.1) (0, ⟨none, 0, 0⟩) ?_
  (conv => whnf)
  refine ⟨(by repeat (first | exact trivial | refine ⟨rfl, ?_⟩)), ⟨by omega, H⟩, ?_⟩
  clear H
  rintro ⟨k, r⟩ w ⟨hk, H⟩
  dsimp only at hk H ⊢
  by_cases hlt : k < b.length / 2
  · obtain ⟨p0, c0⟩ := hs.cell8 (i := 2 * k) (by omega)
    obtain ⟨p1, c1⟩ := hs.cell8 (i := 2 * k + 1) (by omega)
    have h0 : at8 b (2 * k) < 256 := UInt8.toNat_lt _
    have h1 : at8 b (2 * k + 1) < 256 := UInt8.toNat_lt _
    have e1 : ((2 * k : Nat) : Int) + 2 = ((2 * (k + 1) : Nat) : Int) := by omega
    cases big with
    | true =>
      have eu : unitAt true b k = 256 * at8 b (2 * k) + at8 b (2 * k + 1) := rfl
      (first | (refine H.wg ?_; clear H; intros; rename_i w H; constructor) | refine wk ?_)
      ((first | refine draw_vcQ (id := 6) tabOk mixed [] [0, 1, 2, 3, 4, 5, 6, 7, 8, 9, 10, 11, 12, 13, 14, 15, 16] (by kernel_rfl) ?_ | refine draw_vcQ (id := 7) tabOk mixed [] [0, 1, 2, 3, 4, 5, 6, 7, 8, 9, 10, 11, 12, 13, 14, 15, 16] (by kernel_rfl) ?_); intro w hdw; replace H := Rel.ext H hdw.ext)
      (first | (refine H.wg ?_; clear H; intros; rename_i w H; constructor) | refine wk ?_)
      rw [show 256 * ((at8 b (2 * k) : Nat) : Int) + ((at8 b (2 * k + 1) : Nat) : Int) = ((unitAt true b k : Nat) : Int) by rw [eu]; omega] at H
      refine Rel.app1_0 (f := naC) (l := ((List.range k).map (unitAt true b))) (x := (unitAt true b k)) tabOk rfl rfl rfl rfl rfl (by decide) (fun _ => rfl) (List.all_eq_true.1 rfl) H (by show (((List.range k).map (unitAt true b)).length + 1) * 8 ≤ _; first | omega | (simp only [List.length_map, List.length_range]; omega)) (by first | omega | (simp only [List.length_map, List.length_range]; omega)) ?_
      clear H
      intro rn w H
      (first | (refine H.wg ?_; clear H; intros; rename_i w H; constructor) | refine wk ?_)
      refine ⟨(by repeat (first | exact trivial | refine ⟨rfl, ?_⟩)), (k + 1, rn), ⟨congrArg (fun z => some (iv z)) e1, rfl, trivial⟩, ⟨by dsimp only; omega, ?_⟩, by dsimp only; omega⟩
      dsimp only
      rw [units_snoc]
      exact H.sx
    | false =>
      have eu : unitAt false b k = 256 * at8 b (2 * k + 1) + at8 b (2 * k) := rfl
      (first | (refine H.wg ?_; clear H; intros; rename_i w H; constructor) | refine wk ?_)
      ((first | refine draw_vcQ (id := 6) tabOk mixed [] [0, 1, 2, 3, 4, 5, 6, 7, 8, 9, 10, 11, 12, 13, 14, 15, 16] (by kernel_rfl) ?_ | refine draw_vcQ (id := 7) tabOk mixed [] [0, 1, 2, 3, 4, 5, 6, 7, 8, 9, 10, 11, 12, 13, 14, 15, 16] (by kernel_rfl) ?_); intro w hdw; replace H := Rel.ext H hdw.ext)
      (first | (refine H.wg ?_; clear H; intros; rename_i w H; constructor) | refine wk ?_)
      rw [show 256 * ((at8 b (2 * k + 1) : Nat) : Int) + ((at8 b (2 * k) : Nat) : Int) = ((unitAt false b k : Nat) : Int) by rw [eu]; omega] at H
      refine Rel.app1_0 (f := naC) (l := ((List.range k).map (unitAt false b))) (x := (unitAt false b k)) tabOk rfl rfl rfl rfl rfl (by decide) (fun _ => rfl) (List.all_eq_true.1 rfl) H (by show (((List.range k).map (unitAt false b)).length + 1) * 8 ≤ _; first | omega | (simp only [List.length_map, List.length_range]; omega)) (by first | omega | (simp only [List.length_map, List.length_range]; omega)) ?_
      clear H
      intro rn w H
      (first | (refine H.wg ?_; clear H; intros; rename_i w H; constructor) | refine wk ?_)
      refine ⟨(by repeat (first | exact trivial | refine ⟨rfl, ?_⟩)), (k + 1, rn), ⟨congrArg (fun z => some (iv z)) e1, rfl, trivial⟩, ⟨by dsimp only; omega, ?_⟩, by dsimp only; omega⟩
      dsimp only
      rw [units_snoc]
      exact H.sx
  · obtain rfl : k = b.length / 2 := by omega
    obtain ⟨V4, hV4, H, hr⟩ := Rel.freezeF H (fun _ => rfl) (by decide)
    (first | (refine H.wg ?_; clear H; intros; rename_i w H; constructor) | refine wk ?_)
    exact ⟨V4, r, hV4, H.sx, rfl, hr⟩
set_option maxRecDepth 100000 in
theorem fromUnits_ref (hV : Sub V W) {s : Sl} {us : List Nat} (hs : SlF naC V s us) (hl : us.length ≤ 1000000000) (hu : ∀ u ∈ us, u < 65536) : Ret Tryd.prog 58 [s.v].toArray W (NumsG W V (unitsD us)) := by
  have H := Rel.start hV
  have hlen := hs.len
  refine cal_of_vc tabOk Tryd.func58 rfl (by kernel_rfl) 64 rfl (by simp) [0, 2, 3, 4, 5, 9, 16, 22, 43] ?_
  (first | (refine H.wg ?_; clear H; intros; rename_i w H; constructor) | refine wk ?_)
  replace H := H.rowNil 3 1
  refine loop_inv (S := Nat × Sl × List Nat) tabOk [0] (fun q => [(5, iv q.1), (4, q.2.1.v)]) (fun q w' => q.1 ≤ us.length ∧ unitsD us = (unitsD (us.drop q.1)).map (q.2.2 ++ ·) ∧ q.2.2.length ≤ q.1 ∧ Rel W V [.row q.2.1 3 1 (q.2.2.flatMap naC)] V w') (fun q _ => us.length - q.1) (0, ⟨none, 0, 0⟩, []) ?_
  (conv => whnf)
  refine ⟨(by repeat (first | exact trivial | refine ⟨rfl, ?_⟩)), ⟨by omega, by simp, Nat.le_refl _, H⟩, ?_⟩
  clear H
  rintro ⟨p, r, out⟩ w ⟨hp, heq, hol, H⟩
  dsimp only at hp heq hol H ⊢
  by_cases hlt : p < us.length
  · obtain ⟨p0, c0⟩ := hs.at1 (g := fun u : Nat => iv (u : Int)) (fun _ => rfl) hlt
    have hu0 := hu _ (List.getElem_mem hlt)
    rw [List.drop_eq_getElem_cons hlt] at heq
    obtain ⟨u, hue⟩ : ∃ u, u = us[p] := ⟨_, rfl⟩
    rw [← hue] at c0 hu0 heq
    obtain ⟨z, hz⟩ : ∃ z : Int, z = (u : Int) := ⟨_, rfl⟩
    rw [← hz] at c0
    (first | (refine H.wg ?_; clear H; intros; rename_i w H; constructor) | refine wk ?_)
    refine (in_ref z 56320 57343 _).use ?_
    rintro q w' ⟨rfl, rfl⟩
    by_cases hlo : isLow u
    · rw [unitsD_low hlo] at heq
      unfold isLow at hlo
      rw [heq, decide_eq_true (show (56320 : Int) ≤ z ∧ z ≤ 57343 by omega)]
      (first | (refine H.wg ?_; clear H; intros; rename_i w H; constructor) | refine wk ?_)
      exact ⟨V, ⟨none, 0, 0⟩, Sub.refl _, H.sx, rfl⟩
    rw [decide_eq_false (show ¬ ((56320 : Int) ≤ z ∧ z ≤ 57343) by unfold isLow at hlo; omega)]
    (first | (refine H.wg ?_; clear H; intros; rename_i w H; constructor) | refine wk ?_)
    refine (in_ref z 55296 56319 _).use ?_
    rintro q w' ⟨rfl, rfl⟩
    by_cases hhi : isHigh u
    rotate_left
    · rw [unitsD_one hlo hhi, show ((unitsD (us.drop (p + 1))).map (u :: ·)) = ((unitsD (us.drop (p + 1))).map ([u] ++ ·)) from rfl, fmap_app] at heq
      rw [decide_eq_false (show ¬ ((55296 : Int) ≤ z ∧ z ≤ 56319) by unfold isHigh at hhi; omega)]
      (first | (refine H.wg ?_; clear H; intros; rename_i w H; constructor) | refine wk ?_)
      rw [hz] at H
      refine Rel.app1_0 (f := naC) (l := out) (x := u) tabOk rfl rfl rfl rfl rfl (by decide) (fun _ => rfl) (List.all_eq_true.1 rfl) H (by show (out.length + 1) * 8 ≤ _; first | omega | (simp only [List.length_map, List.length_range]; omega)) (by first | omega | (simp only [List.length_map, List.length_range]; omega)) ?_
      clear H
      intro rn w H
      (first | (refine H.wg ?_; clear H; intros; rename_i w H; constructor) | refine wk ?_)
      exact ⟨(by repeat (first | exact trivial | refine ⟨rfl, ?_⟩)), (p + 1, rn, out ++ [u]), (by repeat (first | exact trivial | refine ⟨rfl, ?_⟩)), ⟨by dsimp only; omega, heq, by dsimp only; rw [List.length_append, List.length_singleton]; omega, H.sx⟩, by dsimp only; omega⟩
    rw [decide_eq_true (show (55296 : Int) ≤ z ∧ z ≤ 56319 by unfold isHigh at hhi; omega)]
    by_cases hl1 : p + 1 < us.length
    rotate_left
    · rw [unitsD_lone hhi _ (fun v k e => by rw [List.drop_of_length_le (by omega)] at e; cases e)] at heq
      rw [heq]
      (first | (refine H.wg ?_; clear H; intros; rename_i w H; constructor) | refine wk ?_)
      exact ⟨V, ⟨none, 0, 0⟩, Sub.refl _, H.sx, rfl⟩
    obtain ⟨_, c1⟩ := hs.at1 (g := fun u : Nat => iv (u : Int)) (fun _ => rfl) hl1
    have hu1 := hu _ (List.getElem_mem hl1)
    rw [List.drop_eq_getElem_cons hl1] at heq
    obtain ⟨v, hve⟩ : ∃ v, v = us[p + 1] := ⟨_, rfl⟩
    rw [← hve] at c1 hu1 heq
    obtain ⟨y, hy⟩ : ∃ y : Int, y = (v : Int) := ⟨_, rfl⟩
    rw [← hy] at c1
    (first | (refine H.wg ?_; clear H; intros; rename_i w H; constructor) | refine wk ?_)
    refine (in_ref y 56320 57343 _).use ?_
    rintro q w' ⟨rfl, rfl⟩
    by_cases hlo1 : isLow v
    rotate_left
    · rw [unitsD_lone hhi _ (fun v' k e => by cases e; exact hlo1)] at heq
      unfold isLow at hlo1
      rw [heq, decide_eq_false (show ¬ ((56320 : Int) ≤ y ∧ y ≤ 57343) by omega)]
      (first | (refine H.wg ?_; clear H; intros; rename_i w H; constructor) | refine wk ?_)
      exact ⟨V, ⟨none, 0, 0⟩, Sub.refl _, H.sx, rfl⟩
    rw [unitsD_pair hhi hlo1, show ((unitsD (us.drop (p + 1 + 1))).map ((65536 + 1024 * (u - 55296) + (v - 56320)) :: ·)) = ((unitsD (us.drop (p + 1 + 1))).map ([65536 + 1024 * (u - 55296) + (v - 56320)] ++ ·)) from rfl, fmap_app] at heq
    unfold isLow at hlo1
    unfold isHigh at hhi
    rw [decide_eq_true (show (56320 : Int) ≤ y ∧ y ≤ 57343 by omega)]
    obtain ⟨x, hx⟩ : ∃ x, x = 65536 + 1024 * (u - 55296) + (v - 56320) := ⟨_, rfl⟩
    rw [← hx] at heq
    (first | (refine H.wg ?_; clear H; intros; rename_i w H; constructor) | refine wk ?_)
    ((first | refine draw_vcQ (id := 11) tabOk mixed [] [0, 1, 2, 3, 4, 5, 6, 7, 8, 9, 10, 11, 12, 13, 14, 15, 16, 17] (by kernel_rfl) ?_); intro w hdw; replace H := Rel.ext H hdw.ext)
    (first | (refine H.wg ?_; clear H; intros; rename_i w H; constructor) | refine wk ?_)
    rw [show 65536 + 1024 * (z - 55296) + y - 56320 = ((x : Nat) : Int) by omega] at H
    refine Rel.app1_0 (f := naC) (l := out) (x := x) tabOk rfl rfl rfl rfl rfl (by decide) (fun _ => rfl) (List.all_eq_true.1 rfl) H (by show (out.length + 1) * 8 ≤ _; first | omega | (simp only [List.length_map, List.length_range]; omega)) (by first | omega | (simp only [List.length_map, List.length_range]; omega)) ?_
    clear H
    intro rn w H
    (first | (refine H.wg ?_; clear H; intros; rename_i w H; constructor) | refine wk ?_)
    refine ⟨(by repeat (first | exact trivial | refine ⟨rfl, ?_⟩)), (p + 2, rn, out ++ [x]), ⟨congrArg (fun z => some (iv z)) (by dsimp only; omega), rfl, trivial⟩, ⟨by dsimp only; omega, heq, by dsimp only; rw [List.length_append, List.length_singleton]; omega, H.sx⟩, by dsimp only; omega⟩
  · rw [List.drop_of_length_le (by omega), show unitsD [] = some [] from rfl, Option.map_some, List.append_nil] at heq
    rw [heq]
    obtain ⟨V4, hV4, H, hr⟩ := Rel.freezeF H (fun _ => rfl) (by decide)
    (first | (refine H.wg ?_; clear H; intros; rename_i w H; constructor) | refine wk ?_)
    exact ⟨V4, r, hV4, H.sx, rfl, hr⟩
end
end Go.Proofs.YtgnaojphgdaalaaDoor
