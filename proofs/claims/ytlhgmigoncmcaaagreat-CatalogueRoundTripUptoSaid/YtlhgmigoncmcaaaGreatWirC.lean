/-
  Strings as bytes; lists as bytes.
-/
import Derived.Test.YtlhgmigoncmcaaaGreatWirA
import Derived.Laws.IdiomStrings
namespace Go.Proofs.YtlhgmigoncmcaaaGreat
open Go Go.RowKit

section
variable {w0 V0 V w : World} {own : List Res}
/-- the bytes of a string -/
theorem Rel.convSB {P : Program} {src dst e : TypeId} (hs : P.underlying src = some .string) (hd : P.underlying dst = some (.slice e)) (he : P.underlying e = some (.int .u8)) (H : Rel w0 V0 own V w) (l : List UInt8) {k : Value → World → Prop}
    (hk : ∀ V' s w', Ext w w' → Sub V V' → Byt V' s l → Rel w0 V0 own V' w' → k s.v w') : SemOk P (convert src dst (str l)) w k := by
  refine .of (run_bytes_of_string w src dst e _ hs hd he) ?_
  have hext : Ext w (w.drew.alloc (.cells (bytesRow ⟨l.toArray⟩ (grownCap w (ByteArray.size ⟨l.toArray⟩) 0 e)) e ((bytesRow ⟨l.toArray⟩ (grownCap w (ByteArray.size ⟨l.toArray⟩) 0 e)).size, (bytesRow ⟨l.toArray⟩ (grownCap w (ByteArray.size ⟨l.toArray⟩) 0 e)).size + 1))) :=
    ⟨rfl, rfl, rfl, by simp, fun c hc => heap_alloc_old w.drew _ c hc⟩
  obtain ⟨V', h1, h2, h3⟩ := (H.ext hext).freeze (List.Sublist.refl _)
  refine hk V' ⟨some ⟨w.heap.size, 0, none⟩, l.length, _⟩ _ hext h1 ⟨rfl, grownCap_ge w _ 0 e, ?_⟩ h2
  have hv := h3 w.heap.size _ _ _ H.base.size (heap_alloc_new w.drew _) (fun r hr hb => by have := Res.lt (H.laid r hr) hb; omega)
  refine ⟨fun _ => rfl, fun j v hj => ?_⟩
  simp only [ablk, aoff, Nat.zero_add]
  rw [byC_map] at hj
  simp only [World.cell?, hv]
  have hj2 : j < l.length := by have := (List.getElem?_eq_some_iff.1 hj).1; simpa using this
  rw [List.getElem?_map, List.getElem?_eq_getElem hj2] at hj
  simp only [Option.map_some, Option.some.injEq] at hj
  subst hj
  rw [bytesRow, Array.getElem?_append_left (by simpa using hj2)]
  simp [hj2]
end
theorem SlF.at2 {V : World} {α : Type} {f : α → List Value} {s : Sl} {l : List α} (h : SlF f V s l) {g g' : α → Value} (hf : ∀ x, f x = [g x, g' x]) {i : Nat} (hi : i < l.length) : Plain s.a ∧ V.cell? ⟨ablk s.a, aoff s.a + i * 2, none⟩ = some (g l[i]) ∧ V.cell? ⟨ablk s.a, aoff s.a + i * 2 + 1, none⟩ = some (g' l[i]) := by
  obtain ⟨h1, h2⟩ := h.get (n := 2) (fun x => by rw [hf]; rfl) (by omega) hi
  exact ⟨h1, h2 0 _ (by rw [hf]; rfl), h2 1 _ (by rw [hf]; rfl)⟩
/-- a block that holds bytes, read from now on -/
theorem Blk.byt {V : World} {b n : Nat} {l : List UInt8} {t : TypeId} (h : Blk V b (l.map bv) t) (hn : n = l.length) : Byt V ⟨some ⟨b, 0, none⟩, n, n⟩ l := ⟨hn, Nat.le_refl _, by rw [byC_map]; exact h.cells⟩
/-- what a function that encodes one thing does -/
def OneOk (V : World) (g : FuncId) (cap : List Value) (a : Value) (bs : List UInt8) : Prop :=
  ∀ V1 W1, Sub V V1 → Sub V1 W1 → Ret Tryz.prog g (a :: cap).toArray W1 fun v w' => ∃ (V2 : World) (r : Sl), Sub V1 V2 ∧ v = r.v ∧ Byt V2 r bs ∧ Rel W1 V1 [] V2 w'
theorem flat_part {α : Type} {enc : α → List UInt8} {l : List α} {k : Nat} (hk : k < l.length) : ((l.take k).flatMap enc).length + (enc l[k]).length ≤ (l.flatMap enc).length := by
  conv => rhs; rw [← List.take_append_drop k l, List.flatMap_append, List.drop_eq_getElem_cons hk, List.flatMap_cons]
  simp only [List.length_append]
  omega
theorem flat_next {α : Type} {enc : α → List UInt8} {l : List α} {k : Nat} {a : List UInt8} (hk : k < l.length) : a ++ (l.take k).flatMap enc ++ enc l[k] = a ++ (l.take (k + 1)).flatMap enc := by
  rw [List.take_succ_eq_append_getElem hk, List.flatMap_append, List.append_assoc]
  simp only [List.flatMap_cons, List.flatMap_nil, List.append_nil]
theorem slice_strs {V W : World} (hV : Sub V W) {s : Sl} {l : List (List UInt8)} (hs : SlF strC V s l) {g : FuncId} {cap : List Value} {enc : (List UInt8) → List UInt8} (hone : ∀ x ∈ l, OneOk V g cap (str x) (enc x)) (hll : l.length ≤ 1099511627776) (hb : (putL enc l).length ≤ 1099511627776) :
    Ret Tryz.prog 45 [s.v, .func (.func g) #[] cap.toArray].toArray W fun v w' => ∃ r : Sl, v = r.v ∧ Rel W V [.row r 5 1 ((putL enc l).flatMap byC)] V w' := by
  have H := Rel.start hV
  have hlen := hs.len
  rw [putL, List.length_append] at hb
  refine cal_of_vc tabOk Tryz.func45 rfl (by kernel_rfl) 24 rfl (by simp) [0, 1, 4, 5, 7, 11, 12, 13, 14] ?_
  ((repeat ((conv => whnf); first | refine an ?_ | ((first | refine H.nwD ?_ | refine H.nw ?_); clear H; intro w _ H) | refine H.ce ?_ | refine H.db ?_ | refine ea ?_ | (refine H.st ?_; (conv => whnf); clear H; intro w H) | refine condT fun _ => ?_ | refine condF fun _ => ?_ | refine condNT fun _ => ?_ | refine condNF fun _ => ?_ | refine H.da (hc1 _ _ (by rfl)) ?_ | refine H.datw hc1 (by rfl) ?_ | refine H.datl hc1 (by rfl) ?_ | refine H.lw ?_ | refine H.ll ?_)); (conv => whnf))
  rw [hlen]
  refine (number_spec (n := l.length) H.data (by constructor <;> omega)).use ?_
  rintro v w ⟨r0, rfl, K⟩
  replace H := H.call K
  ((repeat ((conv => whnf); first | refine an ?_ | ((first | refine H.nwD ?_ | refine H.nw ?_); clear H; intro w _ H) | refine H.ce ?_ | refine H.db ?_ | refine ea ?_ | (refine H.st ?_; (conv => whnf); clear H; intro w H) | refine condT fun _ => ?_ | refine condF fun _ => ?_ | refine condNT fun _ => ?_ | refine condNF fun _ => ?_ | refine H.da (hc1 _ _ (by rfl)) ?_ | refine H.datw hc1 (by rfl) ?_ | refine H.datl hc1 (by rfl) ?_ | refine H.lw ?_ | refine H.ll ?_)); (conv => whnf))
  refine loop_inv (S := Nat × Sl) tabOk [0, 1, 4, 11, 12] (fun k => [(5, k.2.v), (13, iv k.1)]) (fun k w' => k.1 ≤ l.length ∧ ∃ V1, Sub V V1 ∧ Rel W V [.row k.2 5 1 ((putN l.length ++ (l.take k.1).flatMap enc).flatMap byC)] V1 w') (fun k _ => l.length - k.1) (0, r0) ?_
  (conv => whnf)
  refine ⟨(by repeat (first | exact trivial | refine ⟨rfl, ?_⟩)), ⟨by omega, V, Sub.refl _, by simpa using H⟩, ?_⟩
  clear H
  rintro ⟨k, r⟩ w ⟨hk, V1, hV1, H⟩
  dsimp only at hk H
  by_cases hlt : k < l.length
  rotate_left
  · ((repeat ((conv => whnf); first | refine an ?_ | ((first | refine H.nwD ?_ | refine H.nw ?_); clear H; intro w _ H) | refine H.ce ?_ | refine H.db ?_ | refine ea ?_ | (refine H.st ?_; (conv => whnf); clear H; intro w H) | refine condT fun _ => ?_ | refine condF fun _ => ?_ | refine condNT fun _ => ?_ | refine condNF fun _ => ?_ | refine H.da (hc1 _ _ (by rfl)) ?_ | refine H.datw hc1 (by rfl) ?_ | refine H.datl hc1 (by rfl) ?_ | refine H.lw ?_ | refine H.ll ?_)); (conv => whnf))
    rw [List.take_of_length_le (by omega)] at H
    exact ⟨r, rfl, H.back⟩
  have hbl := flat_part (enc := enc) hlt
  obtain ⟨hp, hq⟩ := (hs.up hV1).at1 (g := str) (fun _ => rfl) hlt
  ((repeat ((conv => whnf); first | refine an ?_ | ((first | refine H.nwD ?_ | refine H.nw ?_); clear H; intro w _ H) | refine H.ce ?_ | refine H.db ?_ | refine ea ?_ | (refine H.st ?_; (conv => whnf); clear H; intro w H) | refine condT fun _ => ?_ | refine condF fun _ => ?_ | refine condNT fun _ => ?_ | refine condNF fun _ => ?_ | refine H.da (hc1 _ _ (by rfl)) ?_ | refine H.datw hc1 (by rfl) ?_ | refine H.datl hc1 (by rfl) ?_ | refine H.lw ?_ | refine H.ll ?_)); (conv => whnf))
  refine (hone l[k] (List.getElem_mem hlt) V1 w hV1 H.data).use ?_
  rintro v w ⟨V2, x, hV2, rfl, hx, K⟩
  replace H := H.call K
  simp only [List.nil_append] at H
  ((repeat ((conv => whnf); first | refine an ?_ | ((first | refine H.nwD ?_ | refine H.nw ?_); clear H; intro w _ H) | refine H.ce ?_ | refine H.db ?_ | refine ea ?_ | (refine H.st ?_; (conv => whnf); clear H; intro w H) | refine condT fun _ => ?_ | refine condF fun _ => ?_ | refine condNT fun _ => ?_ | refine condNF fun _ => ?_ | refine H.da (hc1 _ _ (by rfl)) ?_ | refine H.datw hc1 (by rfl) ?_ | refine H.datl hc1 (by rfl) ?_ | refine H.lw ?_ | refine H.ll ?_)); (conv => whnf))
  refine Rel.appD H (i := 0) rfl hx (by simp only [List.length_append]; omega) ?_
  clear H
  intro rn w H
  rw [flat_next hlt] at H
  ((repeat ((conv => whnf); first | refine an ?_ | ((first | refine H.nwD ?_ | refine H.nw ?_); clear H; intro w _ H) | refine H.ce ?_ | refine H.db ?_ | refine ea ?_ | (refine H.st ?_; (conv => whnf); clear H; intro w H) | refine condT fun _ => ?_ | refine condF fun _ => ?_ | refine condNT fun _ => ?_ | refine condNF fun _ => ?_ | refine H.da (hc1 _ _ (by rfl)) ?_ | refine H.datw hc1 (by rfl) ?_ | refine H.datl hc1 (by rfl) ?_ | refine H.lw ?_ | refine H.ll ?_)); (conv => whnf))
  exact ⟨(by repeat (first | exact trivial | refine ⟨rfl, ?_⟩)), (k + 1, rn), (by repeat (first | exact trivial | refine ⟨rfl, ?_⟩)), ⟨by omega, V2, hV1.trans hV2, H.sx⟩, by omega⟩
theorem slice_refs {V W : World} (hV : Sub V W) {s : Sl} {l : List RefD} (hs : SlF refC V s l) {g : FuncId} {cap : List Value} {enc : RefD → List UInt8} (hone : ∀ x ∈ l, OneOk V g cap ((fun r => .agg (refC r).toArray) x) (enc x)) (hll : l.length ≤ 1099511627776) (hb : (putL enc l).length ≤ 1099511627776) :
    Ret Tryz.prog 43 [s.v, .func (.func g) #[] cap.toArray].toArray W fun v w' => ∃ r : Sl, v = r.v ∧ Rel W V [.row r 5 1 ((putL enc l).flatMap byC)] V w' := by
  have H := Rel.start hV
  have hlen := hs.len
  rw [putL, List.length_append] at hb
  refine cal_of_vc tabOk Tryz.func43 rfl (by kernel_rfl) 24 rfl (by simp) [0, 1, 4, 5, 7, 11, 12, 13, 14] ?_
  ((repeat ((conv => whnf); first | refine an ?_ | ((first | refine H.nwD ?_ | refine H.nw ?_); clear H; intro w _ H) | refine H.ce ?_ | refine H.db ?_ | refine ea ?_ | (refine H.st ?_; (conv => whnf); clear H; intro w H) | refine condT fun _ => ?_ | refine condF fun _ => ?_ | refine condNT fun _ => ?_ | refine condNF fun _ => ?_ | refine H.da (hc1 _ _ (by rfl)) ?_ | refine H.datw hc1 (by rfl) ?_ | refine H.datl hc1 (by rfl) ?_ | refine H.lw ?_ | refine H.ll ?_)); (conv => whnf))
  rw [hlen]
  refine (number_spec (n := l.length) H.data (by constructor <;> omega)).use ?_
  rintro v w ⟨r0, rfl, K⟩
  replace H := H.call K
  ((repeat ((conv => whnf); first | refine an ?_ | ((first | refine H.nwD ?_ | refine H.nw ?_); clear H; intro w _ H) | refine H.ce ?_ | refine H.db ?_ | refine ea ?_ | (refine H.st ?_; (conv => whnf); clear H; intro w H) | refine condT fun _ => ?_ | refine condF fun _ => ?_ | refine condNT fun _ => ?_ | refine condNF fun _ => ?_ | refine H.da (hc1 _ _ (by rfl)) ?_ | refine H.datw hc1 (by rfl) ?_ | refine H.datl hc1 (by rfl) ?_ | refine H.lw ?_ | refine H.ll ?_)); (conv => whnf))
  refine loop_inv (S := Nat × Sl) tabOk [0, 1, 4, 11, 12] (fun k => [(5, k.2.v), (13, iv k.1)]) (fun k w' => k.1 ≤ l.length ∧ ∃ V1, Sub V V1 ∧ Rel W V [.row k.2 5 1 ((putN l.length ++ (l.take k.1).flatMap enc).flatMap byC)] V1 w') (fun k _ => l.length - k.1) (0, r0) ?_
  (conv => whnf)
  refine ⟨(by repeat (first | exact trivial | refine ⟨rfl, ?_⟩)), ⟨by omega, V, Sub.refl _, by simpa using H⟩, ?_⟩
  clear H
  rintro ⟨k, r⟩ w ⟨hk, V1, hV1, H⟩
  dsimp only at hk H
  by_cases hlt : k < l.length
  rotate_left
  · ((repeat ((conv => whnf); first | refine an ?_ | ((first | refine H.nwD ?_ | refine H.nw ?_); clear H; intro w _ H) | refine H.ce ?_ | refine H.db ?_ | refine ea ?_ | (refine H.st ?_; (conv => whnf); clear H; intro w H) | refine condT fun _ => ?_ | refine condF fun _ => ?_ | refine condNT fun _ => ?_ | refine condNF fun _ => ?_ | refine H.da (hc1 _ _ (by rfl)) ?_ | refine H.datw hc1 (by rfl) ?_ | refine H.datl hc1 (by rfl) ?_ | refine H.lw ?_ | refine H.ll ?_)); (conv => whnf))
    rw [List.take_of_length_le (by omega)] at H
    exact ⟨r, rfl, H.back⟩
  have hbl := flat_part (enc := enc) hlt
  obtain ⟨hp, hq1, hq2⟩ := (hs.up hV1).at2 (g := fun r => str r.name) (g' := fun r => iv r.ver) (fun _ => rfl) hlt
  ((repeat ((conv => whnf); first | refine an ?_ | ((first | refine H.nwD ?_ | refine H.nw ?_); clear H; intro w _ H) | refine H.ce ?_ | refine H.db ?_ | refine ea ?_ | (refine H.st ?_; (conv => whnf); clear H; intro w H) | refine condT fun _ => ?_ | refine condF fun _ => ?_ | refine condNT fun _ => ?_ | refine condNF fun _ => ?_ | refine H.da (hc1 _ _ (by rfl)) ?_ | refine H.datw hc1 (by rfl) ?_ | refine H.datl hc1 (by rfl) ?_ | refine H.lw ?_ | refine H.ll ?_)); (conv => whnf))
  refine (hone l[k] (List.getElem_mem hlt) V1 w hV1 H.data).use ?_
  rintro v w ⟨V2, x, hV2, rfl, hx, K⟩
  replace H := H.call K
  simp only [List.nil_append] at H
  ((repeat ((conv => whnf); first | refine an ?_ | ((first | refine H.nwD ?_ | refine H.nw ?_); clear H; intro w _ H) | refine H.ce ?_ | refine H.db ?_ | refine ea ?_ | (refine H.st ?_; (conv => whnf); clear H; intro w H) | refine condT fun _ => ?_ | refine condF fun _ => ?_ | refine condNT fun _ => ?_ | refine condNF fun _ => ?_ | refine H.da (hc1 _ _ (by rfl)) ?_ | refine H.datw hc1 (by rfl) ?_ | refine H.datl hc1 (by rfl) ?_ | refine H.lw ?_ | refine H.ll ?_)); (conv => whnf))
  refine Rel.appD H (i := 1) rfl hx (by simp only [List.length_append]; omega) ?_
  clear H
  intro rn w H
  rw [flat_next hlt] at H
  ((repeat ((conv => whnf); first | refine an ?_ | ((first | refine H.nwD ?_ | refine H.nw ?_); clear H; intro w _ H) | refine H.ce ?_ | refine H.db ?_ | refine ea ?_ | (refine H.st ?_; (conv => whnf); clear H; intro w H) | refine condT fun _ => ?_ | refine condF fun _ => ?_ | refine condNT fun _ => ?_ | refine condNF fun _ => ?_ | refine H.da (hc1 _ _ (by rfl)) ?_ | refine H.datw hc1 (by rfl) ?_ | refine H.datl hc1 (by rfl) ?_ | refine H.lw ?_ | refine H.ll ?_)); (conv => whnf))
  exact ⟨(by repeat (first | exact trivial | refine ⟨rfl, ?_⟩)), (k + 1, rn), (by repeat (first | exact trivial | refine ⟨rfl, ?_⟩)), ⟨by omega, V2, hV1.trans hV2, H.sx⟩, by omega⟩
theorem slice_digs {V W : World} (hV : Sub V W) {s : Sl} {l : List Dig} (hs : SlF digC V s l) {g : FuncId} {cap : List Value} {enc : Dig → List UInt8} (hone : ∀ x ∈ l, OneOk V g cap ((fun d => .agg (digC d).toArray) x) (enc x)) (hll : l.length ≤ 1099511627776) (hb : (putL enc l).length ≤ 1099511627776) :
    Ret Tryz.prog 46 [s.v, .func (.func g) #[] cap.toArray].toArray W fun v w' => ∃ r : Sl, v = r.v ∧ Rel W V [.row r 5 1 ((putL enc l).flatMap byC)] V w' := by
  have H := Rel.start hV
  have hlen := hs.len
  rw [putL, List.length_append] at hb
  refine cal_of_vc tabOk Tryz.func46 rfl (by kernel_rfl) 24 rfl (by simp) [0, 1, 4, 5, 7, 11, 12, 13, 14] ?_
  ((repeat ((conv => whnf); first | refine an ?_ | ((first | refine H.nwD ?_ | refine H.nw ?_); clear H; intro w _ H) | refine H.ce ?_ | refine H.db ?_ | refine ea ?_ | (refine H.st ?_; (conv => whnf); clear H; intro w H) | refine condT fun _ => ?_ | refine condF fun _ => ?_ | refine condNT fun _ => ?_ | refine condNF fun _ => ?_ | refine H.da (hc1 _ _ (by rfl)) ?_ | refine H.datw hc1 (by rfl) ?_ | refine H.datl hc1 (by rfl) ?_ | refine H.lw ?_ | refine H.ll ?_)); (conv => whnf))
  rw [hlen]
  refine (number_spec (n := l.length) H.data (by constructor <;> omega)).use ?_
  rintro v w ⟨r0, rfl, K⟩
  replace H := H.call K
  ((repeat ((conv => whnf); first | refine an ?_ | ((first | refine H.nwD ?_ | refine H.nw ?_); clear H; intro w _ H) | refine H.ce ?_ | refine H.db ?_ | refine ea ?_ | (refine H.st ?_; (conv => whnf); clear H; intro w H) | refine condT fun _ => ?_ | refine condF fun _ => ?_ | refine condNT fun _ => ?_ | refine condNF fun _ => ?_ | refine H.da (hc1 _ _ (by rfl)) ?_ | refine H.datw hc1 (by rfl) ?_ | refine H.datl hc1 (by rfl) ?_ | refine H.lw ?_ | refine H.ll ?_)); (conv => whnf))
  refine loop_inv (S := Nat × Sl) tabOk [0, 1, 4, 11, 12] (fun k => [(5, k.2.v), (13, iv k.1)]) (fun k w' => k.1 ≤ l.length ∧ ∃ V1, Sub V V1 ∧ Rel W V [.row k.2 5 1 ((putN l.length ++ (l.take k.1).flatMap enc).flatMap byC)] V1 w') (fun k _ => l.length - k.1) (0, r0) ?_
  (conv => whnf)
  refine ⟨(by repeat (first | exact trivial | refine ⟨rfl, ?_⟩)), ⟨by omega, V, Sub.refl _, by simpa using H⟩, ?_⟩
  clear H
  rintro ⟨k, r⟩ w ⟨hk, V1, hV1, H⟩
  dsimp only at hk H
  by_cases hlt : k < l.length
  rotate_left
  · ((repeat ((conv => whnf); first | refine an ?_ | ((first | refine H.nwD ?_ | refine H.nw ?_); clear H; intro w _ H) | refine H.ce ?_ | refine H.db ?_ | refine ea ?_ | (refine H.st ?_; (conv => whnf); clear H; intro w H) | refine condT fun _ => ?_ | refine condF fun _ => ?_ | refine condNT fun _ => ?_ | refine condNF fun _ => ?_ | refine H.da (hc1 _ _ (by rfl)) ?_ | refine H.datw hc1 (by rfl) ?_ | refine H.datl hc1 (by rfl) ?_ | refine H.lw ?_ | refine H.ll ?_)); (conv => whnf))
    rw [List.take_of_length_le (by omega)] at H
    exact ⟨r, rfl, H.back⟩
  have hbl := flat_part (enc := enc) hlt
  obtain ⟨hp, hc1⟩ := (hs.up hV1).get (n := 32) (fun _ => rfl) (by omega) hlt
  ((repeat ((conv => whnf); first | refine an ?_ | ((first | refine H.nwD ?_ | refine H.nw ?_); clear H; intro w _ H) | refine H.ce ?_ | refine H.db ?_ | refine ea ?_ | (refine H.st ?_; (conv => whnf); clear H; intro w H) | refine condT fun _ => ?_ | refine condF fun _ => ?_ | refine condNT fun _ => ?_ | refine condNF fun _ => ?_ | refine H.da (hc1 _ _ (by rfl)) ?_ | refine H.datw hc1 (by rfl) ?_ | refine H.datl hc1 (by rfl) ?_ | refine H.lw ?_ | refine H.ll ?_)); (conv => whnf))
  refine (hone l[k] (List.getElem_mem hlt) V1 w hV1 H.data).use ?_
  rintro v w ⟨V2, x, hV2, rfl, hx, K⟩
  replace H := H.call K
  simp only [List.nil_append] at H
  ((repeat ((conv => whnf); first | refine an ?_ | ((first | refine H.nwD ?_ | refine H.nw ?_); clear H; intro w _ H) | refine H.ce ?_ | refine H.db ?_ | refine ea ?_ | (refine H.st ?_; (conv => whnf); clear H; intro w H) | refine condT fun _ => ?_ | refine condF fun _ => ?_ | refine condNT fun _ => ?_ | refine condNF fun _ => ?_ | refine H.da (hc1 _ _ (by rfl)) ?_ | refine H.datw hc1 (by rfl) ?_ | refine H.datl hc1 (by rfl) ?_ | refine H.lw ?_ | refine H.ll ?_)); (conv => whnf))
  refine Rel.appD H (i := 1) rfl hx (by simp only [List.length_append]; omega) ?_
  clear H
  intro rn w H
  rw [flat_next hlt] at H
  ((repeat ((conv => whnf); first | refine an ?_ | ((first | refine H.nwD ?_ | refine H.nw ?_); clear H; intro w _ H) | refine H.ce ?_ | refine H.db ?_ | refine ea ?_ | (refine H.st ?_; (conv => whnf); clear H; intro w H) | refine condT fun _ => ?_ | refine condF fun _ => ?_ | refine condNT fun _ => ?_ | refine condNF fun _ => ?_ | refine H.da (hc1 _ _ (by rfl)) ?_ | refine H.datw hc1 (by rfl) ?_ | refine H.datl hc1 (by rfl) ?_ | refine H.lw ?_ | refine H.ll ?_)); (conv => whnf))
  exact ⟨(by repeat (first | exact trivial | refine ⟨rfl, ?_⟩)), (k + 1, rn), (by repeat (first | exact trivial | refine ⟨rfl, ?_⟩)), ⟨by omega, V2, hV1.trans hV2, H.sx⟩, by omega⟩
end Go.Proofs.YtlhgmigoncmcaaaGreat
