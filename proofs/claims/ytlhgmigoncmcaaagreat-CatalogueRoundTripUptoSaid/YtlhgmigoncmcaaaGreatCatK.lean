/-
  origins: which entries an entry comes from.
-/
import Derived.Test.YtlhgmigoncmcaaaGreatCatJ
namespace Go.Proofs.YtlhgmigoncmcaaaGreat
open Go Go.RowKit

abbrev boolC (b : Bool) : List Value := [.bool b]
abbrev Bools := SlF boolC
/-! ### one cell of a block, at a place that is not literal -/
theorem replK_set {v : Value} : ∀ {c : List Value} {o : Nat} {k : List Value → Prop}, o < c.length → k (c.set o v) → replK c o [v] k
  | [], o, k, h, _ => by simp at h
  | u :: c, 0, k, _, hk => by
    show replK c 0 [] fun r => k (v :: r)
    cases c <;> exact hk
  | u :: c, o + 1, k, h, hk => by
    show replK c o [v] fun r => k (u :: r)
    exact replK_set (by simpa using h) hk
theorem Rel.storeSetAt {w0 V0 V w : World} {own : List Res} (H : Rel w0 V0 own V w) {i b o : Nat} {c : List Value} {t : TypeId} {v : Value} (hi : own[i]? = some (.blk b c t)) (ho : o < c.length) {k : World → Prop} (hk : ∀ w', Rel w0 V0 (own.set i (.blk b (c.set o v) t)) V w' → k w') :
    ∃ c t', Blk w b c t' ∧ replK c o [v] fun c' => ∀ w', Upd w b c' t' w' → k w' :=
  ⟨c, t, H.blkAt hi, replK_set ho fun w' hu => hk w' (H.updAt hi hu)⟩
theorem Rel.storeSet {w0 V0 V w : World} {own : List Res} (H : Rel w0 V0 own V w) {i b o : Nat} {c : List Value} {t : TypeId} {v : Value} (hi : own[i]? = some (.blk b c t)) (j : Nat) (hj : o = j) (ho : j < c.length) {k : World → Prop} (hk : ∀ w', Rel w0 V0 (own.set i (.blk b (c.set j v) t)) V w' → k w') :
    ∃ c t', Blk w b c t' ∧ replK c o [v] fun c' => ∀ w', Upd w b c' t' w' → k w' := by
  subst hj
  exact H.storeSetAt hi ho hk
/-! ### the plain rows -/
def orgR (l : List Ent) (rows : List (List Bool)) (j : Nat) (r : RefD) : Bool := match place l r with | some k => decide (k = j) || ((rows[k]?.getD [])[j]?.getD false) | none => false
def rowOf (l : List Ent) (rows : List (List Bool)) (srcs : List RefD) : List Bool := (List.range l.length).map fun j => srcs.any (orgR l rows j)
def rowsU (l : List Ent) : Nat → List (List Bool)
  | 0 => []
  | i + 1 => rowsU l i ++ [rowOf l (rowsU l i) (l[i]?.getD default).sources]
theorem rowsU_len (l : List Ent) (i : Nat) : (rowsU l i).length = i := by
  induction i with
  | zero => rfl
  | succ i ih => simp [rowsU, ih]
theorem rowsU_get {l : List Ent} {i j n : Nat} (hj : j < i) (hn : i ≤ n) : (rowsU l n)[j]? = (rowsU l i)[j]? := by
  induction n with
  | zero => omega
  | succ n ih =>
    by_cases e : i = n + 1
    · rw [e]
    · rw [rowsU, List.getElem?_append_left (by rw [rowsU_len]; omega)]
      exact ih (by omega)
theorem rowsU_at {l : List Ent} {i n : Nat} (hn : i < n) : (rowsU l n)[i]? = some (rowOf l (rowsU l i) (l[i]?.getD default).sources) := by
  rw [rowsU_get (show i < i + 1 by omega) hn, rowsU, List.getElem?_append_right (by rw [rowsU_len]; exact Nat.le_refl _)]
  simp [rowsU_len]
theorem rowOf_len (l : List Ent) (rows : List (List Bool)) (srcs : List RefD) : (rowOf l rows srcs).length = l.length := by simp [rowOf]
/-- entry i comes from entry j -/
def comes (l : List Ent) (i j : Nat) : Bool := ((rowsU l l.length)[i]?.getD [])[j]?.getD false
theorem comes_eq {l : List Ent} {i j : Nat} (hi : i < l.length) (hj : j < l.length) : comes l i j = l[i].sources.any (orgR l (rowsU l i) j) := by
  simp [comes, rowsU_at hi, rowOf, hj, hi]
theorem flat_bool (l : List Bool) : l.flatMap boolC = l.map Value.bool := by
  induction l with
  | nil => rfl
  | cons b l ih => simp [ih]
/-- out's heads up to i -/
structure Heads (l : List Ent) (V : World) (i : Nat) (hd : List Value) : Prop where
  len : hd.length = l.length
  ex : ∀ j, j < i → ∃ (r : Sl) (bs : List Bool), hd[j]? = some r.v ∧ (rowsU l i)[j]? = some bs ∧ Bools V r bs
theorem Heads.up {l : List Ent} {V V' : World} {i : Nat} {hd : List Value} (h : Heads l V i hd) (k : Sub V V') : Heads l V' i hd :=
  ⟨h.len, fun j hj => let ⟨r, bs, h1, h2, h3⟩ := h.ex j hj; ⟨r, bs, h1, h2, h3.up k⟩⟩
/-- half-way through a source's row -/
def midRow (l : List Ent) (old : List Bool) (k : Nat) (row : List Bool) (n : Nat) : List Bool := (List.range l.length).map fun q => old[q]?.getD false || decide (k = q) || (decide (q < n) && row[q]?.getD false)
theorem midRow_zero {l : List Ent} {old : List Bool} {k : Nat} {row : List Bool} (ho : old.length = l.length) (_hk : k < l.length) : old.set k true = midRow l old k row 0 := by
  apply List.ext_getElem
  · simp [midRow, ho]
  · intro q h1 h2
    simp only [List.length_set] at h1
    simp only [midRow, List.getElem_set, List.getElem_map, List.getElem_range, List.getElem?_eq_getElem h1, Option.getD_some]
    by_cases e : k = q <;> simp [e]
theorem midRow_succ {l : List Ent} {old : List Bool} {k : Nat} {row : List Bool} {n : Nat} (hn : n < l.length) : (midRow l old k row n).set n ((midRow l old k row n)[n]?.getD false || row[n]?.getD false) = midRow l old k row (n + 1) := by
  have hlen : (midRow l old k row n).length = l.length := by simp [midRow]
  apply List.ext_getElem
  · simp [midRow]
  · intro q h1 h2
    simp only [List.length_set, hlen] at h1
    simp only [List.getElem_set]
    by_cases e : n = q
    · subst e
      simp [midRow, hn]
    · rw [if_neg e]
      simp only [midRow, List.getElem_map, List.getElem_range]
      congr 2
      by_cases h : q < n <;> simp [h] <;> omega
theorem midRow_all {l : List Ent} {rows : List (List Bool)} {srcs : List RefD} {r : RefD} {k : Nat} {row : List Bool} (hr : place l r = some k) (hrow : rows[k]? = some row) : midRow l (rowOf l rows srcs) k row l.length = rowOf l rows (srcs ++ [r]) := by
  apply List.ext_getElem
  · simp [midRow, rowOf]
  · intro q h1 h2
    have hq : q < l.length := by simpa [midRow] using h1
    simp [midRow, rowOf, hq, orgR, hr, hrow, Bool.or_assoc]
section
variable {V W : World}
set_option maxRecDepth 100000 in
set_option maxHeartbeats 4000000 in
theorem origins_spec (hV : Sub V W) {s : Sl} {l : List Ent} (hs : Ents V s l) (hc : (catFault l).1 = 0) : Ret Tryz.prog 73 [catV s].toArray W fun v w' => ∃ (V' : World) (r : Sl) (hd : List Value), Sub V V' ∧ Rel W V [] V' w' ∧ v = r.v ∧ r.len = l.length ∧ Cells V' r.a hd ∧ Heads l V' l.length hd := by
  have H := Rel.start hV
  have hlen := hs.len
  obtain ⟨hc0, h60, hent, hcyc⟩ := catFault_zero hc
  refine cal_of_vc tabOk Tryz.func73 rfl (by kernel_rfl) 86 rfl (by simp) [0, 1, 2, 3, 4, 5, 6, 8, 9, 10, 11, 12, 21, 22, 23, 24, 36, 37, 38, 39, 49, 59, 60, 61, 62] ?_
  ((repeat ((conv => whnf); first | refine an ?_ | refine H.ce ?_ | refine H.db ?_ | refine ea ?_ | (refine H.st ?_; (conv => whnf); clear H; intro w H) | refine condT fun _ => ?_ | refine condF fun _ => ?_ | refine condNT fun _ => ?_ | refine condNF fun _ => ?_ | refine H.da (hc1 _ _ (by rfl)) ?_ | refine H.datw hc1 (by rfl) ?_ | refine H.datl hc1 (by rfl) ?_ | refine H.da (hc2 _ _ (by rfl)) ?_ | refine H.datw hc2 (by rfl) ?_ | refine H.datl hc2 (by rfl) ?_ | refine H.da (hc3 _ _ (by rfl)) ?_ | refine H.datw hc3 (by rfl) ?_ | refine H.datl hc3 (by rfl) ?_ | refine H.lw ?_ | refine H.ll ?_)); (conv => whnf))
  ((first | refine Rel.nwD H ?_ | refine Rel.nw H ?_); clear H; intro w b1 H)
  ((repeat ((conv => whnf); first | refine an ?_ | ((first | refine H.nwD ?_ | refine H.nw ?_); clear H; intro w _ H) | refine H.ce ?_ | refine H.db ?_ | refine ea ?_ | (refine H.st ?_; (conv => whnf); clear H; intro w H) | refine condT fun _ => ?_ | refine condF fun _ => ?_ | refine condNT fun _ => ?_ | refine condNF fun _ => ?_ | refine H.da (hc1 _ _ (by rfl)) ?_ | refine H.datw hc1 (by rfl) ?_ | refine H.datl hc1 (by rfl) ?_ | refine H.da (hc2 _ _ (by rfl)) ?_ | refine H.datw hc2 (by rfl) ?_ | refine H.datl hc2 (by rfl) ?_ | refine H.da (hc3 _ _ (by rfl)) ?_ | refine H.datw hc3 (by rfl) ?_ | refine H.datl hc3 (by rfl) ?_ | refine H.lw ?_ | refine H.ll ?_)); (conv => whnf))
  refine (positions_spec H.data hs (by omega) (apart_of hent)).use ?_
  rintro v w ⟨bm, es, c, rfl, hm, K⟩
  replace H := H.call K
  ((repeat ((conv => whnf); first | refine an ?_ | ((first | refine H.nwD ?_ | refine H.nw ?_); clear H; intro w _ H) | refine H.ce ?_ | refine H.db ?_ | refine ea ?_ | (refine H.st ?_; (conv => whnf); clear H; intro w H) | refine condT fun _ => ?_ | refine condF fun _ => ?_ | refine condNT fun _ => ?_ | refine condNF fun _ => ?_ | refine H.da (hc1 _ _ (by rfl)) ?_ | refine H.datw hc1 (by rfl) ?_ | refine H.datl hc1 (by rfl) ?_ | refine H.da (hc2 _ _ (by rfl)) ?_ | refine H.datw hc2 (by rfl) ?_ | refine H.datl hc2 (by rfl) ?_ | refine H.da (hc3 _ _ (by rfl)) ?_ | refine H.datw hc3 (by rfl) ?_ | refine H.datl hc3 (by rfl) ?_ | refine H.lw ?_ | refine H.ll ?_)); (conv => whnf))
  refine sem_make tabOk rfl rfl rfl rfl rfl rfl (by omega) (by simp; omega) (by omega) fun w b4 hn => ?_
  replace H := H.newBlk hn
  clear hn
  rw [show ((s.len : Nat) : Int).toNat = l.length by omega] at H ⊢
  ((repeat ((conv => whnf); first | refine an ?_ | ((first | refine H.nwD ?_ | refine H.nw ?_); clear H; intro w _ H) | refine H.ce ?_ | refine H.db ?_ | refine ea ?_ | (refine H.st ?_; (conv => whnf); clear H; intro w H) | refine condT fun _ => ?_ | refine condF fun _ => ?_ | refine condNT fun _ => ?_ | refine condNF fun _ => ?_ | refine H.da (hc1 _ _ (by rfl)) ?_ | refine H.datw hc1 (by rfl) ?_ | refine H.datl hc1 (by rfl) ?_ | refine H.da (hc2 _ _ (by rfl)) ?_ | refine H.datw hc2 (by rfl) ?_ | refine H.datl hc2 (by rfl) ?_ | refine H.da (hc3 _ _ (by rfl)) ?_ | refine H.datw hc3 (by rfl) ?_ | refine H.datl hc3 (by rfl) ?_ | refine H.lw ?_ | refine H.ll ?_)); (conv => whnf))
  refine loop_inv (S := Nat × List Value) tabOk [1, 3, 4, 21, 22] (fun k => [(23, iv k.1)]) (fun k w' => k.1 ≤ l.length ∧ ∃ V1, Sub V V1 ∧ Heads l V1 k.1 k.2 ∧ Rel W V [.blk b4 k.2 79, .obj bm (.map es c), .blk b1 [s.v] 24] V1 w') (fun k _ => l.length - k.1) (0, List.replicate l.length (.slice none 0 0)) ?_
  (conv => whnf)
  refine ⟨(by repeat (first | exact trivial | refine ⟨rfl, ?_⟩)), ⟨by omega, V, Sub.refl _, ⟨by simp, fun j hj => by omega⟩, H⟩, ?_⟩
  clear H
  rintro ⟨i, hd⟩ w ⟨hi, V1, hV1, hh, H⟩
  dsimp only at hi hh H
  by_cases hlt : i < l.length
  rotate_left
  · obtain rfl : i = l.length := by omega
    ((repeat ((conv => whnf); first | refine an ?_ | ((first | refine H.nwD ?_ | refine H.nw ?_); clear H; intro w _ H) | refine H.ce ?_ | refine H.db ?_ | refine ea ?_ | (refine H.st ?_; (conv => whnf); clear H; intro w H) | refine condT fun _ => ?_ | refine condF fun _ => ?_ | refine condNT fun _ => ?_ | refine condNF fun _ => ?_ | refine H.da (hc1 _ _ (by rfl)) ?_ | refine H.datw hc1 (by rfl) ?_ | refine H.datl hc1 (by rfl) ?_ | refine H.da (hc2 _ _ (by rfl)) ?_ | refine H.datw hc2 (by rfl) ?_ | refine H.datl hc2 (by rfl) ?_ | refine H.da (hc3 _ _ (by rfl)) ?_ | refine H.datw hc3 (by rfl) ?_ | refine H.datl hc3 (by rfl) ?_ | refine H.lw ?_ | refine H.ll ?_)); (conv => whnf))
    obtain ⟨V3, hV3, H, hb⟩ := Rel.freezeBlk H
    exact ⟨V3, ⟨some ⟨b4, 0, none⟩, l.length, l.length⟩, hd, hV1.trans hV3, H.sx, rfl, rfl, hb.cells, hh.up hV3⟩
  obtain ⟨hp, eh, hok, hc1⟩ := (hs.up hV1).get hlt
  have hso := hok.so.len
  have hsl := (groups_le hent hlt).2
  have hhl := hh.len
  ((repeat ((conv => whnf); first | refine an ?_ | refine H.ce ?_ | refine H.db ?_ | refine ea ?_ | (refine H.st ?_; (conv => whnf); clear H; intro w H) | refine condT fun _ => ?_ | refine condF fun _ => ?_ | refine condNT fun _ => ?_ | refine condNF fun _ => ?_ | refine H.da (hc1 _ _ (by rfl)) ?_ | refine H.datw hc1 (by rfl) ?_ | refine H.datl hc1 (by rfl) ?_ | refine H.da (hc2 _ _ (by rfl)) ?_ | refine H.datw hc2 (by rfl) ?_ | refine H.datl hc2 (by rfl) ?_ | refine H.da (hc3 _ _ (by rfl)) ?_ | refine H.datw hc3 (by rfl) ?_ | refine H.datl hc3 (by rfl) ?_ | refine H.lw ?_ | refine H.ll ?_)); (conv => whnf))
  ((first | refine Rel.nwD H ?_ | refine Rel.nw H ?_); clear H; intro w b6 H)
  ((repeat ((conv => whnf); first | refine an ?_ | ((first | refine H.nwD ?_ | refine H.nw ?_); clear H; intro w _ H) | refine H.ce ?_ | refine H.db ?_ | refine ea ?_ | (refine H.st ?_; (conv => whnf); clear H; intro w H) | refine condT fun _ => ?_ | refine condF fun _ => ?_ | refine condNT fun _ => ?_ | refine condNF fun _ => ?_ | refine H.da (hc1 _ _ (by rfl)) ?_ | refine H.datw hc1 (by rfl) ?_ | refine H.datl hc1 (by rfl) ?_ | refine H.da (hc2 _ _ (by rfl)) ?_ | refine H.datw hc2 (by rfl) ?_ | refine H.datl hc2 (by rfl) ?_ | refine H.da (hc3 _ _ (by rfl)) ?_ | refine H.datw hc3 (by rfl) ?_ | refine H.datl hc3 (by rfl) ?_ | refine H.lw ?_ | refine H.ll ?_)); (conv => whnf))
  refine sem_make tabOk rfl rfl rfl rfl rfl rfl (by omega) (by simp; omega) (by omega) fun w bi hn => ?_
  replace H := H.newBlk hn
  clear hn
  rw [show ((s.len : Nat) : Int).toNat = l.length by omega] at H ⊢
  ((repeat ((conv => whnf); first | refine an ?_ | ((first | refine H.nwD ?_ | refine H.nw ?_); clear H; intro w _ H) | refine H.ce ?_ | refine H.db ?_ | refine ea ?_ | (refine H.st ?_; (conv => whnf); clear H; intro w H) | refine condT fun _ => ?_ | refine condF fun _ => ?_ | refine condNT fun _ => ?_ | refine condNF fun _ => ?_ | refine H.da (hc1 _ _ (by rfl)) ?_ | refine H.datw hc1 (by rfl) ?_ | refine H.datl hc1 (by rfl) ?_ | refine H.da (hc2 _ _ (by rfl)) ?_ | refine H.datw hc2 (by rfl) ?_ | refine H.datl hc2 (by rfl) ?_ | refine H.da (hc3 _ _ (by rfl)) ?_ | refine H.datw hc3 (by rfl) ?_ | refine H.datl hc3 (by rfl) ?_ | refine H.lw ?_ | refine H.ll ?_)); (conv => whnf))
  refine Rel.storeSet (i := 2) H rfl i (by simp [placeOf, aoff]) (by omega) ?_
  clear H
  intro w H
  simp only [List.set_cons_succ, List.set_cons_zero] at H
  obtain ⟨row, hrow⟩ : ∃ row : Sl, row = ⟨some ⟨bi, 0, none⟩, l.length, l.length⟩ := ⟨_, rfl⟩
  have hrv : row.v = .slice (some ⟨bi, 0, none⟩) l.length l.length := by rw [hrow]
  obtain ⟨hd', hhd'⟩ : ∃ hd' : List Value, hd' = hd.set i row.v := ⟨_, rfl⟩
  rw [← hrv, ← hhd'] at H
  have hd'i : hd'[i]? = some row.v := by rw [hhd']; simp [hhl, hlt]
  have hd'o : ∀ j, j ≠ i → hd'[j]? = hd[j]? := fun j hj => by rw [hhd']; simp [Ne.symm hj]
  have hd'l : hd'.length = l.length := by rw [hhd']; simp [hhl]
  ((repeat ((conv => whnf); first | refine an ?_ | ((first | refine H.nwD ?_ | refine H.nw ?_); clear H; intro w _ H) | refine H.ce ?_ | refine H.db ?_ | refine ea ?_ | (refine H.st ?_; (conv => whnf); clear H; intro w H) | refine condT fun _ => ?_ | refine condF fun _ => ?_ | refine condNT fun _ => ?_ | refine condNF fun _ => ?_ | refine H.da (hc1 _ _ (by rfl)) ?_ | refine H.datw hc1 (by rfl) ?_ | refine H.datl hc1 (by rfl) ?_ | refine H.da (hc2 _ _ (by rfl)) ?_ | refine H.datw hc2 (by rfl) ?_ | refine H.datl hc2 (by rfl) ?_ | refine H.da (hc3 _ _ (by rfl)) ?_ | refine H.datw hc3 (by rfl) ?_ | refine H.datl hc3 (by rfl) ?_ | refine H.lw ?_ | refine H.ll ?_)); (conv => whnf))
  refine SemC.cut 2 (fun _ : Unit => [(1, .pointer (some ⟨b1, 0, none⟩)), (3, .map (some bm)), (4, .slice (some ⟨b4, 0, none⟩) l.length l.length), (21, s.v), (22, iv (s.len : Nat)), (23, iv i)]) (fun _ w' => Rel W V [.blk bi ((rowOf l (rowsU l i) l[i].sources).map .bool) 4, .blk b6 (entC l[i] eh) 61, .blk b4 hd' 79, .obj bm (.map es c), .blk b1 [s.v] 24] V1 w') ?_ ?_
  rotate_left
  · rintro _ w H
    obtain ⟨V2, hV2, H, hb⟩ := Rel.freezeBlk H
    have hbo : Bools V2 row (rowOf l (rowsU l i) l[i].sources) := by
      refine ⟨by rw [hrow]; simp [rowOf_len], by rw [hrow]; exact Nat.le_refl _, ?_⟩
      have := hb.cells
      rw [hrow, show (rowOf l (rowsU l i) l[i].sources).flatMap boolC = (rowOf l (rowsU l i) l[i].sources).map .bool from flat_bool _]
      exact this
    ((repeat ((conv => whnf); first | refine an ?_ | ((first | refine H.nwD ?_ | refine H.nw ?_); clear H; intro w _ H) | refine H.ce ?_ | refine H.db ?_ | refine ea ?_ | (refine H.st ?_; (conv => whnf); clear H; intro w H) | refine condT fun _ => ?_ | refine condF fun _ => ?_ | refine condNT fun _ => ?_ | refine condNF fun _ => ?_ | refine H.da (hc1 _ _ (by rfl)) ?_ | refine H.datw hc1 (by rfl) ?_ | refine H.datl hc1 (by rfl) ?_ | refine H.da (hc2 _ _ (by rfl)) ?_ | refine H.datw hc2 (by rfl) ?_ | refine H.datl hc2 (by rfl) ?_ | refine H.da (hc3 _ _ (by rfl)) ?_ | refine H.datw hc3 (by rfl) ?_ | refine H.datl hc3 (by rfl) ?_ | refine H.lw ?_ | refine H.ll ?_)); (conv => whnf))
    refine ⟨(by repeat (first | exact trivial | refine ⟨rfl, ?_⟩)), (i + 1, hd'), (by repeat (first | exact trivial | refine ⟨rfl, ?_⟩)), ⟨by omega, V2, hV1.trans hV2, ⟨hd'l, fun j hj => ?_⟩, H.sx⟩, by omega⟩
    by_cases hji : j = i
    · subst hji
      exact ⟨row, _, hd'i, by rw [rowsU_at (by omega)]; simp [hlt], hbo⟩
    · obtain ⟨r, bs, g1, g2, g3⟩ := hh.ex j (by omega)
      exact ⟨r, bs, by rw [hd'o j hji]; exact g1, by rw [rowsU_get (show j < i by omega) (by omega)]; exact g2, g3.up hV2⟩
  refine loop_inv (S := Nat) tabOk [1, 3, 4, 5, 21, 22, 23, 36, 37] (fun m => [(38, iv m)]) (fun m w' => m ≤ l[i].sources.length ∧ Rel W V [.blk bi ((rowOf l (rowsU l i) (l[i].sources.take m)).map .bool) 4, .blk b6 (entC l[i] eh) 61, .blk b4 hd' 79, .obj bm (.map es c), .blk b1 [s.v] 24] V1 w') (fun m _ => l[i].sources.length - m) 0 ?_
  (conv => whnf)
  refine ⟨(by repeat (first | exact trivial | refine ⟨rfl, ?_⟩)), ⟨by omega, ?_⟩, ?_⟩
  · have e0 : (rowOf l (rowsU l i) (l[i].sources.take 0)).map Value.bool = List.replicate l.length (.bool false) := by
      simp only [rowOf, List.take_zero, List.any_nil, List.map_map]
      rw [List.eq_replicate_iff]
      simp
    rw [e0]
    exact H
  clear H
  rintro m w ⟨hm', H⟩
  by_cases hmlt : m < l[i].sources.length
  rotate_left
  · rw [List.take_of_length_le (by omega)] at H
    ((repeat ((conv => whnf); first | refine an ?_ | ((first | refine H.nwD ?_ | refine H.nw ?_); clear H; intro w _ H) | refine H.ce ?_ | refine H.db ?_ | refine ea ?_ | (refine H.st ?_; (conv => whnf); clear H; intro w H) | refine condT fun _ => ?_ | refine condF fun _ => ?_ | refine condNT fun _ => ?_ | refine condNF fun _ => ?_ | refine H.da (hc1 _ _ (by rfl)) ?_ | refine H.datw hc1 (by rfl) ?_ | refine H.datl hc1 (by rfl) ?_ | refine H.da (hc2 _ _ (by rfl)) ?_ | refine H.datw hc2 (by rfl) ?_ | refine H.datl hc2 (by rfl) ?_ | refine H.da (hc3 _ _ (by rfl)) ?_ | refine H.datw hc3 (by rfl) ?_ | refine H.datl hc3 (by rfl) ?_ | refine H.lw ?_ | refine H.ll ?_)); (conv => whnf))
    exact ⟨(), (by repeat (first | exact trivial | refine ⟨rfl, ?_⟩)), H⟩
  obtain ⟨hp2, hc2, hc2'⟩ := hok.so.get hmlt
  have htk := List.take_succ_eq_append_getElem hmlt
  ((repeat ((conv => whnf); first | refine an ?_ | refine H.ce ?_ | refine H.db ?_ | refine ea ?_ | (refine H.st ?_; (conv => whnf); clear H; intro w H) | refine condT fun _ => ?_ | refine condF fun _ => ?_ | refine condNT fun _ => ?_ | refine condNF fun _ => ?_ | refine H.da (hc1 _ _ (by rfl)) ?_ | refine H.datw hc1 (by rfl) ?_ | refine H.datl hc1 (by rfl) ?_ | refine H.da (hc2 _ _ (by rfl)) ?_ | refine H.datw hc2 (by rfl) ?_ | refine H.datl hc2 (by rfl) ?_ | refine H.da (hc3 _ _ (by rfl)) ?_ | refine H.datw hc3 (by rfl) ?_ | refine H.datl hc3 (by rfl) ?_ | refine H.lw ?_ | refine H.ll ?_)); (conv => whnf))
  ((first | refine Rel.nwD H ?_ | refine Rel.nw H ?_); clear H; intro w b8 H)
  ((repeat ((conv => whnf); first | refine an ?_ | ((first | refine H.nwD ?_ | refine H.nw ?_); clear H; intro w _ H) | refine H.ce ?_ | refine H.db ?_ | refine ea ?_ | (refine H.st ?_; (conv => whnf); clear H; intro w H) | refine condT fun _ => ?_ | refine condF fun _ => ?_ | refine condNT fun _ => ?_ | refine condNF fun _ => ?_ | refine H.da (hc1 _ _ (by rfl)) ?_ | refine H.datw hc1 (by rfl) ?_ | refine H.datl hc1 (by rfl) ?_ | refine H.da (hc2 _ _ (by rfl)) ?_ | refine H.datw hc2 (by rfl) ?_ | refine H.datl hc2 (by rfl) ?_ | refine H.da (hc3 _ _ (by rfl)) ?_ | refine H.datw hc3 (by rfl) ?_ | refine H.datl hc3 (by rfl) ?_ | refine H.lw ?_ | refine H.ll ?_)); (conv => whnf))
  refine Rel.lookupAt (r := l[i].sources[m]) (i := 4) H rfl hm ?_
  cases hpl : place l l[i].sources[m] with
  | none =>
    have e1 : rowOf l (rowsU l i) (l[i].sources.take (m + 1)) = rowOf l (rowsU l i) (l[i].sources.take m) := by
      rw [htk]
      simp only [rowOf, List.any_append, List.any_cons, List.any_nil, orgR, hpl, Bool.or_false]
    ((repeat ((conv => whnf); first | refine an ?_ | ((first | refine H.nwD ?_ | refine H.nw ?_); clear H; intro w _ H) | refine H.ce ?_ | refine H.db ?_ | refine ea ?_ | (refine H.st ?_; (conv => whnf); clear H; intro w H) | refine condT fun _ => ?_ | refine condF fun _ => ?_ | refine condNT fun _ => ?_ | refine condNF fun _ => ?_ | refine H.da (hc1 _ _ (by rfl)) ?_ | refine H.datw hc1 (by rfl) ?_ | refine H.datl hc1 (by rfl) ?_ | refine H.da (hc2 _ _ (by rfl)) ?_ | refine H.datw hc2 (by rfl) ?_ | refine H.datl hc2 (by rfl) ?_ | refine H.da (hc3 _ _ (by rfl)) ?_ | refine H.datw hc3 (by rfl) ?_ | refine H.datl hc3 (by rfl) ?_ | refine H.lw ?_ | refine H.ll ?_)); (conv => whnf))
    refine ⟨(by repeat (first | exact trivial | refine ⟨rfl, ?_⟩)), m + 1, (by repeat (first | exact trivial | refine ⟨rfl, ?_⟩)), ⟨by omega, ?_⟩, by omega⟩
    rw [e1]
    exact H.sx
  | some k =>
    have hki : k < i := by
      have h1 := hcyc i hlt
      simp only [cycleAt, List.getElem?_eq_getElem hlt, Option.getD_some] at h1
      have h2 := List.any_eq_false.1 h1 _ (List.getElem_mem hmlt)
      simp only [cycR, hpl, decide_eq_true_eq] at h2
      omega
    obtain ⟨r, bs, g1, g2, g3⟩ := hh.ex k hki
    have hbl : bs.length = l.length := by
      rw [rowsU_at hki] at g2
      cases g2
      exact rowOf_len _ _ _
    have hrl := g3.len
    have hol : (rowOf l (rowsU l i) (l[i].sources.take m)).length = l.length := rowOf_len _ _ _
    have c1 : w.cell? ⟨b4, 0 + ((i : Nat) : Int).toNat, none⟩ = some row.v := by
      rw [Nat.zero_add, Int.toNat_natCast]
      exact Rel.celAt H (i := 3) rfl hd'i
    rw [hrv] at c1
    have hgk : ((some k).getD 0) = k := rfl
    ((repeat ((conv => whnf); first | refine an ?_ | ((first | refine H.nwD ?_ | refine H.nw ?_); clear H; intro w _ H) | refine H.ce ?_ | refine H.db ?_ | refine ea ?_ | (refine H.st ?_; (conv => whnf); clear H; intro w H) | refine condT fun _ => ?_ | refine condF fun _ => ?_ | refine condNT fun _ => ?_ | refine condNF fun _ => ?_ | refine H.da (hc1 _ _ (by rfl)) ?_ | refine H.datw hc1 (by rfl) ?_ | refine H.datl hc1 (by rfl) ?_ | refine H.da (hc2 _ _ (by rfl)) ?_ | refine H.datw hc2 (by rfl) ?_ | refine H.datl hc2 (by rfl) ?_ | refine H.da (hc3 _ _ (by rfl)) ?_ | refine H.datw hc3 (by rfl) ?_ | refine H.datl hc3 (by rfl) ?_ | refine H.lw ?_ | refine H.ll ?_)); (conv => whnf))
    refine Rel.storeSet (i := 1) H rfl k (by simp [placeOf, aoff]) (by simp [hol]; omega) ?_
    clear H c1
    intro w H
    simp only [List.set_cons_succ, List.set_cons_zero, ← List.map_set] at H
    rw [midRow_zero (row := bs) hol (by omega)] at H
    have c2 : w.cell? ⟨b4, 0 + (((some k).getD 0 : Nat) : Int).toNat, none⟩ = some r.v := by
      rw [Nat.zero_add, Option.getD_some, Int.toNat_natCast]
      exact Rel.celAt H (i := 3) rfl (by rw [hd'o k (by omega)]; exact g1)
    ((repeat ((conv => whnf); first | refine an ?_ | ((first | refine H.nwD ?_ | refine H.nw ?_); clear H; intro w _ H) | refine H.ce ?_ | refine H.db ?_ | refine ea ?_ | (refine H.st ?_; (conv => whnf); clear H; intro w H) | refine condT fun _ => ?_ | refine condF fun _ => ?_ | refine condNT fun _ => ?_ | refine condNF fun _ => ?_ | refine H.da (hc1 _ _ (by rfl)) ?_ | refine H.datw hc1 (by rfl) ?_ | refine H.datl hc1 (by rfl) ?_ | refine H.da (hc2 _ _ (by rfl)) ?_ | refine H.datw hc2 (by rfl) ?_ | refine H.datl hc2 (by rfl) ?_ | refine H.da (hc3 _ _ (by rfl)) ?_ | refine H.datw hc3 (by rfl) ?_ | refine H.datl hc3 (by rfl) ?_ | refine H.lw ?_ | refine H.ll ?_)); (conv => whnf))
    clear c2
    refine SemC.cut 4 (fun _ : Unit => [(1, .pointer (some ⟨b1, 0, none⟩)), (3, .map (some bm)), (4, .slice (some ⟨b4, 0, none⟩) l.length l.length), (5, iv i), (21, s.v), (22, iv (s.len : Nat)), (23, iv i), (36, eh.so.v), (37, iv (eh.so.len : Nat)), (38, iv m)])
      (fun _ w' => Rel W V [.blk bi ((midRow l (rowOf l (rowsU l i) (l[i].sources.take m)) k bs l.length).map .bool) 4, .blk b6 (entC l[i] eh) 61, .blk b4 hd' 79, .obj bm (.map es c), .blk b1 [s.v] 24] V1 w') ?_ ?_
    rotate_left
    · rintro _ w H
      rw [midRow_all hpl g2, ← htk] at H
      ((repeat ((conv => whnf); first | refine an ?_ | ((first | refine H.nwD ?_ | refine H.nw ?_); clear H; intro w _ H) | refine H.ce ?_ | refine H.db ?_ | refine ea ?_ | (refine H.st ?_; (conv => whnf); clear H; intro w H) | refine condT fun _ => ?_ | refine condF fun _ => ?_ | refine condNT fun _ => ?_ | refine condNF fun _ => ?_ | refine H.da (hc1 _ _ (by rfl)) ?_ | refine H.datw hc1 (by rfl) ?_ | refine H.datl hc1 (by rfl) ?_ | refine H.da (hc2 _ _ (by rfl)) ?_ | refine H.datw hc2 (by rfl) ?_ | refine H.datl hc2 (by rfl) ?_ | refine H.da (hc3 _ _ (by rfl)) ?_ | refine H.datw hc3 (by rfl) ?_ | refine H.datl hc3 (by rfl) ?_ | refine H.lw ?_ | refine H.ll ?_)); (conv => whnf))
      exact ⟨(by repeat (first | exact trivial | refine ⟨rfl, ?_⟩)), m + 1, (by repeat (first | exact trivial | refine ⟨rfl, ?_⟩)), ⟨by omega, H⟩, by omega⟩
    refine loop_inv (S := Nat) tabOk [1, 3, 4, 5, 21, 22, 23, 36, 37, 38, 59, 60] (fun j => [(61, iv j)]) (fun j w' => j ≤ l.length ∧ Rel W V [.blk bi ((midRow l (rowOf l (rowsU l i) (l[i].sources.take m)) k bs j).map .bool) 4, .blk b6 (entC l[i] eh) 61, .blk b4 hd' 79, .obj bm (.map es c), .blk b1 [s.v] 24] V1 w') (fun j _ => l.length - j) 0 ?_
    (conv => whnf)
    refine ⟨(by repeat (first | exact trivial | refine ⟨rfl, ?_⟩)), ⟨by omega, H.sx⟩, ?_⟩
    clear H
    rintro j w ⟨hj, H⟩
    by_cases hjl : j < l.length
    rotate_left
    · obtain rfl : j = l.length := by omega
      ((repeat ((conv => whnf); first | refine an ?_ | ((first | refine H.nwD ?_ | refine H.nw ?_); clear H; intro w _ H) | refine H.ce ?_ | refine H.db ?_ | refine ea ?_ | (refine H.st ?_; (conv => whnf); clear H; intro w H) | refine condT fun _ => ?_ | refine condF fun _ => ?_ | refine condNT fun _ => ?_ | refine condNF fun _ => ?_ | refine H.da (hc1 _ _ (by rfl)) ?_ | refine H.datw hc1 (by rfl) ?_ | refine H.datl hc1 (by rfl) ?_ | refine H.da (hc2 _ _ (by rfl)) ?_ | refine H.datw hc2 (by rfl) ?_ | refine H.datl hc2 (by rfl) ?_ | refine H.da (hc3 _ _ (by rfl)) ?_ | refine H.datw hc3 (by rfl) ?_ | refine H.datl hc3 (by rfl) ?_ | refine H.lw ?_ | refine H.ll ?_)); (conv => whnf))
      exact ⟨(), (by repeat (first | exact trivial | refine ⟨rfl, ?_⟩)), H⟩
    obtain ⟨hp3, hc3⟩ := g3.get1 (g := Value.bool) (fun _ => rfl) (show j < bs.length by omega)
    have hml : (midRow l (rowOf l (rowsU l i) (l[i].sources.take m)) k bs j).length = l.length := by simp [midRow]
    have hms := midRow_succ (l := l) (old := rowOf l (rowsU l i) (l[i].sources.take m)) (k := k) (row := bs) hjl
    generalize midRow l (rowOf l (rowsU l i) (l[i].sources.take m)) k bs j = mid at H hml hms
    rw [List.getElem?_eq_getElem (show j < mid.length by omega), List.getElem?_eq_getElem (show j < bs.length by omega), Option.getD_some, Option.getD_some] at hms
    ((repeat ((conv => whnf); first | refine an ?_ | ((first | refine H.nwD ?_ | refine H.nw ?_); clear H; intro w _ H) | refine H.ce ?_ | refine H.db ?_ | refine ea ?_ | (refine H.st ?_; (conv => whnf); clear H; intro w H) | refine condT fun _ => ?_ | refine condF fun _ => ?_ | refine condNT fun _ => ?_ | refine condNF fun _ => ?_ | refine H.da (hc1 _ _ (by rfl)) ?_ | refine H.datw hc1 (by rfl) ?_ | refine H.datl hc1 (by rfl) ?_ | refine H.da (hc2 _ _ (by rfl)) ?_ | refine H.datw hc2 (by rfl) ?_ | refine H.datl hc2 (by rfl) ?_ | refine H.da (hc3 _ _ (by rfl)) ?_ | refine H.datw hc3 (by rfl) ?_ | refine H.datl hc3 (by rfl) ?_ | refine H.lw ?_ | refine H.ll ?_)); (conv => whnf))
    ((first | refine draw_vc (id := 16) tabOk mixed [] [0, 1, 2, 3, 4, 5, 6, 7, 8, 9, 10, 11, 12, 13, 14, 15, 16] (by kernel_rfl) ?_); intro w hdw; replace H := Rel.ext H hdw.ext)
    have c1 : w.cell? ⟨b4, 0 + ((i : Nat) : Int).toNat, none⟩ = some row.v := by
      rw [Nat.zero_add, Int.toNat_natCast]
      exact Rel.celAt H (i := 2) rfl hd'i
    rw [hrv] at c1
    have c2 : w.cell? ⟨bi, 0 + ((j : Nat) : Int).toNat, none⟩ = some (.bool (mid[j]'(by omega))) := by
      rw [Nat.zero_add, Int.toNat_natCast]
      exact Rel.celAt H (i := 0) rfl (by simp [show j < mid.length by omega])
    ((repeat ((conv => whnf); first | refine an ?_ | ((first | refine H.nwD ?_ | refine H.nw ?_); clear H; intro w _ H) | refine H.ce ?_ | refine H.db ?_ | refine ea ?_ | (refine H.st ?_; (conv => whnf); clear H; intro w H) | refine condT fun _ => ?_ | refine condF fun _ => ?_ | refine condNT fun _ => ?_ | refine condNF fun _ => ?_ | refine H.da (hc1 _ _ (by rfl)) ?_ | refine H.datw hc1 (by rfl) ?_ | refine H.datl hc1 (by rfl) ?_ | refine H.da (hc2 _ _ (by rfl)) ?_ | refine H.datw hc2 (by rfl) ?_ | refine H.datl hc2 (by rfl) ?_ | refine H.da (hc3 _ _ (by rfl)) ?_ | refine H.datw hc3 (by rfl) ?_ | refine H.datl hc3 (by rfl) ?_ | refine H.lw ?_ | refine H.ll ?_)); (conv => whnf))
    refine condG_split (fun h1 => ?_) (fun h1 => ?_)
    · rw [h1] at hms
      ((repeat ((conv => whnf); first | refine an ?_ | ((first | refine H.nwD ?_ | refine H.nw ?_); clear H; intro w _ H) | refine H.ce ?_ | refine H.db ?_ | refine ea ?_ | (refine H.st ?_; (conv => whnf); clear H; intro w H) | refine condT fun _ => ?_ | refine condF fun _ => ?_ | refine condNT fun _ => ?_ | refine condNF fun _ => ?_ | refine H.da (hc1 _ _ (by rfl)) ?_ | refine H.datw hc1 (by rfl) ?_ | refine H.datl hc1 (by rfl) ?_ | refine H.da (hc2 _ _ (by rfl)) ?_ | refine H.datw hc2 (by rfl) ?_ | refine H.datl hc2 (by rfl) ?_ | refine H.da (hc3 _ _ (by rfl)) ?_ | refine H.datw hc3 (by rfl) ?_ | refine H.datl hc3 (by rfl) ?_ | refine H.lw ?_ | refine H.ll ?_)); (conv => whnf))
      refine Rel.storeSet (i := 0) H rfl j (by simp [placeOf, aoff]) (by simp [hml]; omega) ?_
      clear H c1 c2
      intro w H
      simp only [List.set_cons_zero, ← List.map_set] at H
      rw [Bool.true_or] at hms
      rw [hms] at H
      ((repeat ((conv => whnf); first | refine an ?_ | ((first | refine H.nwD ?_ | refine H.nw ?_); clear H; intro w _ H) | refine H.ce ?_ | refine H.db ?_ | refine ea ?_ | (refine H.st ?_; (conv => whnf); clear H; intro w H) | refine condT fun _ => ?_ | refine condF fun _ => ?_ | refine condNT fun _ => ?_ | refine condNF fun _ => ?_ | refine H.da (hc1 _ _ (by rfl)) ?_ | refine H.datw hc1 (by rfl) ?_ | refine H.datl hc1 (by rfl) ?_ | refine H.da (hc2 _ _ (by rfl)) ?_ | refine H.datw hc2 (by rfl) ?_ | refine H.datl hc2 (by rfl) ?_ | refine H.da (hc3 _ _ (by rfl)) ?_ | refine H.datw hc3 (by rfl) ?_ | refine H.datl hc3 (by rfl) ?_ | refine H.lw ?_ | refine H.ll ?_)); (conv => whnf))
      exact ⟨(by repeat (first | exact trivial | refine ⟨rfl, ?_⟩)), j + 1, (by repeat (first | exact trivial | refine ⟨rfl, ?_⟩)), ⟨by omega, H⟩, by omega⟩
    · rw [h1] at hms
      ((repeat ((conv => whnf); first | refine an ?_ | ((first | refine H.nwD ?_ | refine H.nw ?_); clear H; intro w _ H) | refine H.ce ?_ | refine H.db ?_ | refine ea ?_ | (refine H.st ?_; (conv => whnf); clear H; intro w H) | refine condT fun _ => ?_ | refine condF fun _ => ?_ | refine condNT fun _ => ?_ | refine condNF fun _ => ?_ | refine H.da (hc1 _ _ (by rfl)) ?_ | refine H.datw hc1 (by rfl) ?_ | refine H.datl hc1 (by rfl) ?_ | refine H.da (hc2 _ _ (by rfl)) ?_ | refine H.datw hc2 (by rfl) ?_ | refine H.datl hc2 (by rfl) ?_ | refine H.da (hc3 _ _ (by rfl)) ?_ | refine H.datw hc3 (by rfl) ?_ | refine H.datl hc3 (by rfl) ?_ | refine H.lw ?_ | refine H.ll ?_)); (conv => whnf))
      refine Rel.storeSet (i := 0) H rfl j (by simp [placeOf, aoff]) (by simp [hml]; omega) ?_
      clear H c1 c2
      intro w H
      simp only [List.set_cons_zero, ← List.map_set] at H
      rw [Bool.false_or] at hms
      rw [hms] at H
      ((repeat ((conv => whnf); first | refine an ?_ | ((first | refine H.nwD ?_ | refine H.nw ?_); clear H; intro w _ H) | refine H.ce ?_ | refine H.db ?_ | refine ea ?_ | (refine H.st ?_; (conv => whnf); clear H; intro w H) | refine condT fun _ => ?_ | refine condF fun _ => ?_ | refine condNT fun _ => ?_ | refine condNF fun _ => ?_ | refine H.da (hc1 _ _ (by rfl)) ?_ | refine H.datw hc1 (by rfl) ?_ | refine H.datl hc1 (by rfl) ?_ | refine H.da (hc2 _ _ (by rfl)) ?_ | refine H.datw hc2 (by rfl) ?_ | refine H.datl hc2 (by rfl) ?_ | refine H.da (hc3 _ _ (by rfl)) ?_ | refine H.datw hc3 (by rfl) ?_ | refine H.datl hc3 (by rfl) ?_ | refine H.lw ?_ | refine H.ll ?_)); (conv => whnf))
      exact ⟨(by repeat (first | exact trivial | refine ⟨rfl, ?_⟩)), j + 1, (by repeat (first | exact trivial | refine ⟨rfl, ?_⟩)), ⟨by omega, H⟩, by omega⟩
end
end Go.Proofs.YtlhgmigoncmcaaaGreat
