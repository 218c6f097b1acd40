/-
  Reading a catalogue: texts, digests, numbers; the reader.
-/
import Derived.Test.YtlhgmigoncmcaaaGreatWirE
import Derived.Test.YtlhgmigoncmcaaaGreatDecP
import Derived.Laws.Cover3
import Derived.Laws.Tables
import Derived.Test.YtlhgmigoncmcaaaGreatVcZ
namespace Go.Proofs.YtlhgmigoncmcaaaGreat
open Go Go.RowKit

abbrev eqR {α : Type} (_ : World) (x y : α) : Prop := x = y
theorem Reads.up {α β : Type} {V V' : World} {g : FuncId} {cap : List Value} {s : Sl} {A : β → Value} {R : World → β → α → Prop} {p : Nat} {res : Got α} (h : Reads V g cap s A R p res) (hs : Sub V V') : Reads V' g cap s A R p res :=
  fun V1 W1 h1 h2 => h V1 W1 (hs.trans h1) h2
section
variable {V W : World} {s : Sl} {l : List UInt8}
theorem number_reads (hs : Byt V s l) (hl : l.length ≤ 1099511627776) {p : Nat} (hp : p ≤ l.length) : Reads V 53 [] s iv eqR p (numAt l p) := by
  intro V1 W1 h1 h2
  refine (readNumber_spec h2 (hs.up h1) hl hp).mono ?_
  rintro v w ⟨rfl, K⟩
  cases hn : numAt l p with
  | bad c i => exact ⟨V1, 0, 0, c, i, Sub.refl _, K, rfl, rfl, rfl, numAt_ne hn⟩
  | ok x q => exact ⟨V1, x, q, 0, 0, Sub.refl _, K, rfl, rfl, rfl, rfl, rfl⟩
set_option maxRecDepth 100000 in
theorem text_reads (hs : Byt V s l) (hl : l.length ≤ 1099511627776) {p : Nat} (hp : p ≤ l.length) : Reads V 58 [] s str eqR p (chunkAt l p) := by
  intro V1 W1 h1 h2
  have H := Rel.start h2
  refine cal_of_vc tabOk Tryz.func58 rfl (by kernel_rfl) 20 rfl (by simp) [0, 1, 4, 5, 6, 7, 8] ?_
  ((repeat ((conv => whnf); first | refine an ?_ | refine H.ce ?_ | refine H.db ?_ | refine ea ?_ | (refine H.st ?_; (conv => whnf); clear H; intro w H) | refine condT fun _ => ?_ | refine condF fun _ => ?_ | refine condNT fun _ => ?_ | refine condNF fun _ => ?_ | refine H.da (hc1 _ _ (by rfl)) ?_ | refine H.datw hc1 (by rfl) ?_ | refine H.datl hc1 (by rfl) ?_ | refine H.lw ?_ | refine H.ll ?_)); (conv => whnf))
  ((first | refine Rel.nwD H ?_ | refine Rel.nw H ?_); clear H; intro w b6 H)
  ((repeat ((conv => whnf); first | refine an ?_ | ((first | refine H.nwD ?_ | refine H.nw ?_); clear H; intro w _ H) | refine H.ce ?_ | refine H.db ?_ | refine ea ?_ | (refine H.st ?_; (conv => whnf); clear H; intro w H) | refine condT fun _ => ?_ | refine condF fun _ => ?_ | refine condNT fun _ => ?_ | refine condNF fun _ => ?_ | refine H.da (hc1 _ _ (by rfl)) ?_ | refine H.datw hc1 (by rfl) ?_ | refine H.datl hc1 (by rfl) ?_ | refine H.lw ?_ | refine H.ll ?_)); (conv => whnf))
  refine (readChunk_spec H.data (hs.up h1) hl hp).use ?_
  rintro v w ⟨V2, x, ys, n, c, i, hV2, K, rfl, hxy, hres⟩
  replace H := H.call K
  simp only [List.nil_append] at H
  ((repeat ((conv => whnf); first | refine an ?_ | refine H.ce ?_ | refine H.db ?_ | refine ea ?_ | (refine H.st ?_; (conv => whnf); clear H; intro w H) | refine condT fun _ => ?_ | refine condF fun _ => ?_ | refine condNT fun _ => ?_ | refine condNF fun _ => ?_ | refine H.da (hc1 _ _ (by rfl)) ?_ | refine H.datw hc1 (by rfl) ?_ | refine H.datl hc1 (by rfl) ?_ | refine H.lw ?_ | refine H.ll ?_)); (conv => whnf))
  ((first | refine Rel.nwD H ?_ | refine Rel.nw H ?_); clear H; intro w b8 H)
  ((repeat ((conv => whnf); first | refine an ?_ | ((first | refine H.nwD ?_ | refine H.nw ?_); clear H; intro w _ H) | refine H.ce ?_ | refine H.db ?_ | refine ea ?_ | (refine H.st ?_; (conv => whnf); clear H; intro w H) | refine condT fun _ => ?_ | refine condF fun _ => ?_ | refine condNT fun _ => ?_ | refine condNF fun _ => ?_ | refine H.da (hc1 _ _ (by rfl)) ?_ | refine H.datw hc1 (by rfl) ?_ | refine H.datl hc1 (by rfl) ?_ | refine H.lw ?_ | refine H.ll ?_)); (conv => whnf))
  have hxl := hxy.len
  ((first | refine draw_vc (id := 2) tabOk mixed [] [0, 1, 2, 3, 4, 5, 6] (by kernel_rfl) ?_); intro w hdw; replace H := Rel.ext H hdw.ext)
  have hcx : Cells w x.a (ys.map bv) := byC_map ys ▸ (hxy.up H.data).cells
  ((repeat ((conv => whnf); first | refine an ?_ | ((first | refine H.nwD ?_ | refine H.nw ?_); clear H; intro w _ H) | refine H.ce ?_ | refine H.db ?_ | refine ea ?_ | (refine H.st ?_; (conv => whnf); clear H; intro w H) | refine condT fun _ => ?_ | refine condF fun _ => ?_ | refine condNT fun _ => ?_ | refine condNF fun _ => ?_ | refine H.da (hc1 _ _ (by rfl)) ?_ | refine H.datw hc1 (by rfl) ?_ | refine H.datl hc1 (by rfl) ?_ | refine H.lw ?_ | refine H.ll ?_)); (conv => whnf))
  refine ⟨V2, ys, n, c, i, hV2, H.sx, rfl, ?_⟩
  cases hn : chunkAt l p <;> (rw [hn] at hres; exact hres)
set_option maxRecDepth 100000 in
theorem dig_reads (hs : Byt V s l) (hl : l.length ≤ 1099511627776) {p : Nat} (hp : p ≤ l.length) : Reads V 60 [] s (fun d => .agg (digC d).toArray) eqR p (digAt l p) := by
  intro V1 W1 h1 h2
  have H := Rel.start h2
  have hs1 := hs.up h1
  have hlen := hs1.len
  have hcap := hs1.cap
  refine cal_of_vc tabOk Tryz.func60 rfl (by kernel_rfl) 26 rfl (by simp) [0, 1, 4, 5, 6, 12] ?_
  ((repeat ((conv => whnf); first | refine an ?_ | refine H.ce ?_ | refine H.db ?_ | refine ea ?_ | (refine H.st ?_; (conv => whnf); clear H; intro w H) | refine condT fun _ => ?_ | refine condF fun _ => ?_ | refine condNT fun _ => ?_ | refine condNF fun _ => ?_ | refine H.da (hc1 _ _ (by rfl)) ?_ | refine H.datw hc1 (by rfl) ?_ | refine H.datl hc1 (by rfl) ?_ | refine H.lw ?_ | refine H.ll ?_)); (conv => whnf))
  ((first | refine Rel.nwD H ?_ | refine Rel.nw H ?_); clear H; intro w b4 H)
  ((repeat ((conv => whnf); first | refine an ?_ | refine H.ce ?_ | refine H.db ?_ | refine ea ?_ | (refine H.st ?_; (conv => whnf); clear H; intro w H) | refine condT fun _ => ?_ | refine condF fun _ => ?_ | refine condNT fun _ => ?_ | refine condNF fun _ => ?_ | refine H.da (hc1 _ _ (by rfl)) ?_ | refine H.datw hc1 (by rfl) ?_ | refine H.datl hc1 (by rfl) ?_ | refine H.lw ?_ | refine H.ll ?_)); (conv => whnf))
  ((first | refine Rel.nwD H ?_ | refine Rel.nw H ?_); clear H; intro w b6 H)
  ((repeat ((conv => whnf); first | refine an ?_ | refine H.ce ?_ | refine H.db ?_ | refine ea ?_ | (refine H.st ?_; (conv => whnf); clear H; intro w H) | refine condT fun _ => ?_ | refine condF fun _ => ?_ | refine condNT fun _ => ?_ | refine condNF fun _ => ?_ | refine H.da (hc1 _ _ (by rfl)) ?_ | refine H.datw hc1 (by rfl) ?_ | refine H.datl hc1 (by rfl) ?_ | refine H.lw ?_ | refine H.ll ?_)); (conv => whnf))
  ((first | refine Rel.nwD H ?_ | refine Rel.nw H ?_); clear H; intro w b7 H)
  by_cases hb : l.length < p + 32
  · have hr : digAt l p = .bad 15 p := by rw [digAt, if_pos hb]
    rw [hr]
    ((repeat ((conv => whnf); first | refine an ?_ | ((first | refine H.nwD ?_ | refine H.nw ?_); clear H; intro w _ H) | refine H.ce ?_ | refine H.db ?_ | refine ea ?_ | (refine H.st ?_; (conv => whnf); clear H; intro w H) | refine condT fun _ => ?_ | refine condF fun _ => ?_ | refine condNT fun _ => ?_ | refine condNF fun _ => ?_ | refine H.da (hc1 _ _ (by rfl)) ?_ | refine H.datw hc1 (by rfl) ?_ | refine H.datl hc1 (by rfl) ?_ | refine H.lw ?_ | refine H.ll ?_)); (conv => whnf))
    refine .of (run_build w 56 #[] (digC fun _ => 0).toArray (by kernel_rfl)) ?_
    ((repeat ((conv => whnf); first | refine an ?_ | ((first | refine H.nwD ?_ | refine H.nw ?_); clear H; intro w _ H) | refine H.ce ?_ | refine H.db ?_ | refine ea ?_ | (refine H.st ?_; (conv => whnf); clear H; intro w H) | refine condT fun _ => ?_ | refine condF fun _ => ?_ | refine condNT fun _ => ?_ | refine condNF fun _ => ?_ | refine H.da (hc1 _ _ (by rfl)) ?_ | refine H.datw hc1 (by rfl) ?_ | refine H.datl hc1 (by rfl) ?_ | refine H.lw ?_ | refine H.ll ?_)); (conv => whnf))
    refine (fault_cat H.data 15 p).use ?_
    rintro v w ⟨rfl, K⟩
    replace H := H.call K
    simp only [List.nil_append] at H
    ((repeat ((conv => whnf); first | refine an ?_ | ((first | refine H.nwD ?_ | refine H.nw ?_); clear H; intro w _ H) | refine H.ce ?_ | refine H.db ?_ | refine ea ?_ | (refine H.st ?_; (conv => whnf); clear H; intro w H) | refine condT fun _ => ?_ | refine condF fun _ => ?_ | refine condNT fun _ => ?_ | refine condNF fun _ => ?_ | refine H.da (hc1 _ _ (by rfl)) ?_ | refine H.datw hc1 (by rfl) ?_ | refine H.datl hc1 (by rfl) ?_ | refine H.lw ?_ | refine H.ll ?_)); (conv => whnf))
    exact ⟨V1, fun _ => 0, 0, 15, p, Sub.refl _, H.sx, rfl, rfl, rfl, by decide⟩
  have hr : digAt l p = .ok (digOf ((l.drop p).take 32)) (p + 32) := by rw [digAt, if_neg hb]
  rw [hr]
  have hsub := hs1.sub (n := 1) (fun _ => rfl) (a := p) (b := p + 32) (by omega) (by omega)
  ((repeat ((conv => whnf); first | refine an ?_ | ((first | refine H.nwD ?_ | refine H.nw ?_); clear H; intro w _ H) | refine H.ce ?_ | refine H.db ?_ | refine ea ?_ | (refine H.st ?_; (conv => whnf); clear H; intro w H) | refine condT fun _ => ?_ | refine condF fun _ => ?_ | refine condNT fun _ => ?_ | refine condNF fun _ => ?_ | refine H.da (hc1 _ _ (by rfl)) ?_ | refine H.datw hc1 (by rfl) ?_ | refine H.datl hc1 (by rfl) ?_ | refine H.lw ?_ | refine H.ll ?_)); (conv => whnf))
  refine .of (run_arrayAt w 56 5 32 (subA s.a p s.cap 1) (p + 32 - p) (s.cap - p) Tryz.underlying56 (by omega)) ?_
  have hne : ((l.take (p + 32)).drop p).flatMap byC ≠ [] := by
    intro e
    have := congrArg List.length e
    rw [flat_len (n := 1) (fun _ => rfl)] at this
    simp at this
    omega
  have hcs := hsub.cells
  have hpl : ∃ b0 o0, subA s.a p s.cap 1 = some ⟨b0, o0, none⟩ := ⟨_, _, hcs.1 hne⟩
  obtain ⟨b0, o0, hpl⟩ := hpl
  have hde : (digC (digOf ((l.drop p).take 32))) = ((l.take (p + 32)).drop p).flatMap byC := by
    have hd : (digC (digOf ((l.drop p).take 32))) = (digL (digOf ((l.drop p).take 32))).map bv := rfl
    rw [hd, byC_map, digL_digOf (by simp; omega), List.drop_take, Nat.add_sub_cancel_left]
  have hc1 : ∀ j v, (digC (digOf ((l.drop p).take 32)))[j]? = some v → V1.cell? ⟨b0, o0 + j, none⟩ = some v := by
    intro j v hj
    rw [hde] at hj
    have := hcs.2 j v hj
    dsimp only at this
    rw [hpl] at this
    exact this
  rw [hpl]
  ((repeat ((conv => whnf); first | refine an ?_ | ((first | refine H.nwD ?_ | refine H.nw ?_); clear H; intro w _ H) | refine H.ce ?_ | refine H.db ?_ | refine ea ?_ | (refine H.st ?_; (conv => whnf); clear H; intro w H) | refine condT fun _ => ?_ | refine condF fun _ => ?_ | refine condNT fun _ => ?_ | refine condNF fun _ => ?_ | refine H.da (hc1 _ _ (by rfl)) ?_ | refine H.datw hc1 (by rfl) ?_ | refine H.datl hc1 (by rfl) ?_ | refine H.lw ?_ | refine H.ll ?_)); (conv => whnf))
  exact ⟨V1, _, _, 0, 0, Sub.refl _, H.sx, rfl, rfl, rfl, rfl, rfl⟩
end
end Go.Proofs.YtlhgmigoncmcaaaGreat
namespace Go.Proofs.YtlhgmigoncmcaaaGreat
open Go Go.RowKit

/-- one step of a reader: from (a, c, i) to (a', c', i') -/
structure Step {α β : Type} (one : Nat → Got α) (R : World → β → α → Prop) (V : World) (x : β) (a c i a' c' i' : Int) : Prop where
  fail : c ≠ 0 → c' = c ∧ i' = i
  go : c = 0 → match one a.toNat with | .ok y q => c' = 0 ∧ i' = 0 ∧ a' = q ∧ R V x y | .bad c1 i1 => c' = c1 ∧ i' = i1 ∧ c1 ≠ 0
/-- where a reader may stand -/
abbrev St (l : List UInt8) (a c i : Int) : Prop := c = 0 → i = 0 ∧ ∃ p : Nat, a = p ∧ p ≤ l.length
theorem Step.st {α β : Type} {one : Nat → Got α} {R : World → β → α → Prop} {V : World} {x : β} {a c i a' c' i' : Int} {l : List UInt8} (h : Step one R V x a c i a' c' i') (hs : St l a c i) (hin : ∀ q y q', q ≤ l.length → one q = .ok y q' → q' ≤ l.length) : St l a' c' i' := by
  intro hc'
  by_cases hc : c = 0
  · obtain ⟨_, p, rfl, hp⟩ := hs hc
    have hg := h.go hc
    rw [Int.toNat_natCast] at hg
    cases ho : one p with
    | ok y q =>
      rw [ho] at hg
      obtain ⟨_, hi, ha, _⟩ := hg
      exact ⟨hi, q, ha, hin p y q hp ho⟩
    | bad c1 i1 =>
      rw [ho] at hg
      obtain ⟨h1, _, h2⟩ := hg
      exact absurd (h1.symm.trans hc') h2
  · exact absurd ((h.fail hc).1.symm.trans hc') hc
theorem read_int {w0 V0 V w : World} {own : List Res} {rb : Nat} {s : Sl} {l : List UInt8} {a c i : Int} (H : Rel w0 V0 (.blk rb [s.v, iv a, iv c, iv i] 104 :: own) V w) {g : FuncId} {cap : List Value} {one : Nat → Got Int}
    (hone : ∀ q, q ≤ l.length → Reads V g cap s iv eqR q (one q)) (hst : St l a c i) :
    Ret Tryz.prog 56 [.pointer (some ⟨rb, 0, none⟩), .func (.func g) #[] cap.toArray].toArray w fun v w' => ∃ (V' : World) (x : Int) (a' c' i' : Int), Sub V V' ∧ v = iv x ∧ Rel w0 V0 (.blk rb [s.v, iv a', iv c', iv i'] 104 :: own) V' w' ∧ Step one eqR V' x a c i a' c' i' := by
  refine cal_of_vc tabOk Tryz.func56 rfl (by kernel_rfl) 43 rfl (by simp) [0, 1, 4, 5, 6, 7, 8, 14, 36] ?_
  by_cases hc : c = 0
  rotate_left
  · ((repeat ((conv => whnf); first | refine an ?_ | ((first | refine H.nwD ?_ | refine H.nw ?_); clear H; intro w _ H) | refine H.ce ?_ | refine H.db ?_ | refine ea ?_ | (refine H.st ?_; (conv => whnf); clear H; intro w H) | refine condT fun _ => ?_ | refine condF fun _ => ?_ | refine condNT fun _ => ?_ | refine condNF fun _ => ?_ | refine H.da (hc1 _ _ (by rfl)) ?_ | refine H.datw hc1 (by rfl) ?_ | refine H.datl hc1 (by rfl) ?_ | refine H.lw ?_ | refine H.ll ?_)); (conv => whnf))
    exact ⟨V, 0, a, c, i, Sub.refl _, rfl, H.sx, fun _ => ⟨rfl, rfl⟩, fun h => absurd h hc⟩
  obtain ⟨rfl, p, rfl, hp⟩ := hst hc
  subst hc
  ((repeat ((conv => whnf); first | refine an ?_ | ((first | refine H.nwD ?_ | refine H.nw ?_); clear H; intro w _ H) | refine H.ce ?_ | refine H.db ?_ | refine ea ?_ | (refine H.st ?_; (conv => whnf); clear H; intro w H) | refine condT fun _ => ?_ | refine condF fun _ => ?_ | refine condNT fun _ => ?_ | refine condNF fun _ => ?_ | refine H.da (hc1 _ _ (by rfl)) ?_ | refine H.datw hc1 (by rfl) ?_ | refine H.datl hc1 (by rfl) ?_ | refine H.lw ?_ | refine H.ll ?_)); (conv => whnf))
  refine SemC.cutN (fun q : (Int × Int × Int × Int × Nat) => [(0, .pointer (some ⟨rb, 0, none⟩)), (5, iv 0), (6, iv q.1), (7, iv q.2.1), (8, .pointer (some ⟨q.2.2.2.2, 0, none⟩))])
    (fun q w' => ∃ V', Sub V V' ∧ Rel w0 V0 (.blk q.2.2.2.2 [iv q.2.2.1, iv q.2.2.2.1] 28 :: .blk rb [s.v, iv p, iv 0, iv 0] 104 :: own) V' w' ∧ (match one p with | .bad c' i' => q.2.2.1 = c' ∧ q.2.2.2.1 = i' ∧ c' ≠ 0 | .ok y r => q.2.2.1 = 0 ∧ q.2.2.2.1 = 0 ∧ q.2.1 = r ∧ (eqR : World → Int → Int → Prop) V' q.1 y)) ?_ ?_
  · ((first | refine draw_vcA (id := 4) tabOk mixed [14] [0, 1, 2, 3, 4, 5, 6, 7, 8, 9, 10, 11, 12, 13, 15, 16, 17] 14 [15, 16, 17] [9] (by kernel_rfl) ?_); intro w hdw; replace H := Rel.ext H hdw.ext)
    ((repeat ((conv => whnf); first | refine an ?_ | ((first | refine H.nwD ?_ | refine H.nw ?_); clear H; intro w _ H) | refine H.ce ?_ | refine H.db ?_ | refine ea ?_ | (refine H.st ?_; (conv => whnf); clear H; intro w H) | refine condT fun _ => ?_ | refine condF fun _ => ?_ | refine condNT fun _ => ?_ | refine condNF fun _ => ?_ | refine H.da (hc1 _ _ (by rfl)) ?_ | refine H.datw hc1 (by rfl) ?_ | refine H.datl hc1 (by rfl) ?_ | refine H.lw ?_ | refine H.ll ?_)); (conv => whnf))
    refine And.intro ?_ ?_
    · ((repeat ((conv => whnf); first | refine an ?_ | refine H.ce ?_ | refine H.db ?_ | refine ea ?_ | (refine H.st ?_; (conv => whnf); clear H; intro w H) | refine condT fun _ => ?_ | refine condF fun _ => ?_ | refine condNT fun _ => ?_ | refine condNF fun _ => ?_ | refine H.da (hc1 _ _ (by rfl)) ?_ | refine H.datw hc1 (by rfl) ?_ | refine H.datl hc1 (by rfl) ?_ | refine H.lw ?_ | refine H.ll ?_)); (conv => whnf))
      ((first | refine Rel.nwD H ?_ | refine Rel.nw H ?_); clear H; intro w b8 H)
      ((repeat ((conv => whnf); first | refine an ?_ | ((first | refine H.nwD ?_ | refine H.nw ?_); clear H; intro w _ H) | refine H.ce ?_ | refine H.db ?_ | refine ea ?_ | (refine H.st ?_; (conv => whnf); clear H; intro w H) | refine condT fun _ => ?_ | refine condF fun _ => ?_ | refine condNT fun _ => ?_ | refine condNF fun _ => ?_ | refine H.da (hc1 _ _ (by rfl)) ?_ | refine H.datw hc1 (by rfl) ?_ | refine H.datl hc1 (by rfl) ?_ | refine H.lw ?_ | refine H.ll ?_)); (conv => whnf))
      refine (hone p hp V w (Sub.refl _) H.data).use ?_
      rintro v w ⟨V2, x, n, c, i, hV2, K, rfl, hres⟩
      (have hKb := K.base; replace H := Rel.call H K)
      simp only [List.nil_append] at H
      ((repeat ((conv => whnf); first | refine an ?_ | ((first | refine H.nwD ?_ | refine H.nw ?_); clear H; intro w _ H) | refine H.ce ?_ | refine H.db ?_ | refine ea ?_ | (refine H.st ?_; (conv => whnf); clear H; intro w H) | refine condT fun _ => ?_ | refine condF fun _ => ?_ | refine condNT fun _ => ?_ | refine condNF fun _ => ?_ | refine H.da (hc1 _ _ (by rfl)) ?_ | refine H.datw hc1 (by rfl) ?_ | refine H.datl hc1 (by rfl) ?_ | refine H.lw ?_ | refine H.ll ?_)); (conv => whnf))
      exact ⟨(x, n, c, i, b8), (by repeat (first | exact trivial | refine ⟨rfl, ?_⟩)), V2, hV2, H.sx, by cases ho : one p <;> (rw [ho] at hres; exact hres)⟩
    ((repeat ((conv => whnf); first | refine an ?_ | ((first | refine H.nwD ?_ | refine H.nw ?_); clear H; intro w _ H) | refine H.ce ?_ | refine H.db ?_ | refine ea ?_ | (refine H.st ?_; (conv => whnf); clear H; intro w H) | refine condT fun _ => ?_ | refine condF fun _ => ?_ | refine condNT fun _ => ?_ | refine condNF fun _ => ?_ | refine H.da (hc1 _ _ (by rfl)) ?_ | refine H.datw hc1 (by rfl) ?_ | refine H.datl hc1 (by rfl) ?_ | refine H.lw ?_ | refine H.ll ?_)); (conv => whnf))
    refine (hone p hp V w (Sub.refl _) H.data).use ?_
    rintro v w ⟨V2, x, n, c, i, hV2, K, rfl, hres⟩
    (have hKb := K.base; replace H := Rel.call H K)
    simp only [List.nil_append] at H
    ((repeat ((conv => whnf); first | refine an ?_ | refine H.ce ?_ | refine H.db ?_ | refine ea ?_ | (refine H.st ?_; (conv => whnf); clear H; intro w H) | refine condT fun _ => ?_ | refine condF fun _ => ?_ | refine condNT fun _ => ?_ | refine condNF fun _ => ?_ | refine H.da (hc1 _ _ (by rfl)) ?_ | refine H.datw hc1 (by rfl) ?_ | refine H.datl hc1 (by rfl) ?_ | refine H.lw ?_ | refine H.ll ?_)); (conv => whnf))
    ((first | refine Rel.nwD H ?_ | refine Rel.nw H ?_); clear H; intro w b8 H)
    ((repeat ((conv => whnf); first | refine an ?_ | ((first | refine H.nwD ?_ | refine H.nw ?_); clear H; intro w _ H) | refine H.ce ?_ | refine H.db ?_ | refine ea ?_ | (refine H.st ?_; (conv => whnf); clear H; intro w H) | refine condT fun _ => ?_ | refine condF fun _ => ?_ | refine condNT fun _ => ?_ | refine condNF fun _ => ?_ | refine H.da (hc1 _ _ (by rfl)) ?_ | refine H.datw hc1 (by rfl) ?_ | refine H.datl hc1 (by rfl) ?_ | refine H.lw ?_ | refine H.ll ?_)); (conv => whnf))
    exact ⟨(x, n, c, i, b8), (by repeat (first | exact trivial | refine ⟨rfl, ?_⟩)), V2, hV2, H.sx, by cases ho : one p <;> (rw [ho] at hres; exact hres)⟩
  clear H
  rintro ⟨x, n, c, i, b8⟩ w ⟨V2, hV2, H, hres⟩
  dsimp only at H hres
  cases ho : one p with
  | bad c' i' =>
    rw [ho] at hres
    obtain ⟨rfl, rfl, hc0⟩ := hres
    ((repeat ((conv => whnf); first | refine an ?_ | ((first | refine H.nwD ?_ | refine H.nw ?_); clear H; intro w _ H) | refine H.ce ?_ | refine H.db ?_ | refine ea ?_ | (refine H.st ?_; (conv => whnf); clear H; intro w H) | refine condT fun _ => ?_ | refine condF fun _ => ?_ | refine condNT fun _ => ?_ | refine condNF fun _ => ?_ | refine H.da (hc1 _ _ (by rfl)) ?_ | refine H.datw hc1 (by rfl) ?_ | refine H.datl hc1 (by rfl) ?_ | refine H.lw ?_ | refine H.ll ?_)); (conv => whnf))
    exact ⟨V2, 0, p, c, i, hV2, rfl, H.sx, fun h => absurd rfl h, fun _ => by rw [Int.toNat_natCast, ho]; exact ⟨rfl, rfl, hc0⟩⟩
  | ok y r =>
    rw [ho] at hres
    obtain ⟨rfl, rfl, rfl, hxy⟩ := hres
    ((repeat ((conv => whnf); first | refine an ?_ | ((first | refine H.nwD ?_ | refine H.nw ?_); clear H; intro w _ H) | refine H.ce ?_ | refine H.db ?_ | refine ea ?_ | (refine H.st ?_; (conv => whnf); clear H; intro w H) | refine condT fun _ => ?_ | refine condF fun _ => ?_ | refine condNT fun _ => ?_ | refine condNF fun _ => ?_ | refine H.da (hc1 _ _ (by rfl)) ?_ | refine H.datw hc1 (by rfl) ?_ | refine H.datl hc1 (by rfl) ?_ | refine H.lw ?_ | refine H.ll ?_)); (conv => whnf))
    exact ⟨V2, x, r, 0, 0, hV2, rfl, H.sx, fun h => absurd rfl h, fun _ => by rw [Int.toNat_natCast, ho]; exact ⟨rfl, rfl, rfl, hxy⟩⟩
theorem read_str {w0 V0 V w : World} {own : List Res} {rb : Nat} {s : Sl} {l : List UInt8} {a c i : Int} (H : Rel w0 V0 (.blk rb [s.v, iv a, iv c, iv i] 104 :: own) V w) {g : FuncId} {cap : List Value} {one : Nat → Got (List UInt8)}
    (hone : ∀ q, q ≤ l.length → Reads V g cap s str eqR q (one q)) (hst : St l a c i) :
    Ret Tryz.prog 57 [.pointer (some ⟨rb, 0, none⟩), .func (.func g) #[] cap.toArray].toArray w fun v w' => ∃ (V' : World) (x : (List UInt8)) (a' c' i' : Int), Sub V V' ∧ v = str x ∧ Rel w0 V0 (.blk rb [s.v, iv a', iv c', iv i'] 104 :: own) V' w' ∧ Step one eqR V' x a c i a' c' i' := by
  refine cal_of_vc tabOk Tryz.func57 rfl (by kernel_rfl) 43 rfl (by simp) [0, 1, 4, 5, 6, 7, 8, 14, 36] ?_
  by_cases hc : c = 0
  rotate_left
  · ((repeat ((conv => whnf); first | refine an ?_ | ((first | refine H.nwD ?_ | refine H.nw ?_); clear H; intro w _ H) | refine H.ce ?_ | refine H.db ?_ | refine ea ?_ | (refine H.st ?_; (conv => whnf); clear H; intro w H) | refine condT fun _ => ?_ | refine condF fun _ => ?_ | refine condNT fun _ => ?_ | refine condNF fun _ => ?_ | refine H.da (hc1 _ _ (by rfl)) ?_ | refine H.datw hc1 (by rfl) ?_ | refine H.datl hc1 (by rfl) ?_ | refine H.lw ?_ | refine H.ll ?_)); (conv => whnf))
    exact ⟨V, [], a, c, i, Sub.refl _, rfl, H.sx, fun _ => ⟨rfl, rfl⟩, fun h => absurd h hc⟩
  obtain ⟨rfl, p, rfl, hp⟩ := hst hc
  subst hc
  ((repeat ((conv => whnf); first | refine an ?_ | ((first | refine H.nwD ?_ | refine H.nw ?_); clear H; intro w _ H) | refine H.ce ?_ | refine H.db ?_ | refine ea ?_ | (refine H.st ?_; (conv => whnf); clear H; intro w H) | refine condT fun _ => ?_ | refine condF fun _ => ?_ | refine condNT fun _ => ?_ | refine condNF fun _ => ?_ | refine H.da (hc1 _ _ (by rfl)) ?_ | refine H.datw hc1 (by rfl) ?_ | refine H.datl hc1 (by rfl) ?_ | refine H.lw ?_ | refine H.ll ?_)); (conv => whnf))
  refine SemC.cutN (fun q : ((List UInt8) × Int × Int × Int × Nat) => [(0, .pointer (some ⟨rb, 0, none⟩)), (5, str []), (6, str q.1), (7, iv q.2.1), (8, .pointer (some ⟨q.2.2.2.2, 0, none⟩))])
    (fun q w' => ∃ V', Sub V V' ∧ Rel w0 V0 (.blk q.2.2.2.2 [iv q.2.2.1, iv q.2.2.2.1] 28 :: .blk rb [s.v, iv p, iv 0, iv 0] 104 :: own) V' w' ∧ (match one p with | .bad c' i' => q.2.2.1 = c' ∧ q.2.2.2.1 = i' ∧ c' ≠ 0 | .ok y r => q.2.2.1 = 0 ∧ q.2.2.2.1 = 0 ∧ q.2.1 = r ∧ (eqR : World → (List UInt8) → (List UInt8) → Prop) V' q.1 y)) ?_ ?_
  · ((first | refine draw_vcA (id := 4) tabOk mixed [14] [0, 1, 2, 3, 4, 5, 6, 7, 8, 9, 10, 11, 12, 13, 15, 16, 17] 14 [15, 16, 17] [9] (by kernel_rfl) ?_); intro w hdw; replace H := Rel.ext H hdw.ext)
    ((repeat ((conv => whnf); first | refine an ?_ | ((first | refine H.nwD ?_ | refine H.nw ?_); clear H; intro w _ H) | refine H.ce ?_ | refine H.db ?_ | refine ea ?_ | (refine H.st ?_; (conv => whnf); clear H; intro w H) | refine condT fun _ => ?_ | refine condF fun _ => ?_ | refine condNT fun _ => ?_ | refine condNF fun _ => ?_ | refine H.da (hc1 _ _ (by rfl)) ?_ | refine H.datw hc1 (by rfl) ?_ | refine H.datl hc1 (by rfl) ?_ | refine H.lw ?_ | refine H.ll ?_)); (conv => whnf))
    refine And.intro ?_ ?_
    · ((repeat ((conv => whnf); first | refine an ?_ | refine H.ce ?_ | refine H.db ?_ | refine ea ?_ | (refine H.st ?_; (conv => whnf); clear H; intro w H) | refine condT fun _ => ?_ | refine condF fun _ => ?_ | refine condNT fun _ => ?_ | refine condNF fun _ => ?_ | refine H.da (hc1 _ _ (by rfl)) ?_ | refine H.datw hc1 (by rfl) ?_ | refine H.datl hc1 (by rfl) ?_ | refine H.lw ?_ | refine H.ll ?_)); (conv => whnf))
      ((first | refine Rel.nwD H ?_ | refine Rel.nw H ?_); clear H; intro w b8 H)
      ((repeat ((conv => whnf); first | refine an ?_ | ((first | refine H.nwD ?_ | refine H.nw ?_); clear H; intro w _ H) | refine H.ce ?_ | refine H.db ?_ | refine ea ?_ | (refine H.st ?_; (conv => whnf); clear H; intro w H) | refine condT fun _ => ?_ | refine condF fun _ => ?_ | refine condNT fun _ => ?_ | refine condNF fun _ => ?_ | refine H.da (hc1 _ _ (by rfl)) ?_ | refine H.datw hc1 (by rfl) ?_ | refine H.datl hc1 (by rfl) ?_ | refine H.lw ?_ | refine H.ll ?_)); (conv => whnf))
      refine (hone p hp V w (Sub.refl _) H.data).use ?_
      rintro v w ⟨V2, x, n, c, i, hV2, K, rfl, hres⟩
      (have hKb := K.base; replace H := Rel.call H K)
      simp only [List.nil_append] at H
      ((repeat ((conv => whnf); first | refine an ?_ | ((first | refine H.nwD ?_ | refine H.nw ?_); clear H; intro w _ H) | refine H.ce ?_ | refine H.db ?_ | refine ea ?_ | (refine H.st ?_; (conv => whnf); clear H; intro w H) | refine condT fun _ => ?_ | refine condF fun _ => ?_ | refine condNT fun _ => ?_ | refine condNF fun _ => ?_ | refine H.da (hc1 _ _ (by rfl)) ?_ | refine H.datw hc1 (by rfl) ?_ | refine H.datl hc1 (by rfl) ?_ | refine H.lw ?_ | refine H.ll ?_)); (conv => whnf))
      exact ⟨(x, n, c, i, b8), (by repeat (first | exact trivial | refine ⟨rfl, ?_⟩)), V2, hV2, H.sx, by cases ho : one p <;> (rw [ho] at hres; exact hres)⟩
    ((repeat ((conv => whnf); first | refine an ?_ | ((first | refine H.nwD ?_ | refine H.nw ?_); clear H; intro w _ H) | refine H.ce ?_ | refine H.db ?_ | refine ea ?_ | (refine H.st ?_; (conv => whnf); clear H; intro w H) | refine condT fun _ => ?_ | refine condF fun _ => ?_ | refine condNT fun _ => ?_ | refine condNF fun _ => ?_ | refine H.da (hc1 _ _ (by rfl)) ?_ | refine H.datw hc1 (by rfl) ?_ | refine H.datl hc1 (by rfl) ?_ | refine H.lw ?_ | refine H.ll ?_)); (conv => whnf))
    refine (hone p hp V w (Sub.refl _) H.data).use ?_
    rintro v w ⟨V2, x, n, c, i, hV2, K, rfl, hres⟩
    (have hKb := K.base; replace H := Rel.call H K)
    simp only [List.nil_append] at H
    ((repeat ((conv => whnf); first | refine an ?_ | refine H.ce ?_ | refine H.db ?_ | refine ea ?_ | (refine H.st ?_; (conv => whnf); clear H; intro w H) | refine condT fun _ => ?_ | refine condF fun _ => ?_ | refine condNT fun _ => ?_ | refine condNF fun _ => ?_ | refine H.da (hc1 _ _ (by rfl)) ?_ | refine H.datw hc1 (by rfl) ?_ | refine H.datl hc1 (by rfl) ?_ | refine H.lw ?_ | refine H.ll ?_)); (conv => whnf))
    ((first | refine Rel.nwD H ?_ | refine Rel.nw H ?_); clear H; intro w b8 H)
    ((repeat ((conv => whnf); first | refine an ?_ | ((first | refine H.nwD ?_ | refine H.nw ?_); clear H; intro w _ H) | refine H.ce ?_ | refine H.db ?_ | refine ea ?_ | (refine H.st ?_; (conv => whnf); clear H; intro w H) | refine condT fun _ => ?_ | refine condF fun _ => ?_ | refine condNT fun _ => ?_ | refine condNF fun _ => ?_ | refine H.da (hc1 _ _ (by rfl)) ?_ | refine H.datw hc1 (by rfl) ?_ | refine H.datl hc1 (by rfl) ?_ | refine H.lw ?_ | refine H.ll ?_)); (conv => whnf))
    exact ⟨(x, n, c, i, b8), (by repeat (first | exact trivial | refine ⟨rfl, ?_⟩)), V2, hV2, H.sx, by cases ho : one p <;> (rw [ho] at hres; exact hres)⟩
  clear H
  rintro ⟨x, n, c, i, b8⟩ w ⟨V2, hV2, H, hres⟩
  dsimp only at H hres
  cases ho : one p with
  | bad c' i' =>
    rw [ho] at hres
    obtain ⟨rfl, rfl, hc0⟩ := hres
    ((repeat ((conv => whnf); first | refine an ?_ | ((first | refine H.nwD ?_ | refine H.nw ?_); clear H; intro w _ H) | refine H.ce ?_ | refine H.db ?_ | refine ea ?_ | (refine H.st ?_; (conv => whnf); clear H; intro w H) | refine condT fun _ => ?_ | refine condF fun _ => ?_ | refine condNT fun _ => ?_ | refine condNF fun _ => ?_ | refine H.da (hc1 _ _ (by rfl)) ?_ | refine H.datw hc1 (by rfl) ?_ | refine H.datl hc1 (by rfl) ?_ | refine H.lw ?_ | refine H.ll ?_)); (conv => whnf))
    exact ⟨V2, [], p, c, i, hV2, rfl, H.sx, fun h => absurd rfl h, fun _ => by rw [Int.toNat_natCast, ho]; exact ⟨rfl, rfl, hc0⟩⟩
  | ok y r =>
    rw [ho] at hres
    obtain ⟨rfl, rfl, rfl, hxy⟩ := hres
    ((repeat ((conv => whnf); first | refine an ?_ | ((first | refine H.nwD ?_ | refine H.nw ?_); clear H; intro w _ H) | refine H.ce ?_ | refine H.db ?_ | refine ea ?_ | (refine H.st ?_; (conv => whnf); clear H; intro w H) | refine condT fun _ => ?_ | refine condF fun _ => ?_ | refine condNT fun _ => ?_ | refine condNF fun _ => ?_ | refine H.da (hc1 _ _ (by rfl)) ?_ | refine H.datw hc1 (by rfl) ?_ | refine H.datl hc1 (by rfl) ?_ | refine H.lw ?_ | refine H.ll ?_)); (conv => whnf))
    exact ⟨V2, x, r, 0, 0, hV2, rfl, H.sx, fun h => absurd rfl h, fun _ => by rw [Int.toNat_natCast, ho]; exact ⟨rfl, rfl, rfl, hxy⟩⟩
theorem read_refs {w0 V0 V w : World} {own : List Res} {rb : Nat} {s : Sl} {l : List UInt8} {a c i : Int} (H : Rel w0 V0 (.blk rb [s.v, iv a, iv c, iv i] 104 :: own) V w) {g : FuncId} {cap : List Value} {one : Nat → Got (List RefD)}
    (hone : ∀ q, q ≤ l.length → Reads V g cap s Sl.v (RL refC eqR) q (one q)) (hst : St l a c i) :
    Ret Tryz.prog 61 [.pointer (some ⟨rb, 0, none⟩), .func (.func g) #[] cap.toArray].toArray w fun v w' => ∃ (V' : World) (x : Sl) (a' c' i' : Int), Sub V V' ∧ v = Sl.v x ∧ Rel w0 V0 (.blk rb [s.v, iv a', iv c', iv i'] 104 :: own) V' w' ∧ Step one (RL refC eqR) V' x a c i a' c' i' := by
  refine cal_of_vc tabOk Tryz.func61 rfl (by kernel_rfl) 43 rfl (by simp) [0, 1, 4, 5, 6, 7, 8, 14, 36] ?_
  by_cases hc : c = 0
  rotate_left
  · ((repeat ((conv => whnf); first | refine an ?_ | ((first | refine H.nwD ?_ | refine H.nw ?_); clear H; intro w _ H) | refine H.ce ?_ | refine H.db ?_ | refine ea ?_ | (refine H.st ?_; (conv => whnf); clear H; intro w H) | refine condT fun _ => ?_ | refine condF fun _ => ?_ | refine condNT fun _ => ?_ | refine condNF fun _ => ?_ | refine H.da (hc1 _ _ (by rfl)) ?_ | refine H.datw hc1 (by rfl) ?_ | refine H.datl hc1 (by rfl) ?_ | refine H.lw ?_ | refine H.ll ?_)); (conv => whnf))
    exact ⟨V, ⟨none, 0, 0⟩, a, c, i, Sub.refl _, rfl, H.sx, fun _ => ⟨rfl, rfl⟩, fun h => absurd h hc⟩
  obtain ⟨rfl, p, rfl, hp⟩ := hst hc
  subst hc
  ((repeat ((conv => whnf); first | refine an ?_ | ((first | refine H.nwD ?_ | refine H.nw ?_); clear H; intro w _ H) | refine H.ce ?_ | refine H.db ?_ | refine ea ?_ | (refine H.st ?_; (conv => whnf); clear H; intro w H) | refine condT fun _ => ?_ | refine condF fun _ => ?_ | refine condNT fun _ => ?_ | refine condNF fun _ => ?_ | refine H.da (hc1 _ _ (by rfl)) ?_ | refine H.datw hc1 (by rfl) ?_ | refine H.datl hc1 (by rfl) ?_ | refine H.lw ?_ | refine H.ll ?_)); (conv => whnf))
  refine SemC.cutN (fun q : (Sl × Int × Int × Int × Nat) => [(0, .pointer (some ⟨rb, 0, none⟩)), (5, Sl.v ⟨none, 0, 0⟩), (6, Sl.v q.1), (7, iv q.2.1), (8, .pointer (some ⟨q.2.2.2.2, 0, none⟩))])
    (fun q w' => ∃ V', Sub V V' ∧ Rel w0 V0 (.blk q.2.2.2.2 [iv q.2.2.1, iv q.2.2.2.1] 28 :: .blk rb [s.v, iv p, iv 0, iv 0] 104 :: own) V' w' ∧ (match one p with | .bad c' i' => q.2.2.1 = c' ∧ q.2.2.2.1 = i' ∧ c' ≠ 0 | .ok y r => q.2.2.1 = 0 ∧ q.2.2.2.1 = 0 ∧ q.2.1 = r ∧ ((RL refC eqR) : World → Sl → (List RefD) → Prop) V' q.1 y)) ?_ ?_
  · ((first | refine draw_vcA (id := 4) tabOk mixed [14] [0, 1, 2, 3, 4, 5, 6, 7, 8, 9, 10, 11, 12, 13, 15, 16, 17] 14 [15, 16, 17] [9] (by kernel_rfl) ?_); intro w hdw; replace H := Rel.ext H hdw.ext)
    ((repeat ((conv => whnf); first | refine an ?_ | ((first | refine H.nwD ?_ | refine H.nw ?_); clear H; intro w _ H) | refine H.ce ?_ | refine H.db ?_ | refine ea ?_ | (refine H.st ?_; (conv => whnf); clear H; intro w H) | refine condT fun _ => ?_ | refine condF fun _ => ?_ | refine condNT fun _ => ?_ | refine condNF fun _ => ?_ | refine H.da (hc1 _ _ (by rfl)) ?_ | refine H.datw hc1 (by rfl) ?_ | refine H.datl hc1 (by rfl) ?_ | refine H.lw ?_ | refine H.ll ?_)); (conv => whnf))
    refine And.intro ?_ ?_
    · ((repeat ((conv => whnf); first | refine an ?_ | refine H.ce ?_ | refine H.db ?_ | refine ea ?_ | (refine H.st ?_; (conv => whnf); clear H; intro w H) | refine condT fun _ => ?_ | refine condF fun _ => ?_ | refine condNT fun _ => ?_ | refine condNF fun _ => ?_ | refine H.da (hc1 _ _ (by rfl)) ?_ | refine H.datw hc1 (by rfl) ?_ | refine H.datl hc1 (by rfl) ?_ | refine H.lw ?_ | refine H.ll ?_)); (conv => whnf))
      ((first | refine Rel.nwD H ?_ | refine Rel.nw H ?_); clear H; intro w b8 H)
      ((repeat ((conv => whnf); first | refine an ?_ | ((first | refine H.nwD ?_ | refine H.nw ?_); clear H; intro w _ H) | refine H.ce ?_ | refine H.db ?_ | refine ea ?_ | (refine H.st ?_; (conv => whnf); clear H; intro w H) | refine condT fun _ => ?_ | refine condF fun _ => ?_ | refine condNT fun _ => ?_ | refine condNF fun _ => ?_ | refine H.da (hc1 _ _ (by rfl)) ?_ | refine H.datw hc1 (by rfl) ?_ | refine H.datl hc1 (by rfl) ?_ | refine H.lw ?_ | refine H.ll ?_)); (conv => whnf))
      refine (hone p hp V w (Sub.refl _) H.data).use ?_
      rintro v w ⟨V2, x, n, c, i, hV2, K, rfl, hres⟩
      (have hKb := K.base; replace H := Rel.call H K)
      simp only [List.nil_append] at H
      ((repeat ((conv => whnf); first | refine an ?_ | ((first | refine H.nwD ?_ | refine H.nw ?_); clear H; intro w _ H) | refine H.ce ?_ | refine H.db ?_ | refine ea ?_ | (refine H.st ?_; (conv => whnf); clear H; intro w H) | refine condT fun _ => ?_ | refine condF fun _ => ?_ | refine condNT fun _ => ?_ | refine condNF fun _ => ?_ | refine H.da (hc1 _ _ (by rfl)) ?_ | refine H.datw hc1 (by rfl) ?_ | refine H.datl hc1 (by rfl) ?_ | refine H.lw ?_ | refine H.ll ?_)); (conv => whnf))
      exact ⟨(x, n, c, i, b8), (by repeat (first | exact trivial | refine ⟨rfl, ?_⟩)), V2, hV2, H.sx, by cases ho : one p <;> (rw [ho] at hres; exact hres)⟩
    ((repeat ((conv => whnf); first | refine an ?_ | ((first | refine H.nwD ?_ | refine H.nw ?_); clear H; intro w _ H) | refine H.ce ?_ | refine H.db ?_ | refine ea ?_ | (refine H.st ?_; (conv => whnf); clear H; intro w H) | refine condT fun _ => ?_ | refine condF fun _ => ?_ | refine condNT fun _ => ?_ | refine condNF fun _ => ?_ | refine H.da (hc1 _ _ (by rfl)) ?_ | refine H.datw hc1 (by rfl) ?_ | refine H.datl hc1 (by rfl) ?_ | refine H.lw ?_ | refine H.ll ?_)); (conv => whnf))
    refine (hone p hp V w (Sub.refl _) H.data).use ?_
    rintro v w ⟨V2, x, n, c, i, hV2, K, rfl, hres⟩
    (have hKb := K.base; replace H := Rel.call H K)
    simp only [List.nil_append] at H
    ((repeat ((conv => whnf); first | refine an ?_ | refine H.ce ?_ | refine H.db ?_ | refine ea ?_ | (refine H.st ?_; (conv => whnf); clear H; intro w H) | refine condT fun _ => ?_ | refine condF fun _ => ?_ | refine condNT fun _ => ?_ | refine condNF fun _ => ?_ | refine H.da (hc1 _ _ (by rfl)) ?_ | refine H.datw hc1 (by rfl) ?_ | refine H.datl hc1 (by rfl) ?_ | refine H.lw ?_ | refine H.ll ?_)); (conv => whnf))
    ((first | refine Rel.nwD H ?_ | refine Rel.nw H ?_); clear H; intro w b8 H)
    ((repeat ((conv => whnf); first | refine an ?_ | ((first | refine H.nwD ?_ | refine H.nw ?_); clear H; intro w _ H) | refine H.ce ?_ | refine H.db ?_ | refine ea ?_ | (refine H.st ?_; (conv => whnf); clear H; intro w H) | refine condT fun _ => ?_ | refine condF fun _ => ?_ | refine condNT fun _ => ?_ | refine condNF fun _ => ?_ | refine H.da (hc1 _ _ (by rfl)) ?_ | refine H.datw hc1 (by rfl) ?_ | refine H.datl hc1 (by rfl) ?_ | refine H.lw ?_ | refine H.ll ?_)); (conv => whnf))
    exact ⟨(x, n, c, i, b8), (by repeat (first | exact trivial | refine ⟨rfl, ?_⟩)), V2, hV2, H.sx, by cases ho : one p <;> (rw [ho] at hres; exact hres)⟩
  clear H
  rintro ⟨x, n, c, i, b8⟩ w ⟨V2, hV2, H, hres⟩
  dsimp only at H hres
  cases ho : one p with
  | bad c' i' =>
    rw [ho] at hres
    obtain ⟨rfl, rfl, hc0⟩ := hres
    ((repeat ((conv => whnf); first | refine an ?_ | ((first | refine H.nwD ?_ | refine H.nw ?_); clear H; intro w _ H) | refine H.ce ?_ | refine H.db ?_ | refine ea ?_ | (refine H.st ?_; (conv => whnf); clear H; intro w H) | refine condT fun _ => ?_ | refine condF fun _ => ?_ | refine condNT fun _ => ?_ | refine condNF fun _ => ?_ | refine H.da (hc1 _ _ (by rfl)) ?_ | refine H.datw hc1 (by rfl) ?_ | refine H.datl hc1 (by rfl) ?_ | refine H.lw ?_ | refine H.ll ?_)); (conv => whnf))
    exact ⟨V2, ⟨none, 0, 0⟩, p, c, i, hV2, rfl, H.sx, fun h => absurd rfl h, fun _ => by rw [Int.toNat_natCast, ho]; exact ⟨rfl, rfl, hc0⟩⟩
  | ok y r =>
    rw [ho] at hres
    obtain ⟨rfl, rfl, rfl, hxy⟩ := hres
    ((repeat ((conv => whnf); first | refine an ?_ | ((first | refine H.nwD ?_ | refine H.nw ?_); clear H; intro w _ H) | refine H.ce ?_ | refine H.db ?_ | refine ea ?_ | (refine H.st ?_; (conv => whnf); clear H; intro w H) | refine condT fun _ => ?_ | refine condF fun _ => ?_ | refine condNT fun _ => ?_ | refine condNF fun _ => ?_ | refine H.da (hc1 _ _ (by rfl)) ?_ | refine H.datw hc1 (by rfl) ?_ | refine H.datl hc1 (by rfl) ?_ | refine H.lw ?_ | refine H.ll ?_)); (conv => whnf))
    exact ⟨V2, x, r, 0, 0, hV2, rfl, H.sx, fun h => absurd rfl h, fun _ => by rw [Int.toNat_natCast, ho]; exact ⟨rfl, rfl, rfl, hxy⟩⟩
theorem read_strs {w0 V0 V w : World} {own : List Res} {rb : Nat} {s : Sl} {l : List UInt8} {a c i : Int} (H : Rel w0 V0 (.blk rb [s.v, iv a, iv c, iv i] 104 :: own) V w) {g : FuncId} {cap : List Value} {one : Nat → Got (List (List UInt8))}
    (hone : ∀ q, q ≤ l.length → Reads V g cap s Sl.v (RL strC eqR) q (one q)) (hst : St l a c i) :
    Ret Tryz.prog 64 [.pointer (some ⟨rb, 0, none⟩), .func (.func g) #[] cap.toArray].toArray w fun v w' => ∃ (V' : World) (x : Sl) (a' c' i' : Int), Sub V V' ∧ v = Sl.v x ∧ Rel w0 V0 (.blk rb [s.v, iv a', iv c', iv i'] 104 :: own) V' w' ∧ Step one (RL strC eqR) V' x a c i a' c' i' := by
  refine cal_of_vc tabOk Tryz.func64 rfl (by kernel_rfl) 43 rfl (by simp) [0, 1, 4, 5, 6, 7, 8, 14, 36] ?_
  by_cases hc : c = 0
  rotate_left
  · ((repeat ((conv => whnf); first | refine an ?_ | ((first | refine H.nwD ?_ | refine H.nw ?_); clear H; intro w _ H) | refine H.ce ?_ | refine H.db ?_ | refine ea ?_ | (refine H.st ?_; (conv => whnf); clear H; intro w H) | refine condT fun _ => ?_ | refine condF fun _ => ?_ | refine condNT fun _ => ?_ | refine condNF fun _ => ?_ | refine H.da (hc1 _ _ (by rfl)) ?_ | refine H.datw hc1 (by rfl) ?_ | refine H.datl hc1 (by rfl) ?_ | refine H.lw ?_ | refine H.ll ?_)); (conv => whnf))
    exact ⟨V, ⟨none, 0, 0⟩, a, c, i, Sub.refl _, rfl, H.sx, fun _ => ⟨rfl, rfl⟩, fun h => absurd h hc⟩
  obtain ⟨rfl, p, rfl, hp⟩ := hst hc
  subst hc
  ((repeat ((conv => whnf); first | refine an ?_ | ((first | refine H.nwD ?_ | refine H.nw ?_); clear H; intro w _ H) | refine H.ce ?_ | refine H.db ?_ | refine ea ?_ | (refine H.st ?_; (conv => whnf); clear H; intro w H) | refine condT fun _ => ?_ | refine condF fun _ => ?_ | refine condNT fun _ => ?_ | refine condNF fun _ => ?_ | refine H.da (hc1 _ _ (by rfl)) ?_ | refine H.datw hc1 (by rfl) ?_ | refine H.datl hc1 (by rfl) ?_ | refine H.lw ?_ | refine H.ll ?_)); (conv => whnf))
  refine SemC.cutN (fun q : (Sl × Int × Int × Int × Nat) => [(0, .pointer (some ⟨rb, 0, none⟩)), (5, Sl.v ⟨none, 0, 0⟩), (6, Sl.v q.1), (7, iv q.2.1), (8, .pointer (some ⟨q.2.2.2.2, 0, none⟩))])
    (fun q w' => ∃ V', Sub V V' ∧ Rel w0 V0 (.blk q.2.2.2.2 [iv q.2.2.1, iv q.2.2.2.1] 28 :: .blk rb [s.v, iv p, iv 0, iv 0] 104 :: own) V' w' ∧ (match one p with | .bad c' i' => q.2.2.1 = c' ∧ q.2.2.2.1 = i' ∧ c' ≠ 0 | .ok y r => q.2.2.1 = 0 ∧ q.2.2.2.1 = 0 ∧ q.2.1 = r ∧ ((RL strC eqR) : World → Sl → (List (List UInt8)) → Prop) V' q.1 y)) ?_ ?_
  · ((first | refine draw_vcA (id := 4) tabOk mixed [14] [0, 1, 2, 3, 4, 5, 6, 7, 8, 9, 10, 11, 12, 13, 15, 16, 17] 14 [15, 16, 17] [9] (by kernel_rfl) ?_); intro w hdw; replace H := Rel.ext H hdw.ext)
    ((repeat ((conv => whnf); first | refine an ?_ | ((first | refine H.nwD ?_ | refine H.nw ?_); clear H; intro w _ H) | refine H.ce ?_ | refine H.db ?_ | refine ea ?_ | (refine H.st ?_; (conv => whnf); clear H; intro w H) | refine condT fun _ => ?_ | refine condF fun _ => ?_ | refine condNT fun _ => ?_ | refine condNF fun _ => ?_ | refine H.da (hc1 _ _ (by rfl)) ?_ | refine H.datw hc1 (by rfl) ?_ | refine H.datl hc1 (by rfl) ?_ | refine H.lw ?_ | refine H.ll ?_)); (conv => whnf))
    refine And.intro ?_ ?_
    · ((repeat ((conv => whnf); first | refine an ?_ | refine H.ce ?_ | refine H.db ?_ | refine ea ?_ | (refine H.st ?_; (conv => whnf); clear H; intro w H) | refine condT fun _ => ?_ | refine condF fun _ => ?_ | refine condNT fun _ => ?_ | refine condNF fun _ => ?_ | refine H.da (hc1 _ _ (by rfl)) ?_ | refine H.datw hc1 (by rfl) ?_ | refine H.datl hc1 (by rfl) ?_ | refine H.lw ?_ | refine H.ll ?_)); (conv => whnf))
      ((first | refine Rel.nwD H ?_ | refine Rel.nw H ?_); clear H; intro w b8 H)
      ((repeat ((conv => whnf); first | refine an ?_ | ((first | refine H.nwD ?_ | refine H.nw ?_); clear H; intro w _ H) | refine H.ce ?_ | refine H.db ?_ | refine ea ?_ | (refine H.st ?_; (conv => whnf); clear H; intro w H) | refine condT fun _ => ?_ | refine condF fun _ => ?_ | refine condNT fun _ => ?_ | refine condNF fun _ => ?_ | refine H.da (hc1 _ _ (by rfl)) ?_ | refine H.datw hc1 (by rfl) ?_ | refine H.datl hc1 (by rfl) ?_ | refine H.lw ?_ | refine H.ll ?_)); (conv => whnf))
      refine (hone p hp V w (Sub.refl _) H.data).use ?_
      rintro v w ⟨V2, x, n, c, i, hV2, K, rfl, hres⟩
      (have hKb := K.base; replace H := Rel.call H K)
      simp only [List.nil_append] at H
      ((repeat ((conv => whnf); first | refine an ?_ | ((first | refine H.nwD ?_ | refine H.nw ?_); clear H; intro w _ H) | refine H.ce ?_ | refine H.db ?_ | refine ea ?_ | (refine H.st ?_; (conv => whnf); clear H; intro w H) | refine condT fun _ => ?_ | refine condF fun _ => ?_ | refine condNT fun _ => ?_ | refine condNF fun _ => ?_ | refine H.da (hc1 _ _ (by rfl)) ?_ | refine H.datw hc1 (by rfl) ?_ | refine H.datl hc1 (by rfl) ?_ | refine H.lw ?_ | refine H.ll ?_)); (conv => whnf))
      exact ⟨(x, n, c, i, b8), (by repeat (first | exact trivial | refine ⟨rfl, ?_⟩)), V2, hV2, H.sx, by cases ho : one p <;> (rw [ho] at hres; exact hres)⟩
    ((repeat ((conv => whnf); first | refine an ?_ | ((first | refine H.nwD ?_ | refine H.nw ?_); clear H; intro w _ H) | refine H.ce ?_ | refine H.db ?_ | refine ea ?_ | (refine H.st ?_; (conv => whnf); clear H; intro w H) | refine condT fun _ => ?_ | refine condF fun _ => ?_ | refine condNT fun _ => ?_ | refine condNF fun _ => ?_ | refine H.da (hc1 _ _ (by rfl)) ?_ | refine H.datw hc1 (by rfl) ?_ | refine H.datl hc1 (by rfl) ?_ | refine H.lw ?_ | refine H.ll ?_)); (conv => whnf))
    refine (hone p hp V w (Sub.refl _) H.data).use ?_
    rintro v w ⟨V2, x, n, c, i, hV2, K, rfl, hres⟩
    (have hKb := K.base; replace H := Rel.call H K)
    simp only [List.nil_append] at H
    ((repeat ((conv => whnf); first | refine an ?_ | refine H.ce ?_ | refine H.db ?_ | refine ea ?_ | (refine H.st ?_; (conv => whnf); clear H; intro w H) | refine condT fun _ => ?_ | refine condF fun _ => ?_ | refine condNT fun _ => ?_ | refine condNF fun _ => ?_ | refine H.da (hc1 _ _ (by rfl)) ?_ | refine H.datw hc1 (by rfl) ?_ | refine H.datl hc1 (by rfl) ?_ | refine H.lw ?_ | refine H.ll ?_)); (conv => whnf))
    ((first | refine Rel.nwD H ?_ | refine Rel.nw H ?_); clear H; intro w b8 H)
    ((repeat ((conv => whnf); first | refine an ?_ | ((first | refine H.nwD ?_ | refine H.nw ?_); clear H; intro w _ H) | refine H.ce ?_ | refine H.db ?_ | refine ea ?_ | (refine H.st ?_; (conv => whnf); clear H; intro w H) | refine condT fun _ => ?_ | refine condF fun _ => ?_ | refine condNT fun _ => ?_ | refine condNF fun _ => ?_ | refine H.da (hc1 _ _ (by rfl)) ?_ | refine H.datw hc1 (by rfl) ?_ | refine H.datl hc1 (by rfl) ?_ | refine H.lw ?_ | refine H.ll ?_)); (conv => whnf))
    exact ⟨(x, n, c, i, b8), (by repeat (first | exact trivial | refine ⟨rfl, ?_⟩)), V2, hV2, H.sx, by cases ho : one p <;> (rw [ho] at hres; exact hres)⟩
  clear H
  rintro ⟨x, n, c, i, b8⟩ w ⟨V2, hV2, H, hres⟩
  dsimp only at H hres
  cases ho : one p with
  | bad c' i' =>
    rw [ho] at hres
    obtain ⟨rfl, rfl, hc0⟩ := hres
    ((repeat ((conv => whnf); first | refine an ?_ | ((first | refine H.nwD ?_ | refine H.nw ?_); clear H; intro w _ H) | refine H.ce ?_ | refine H.db ?_ | refine ea ?_ | (refine H.st ?_; (conv => whnf); clear H; intro w H) | refine condT fun _ => ?_ | refine condF fun _ => ?_ | refine condNT fun _ => ?_ | refine condNF fun _ => ?_ | refine H.da (hc1 _ _ (by rfl)) ?_ | refine H.datw hc1 (by rfl) ?_ | refine H.datl hc1 (by rfl) ?_ | refine H.lw ?_ | refine H.ll ?_)); (conv => whnf))
    exact ⟨V2, ⟨none, 0, 0⟩, p, c, i, hV2, rfl, H.sx, fun h => absurd rfl h, fun _ => by rw [Int.toNat_natCast, ho]; exact ⟨rfl, rfl, hc0⟩⟩
  | ok y r =>
    rw [ho] at hres
    obtain ⟨rfl, rfl, rfl, hxy⟩ := hres
    ((repeat ((conv => whnf); first | refine an ?_ | ((first | refine H.nwD ?_ | refine H.nw ?_); clear H; intro w _ H) | refine H.ce ?_ | refine H.db ?_ | refine ea ?_ | (refine H.st ?_; (conv => whnf); clear H; intro w H) | refine condT fun _ => ?_ | refine condF fun _ => ?_ | refine condNT fun _ => ?_ | refine condNF fun _ => ?_ | refine H.da (hc1 _ _ (by rfl)) ?_ | refine H.datw hc1 (by rfl) ?_ | refine H.datl hc1 (by rfl) ?_ | refine H.lw ?_ | refine H.ll ?_)); (conv => whnf))
    exact ⟨V2, x, r, 0, 0, hV2, rfl, H.sx, fun h => absurd rfl h, fun _ => by rw [Int.toNat_natCast, ho]; exact ⟨rfl, rfl, rfl, hxy⟩⟩
theorem read_digs {w0 V0 V w : World} {own : List Res} {rb : Nat} {s : Sl} {l : List UInt8} {a c i : Int} (H : Rel w0 V0 (.blk rb [s.v, iv a, iv c, iv i] 104 :: own) V w) {g : FuncId} {cap : List Value} {one : Nat → Got (List Dig)}
    (hone : ∀ q, q ≤ l.length → Reads V g cap s Sl.v (RL digC eqR) q (one q)) (hst : St l a c i) :
    Ret Tryz.prog 66 [.pointer (some ⟨rb, 0, none⟩), .func (.func g) #[] cap.toArray].toArray w fun v w' => ∃ (V' : World) (x : Sl) (a' c' i' : Int), Sub V V' ∧ v = Sl.v x ∧ Rel w0 V0 (.blk rb [s.v, iv a', iv c', iv i'] 104 :: own) V' w' ∧ Step one (RL digC eqR) V' x a c i a' c' i' := by
  refine cal_of_vc tabOk Tryz.func66 rfl (by kernel_rfl) 43 rfl (by simp) [0, 1, 4, 5, 6, 7, 8, 14, 36] ?_
  by_cases hc : c = 0
  rotate_left
  · ((repeat ((conv => whnf); first | refine an ?_ | ((first | refine H.nwD ?_ | refine H.nw ?_); clear H; intro w _ H) | refine H.ce ?_ | refine H.db ?_ | refine ea ?_ | (refine H.st ?_; (conv => whnf); clear H; intro w H) | refine condT fun _ => ?_ | refine condF fun _ => ?_ | refine condNT fun _ => ?_ | refine condNF fun _ => ?_ | refine H.da (hc1 _ _ (by rfl)) ?_ | refine H.datw hc1 (by rfl) ?_ | refine H.datl hc1 (by rfl) ?_ | refine H.lw ?_ | refine H.ll ?_)); (conv => whnf))
    exact ⟨V, ⟨none, 0, 0⟩, a, c, i, Sub.refl _, rfl, H.sx, fun _ => ⟨rfl, rfl⟩, fun h => absurd h hc⟩
  obtain ⟨rfl, p, rfl, hp⟩ := hst hc
  subst hc
  ((repeat ((conv => whnf); first | refine an ?_ | ((first | refine H.nwD ?_ | refine H.nw ?_); clear H; intro w _ H) | refine H.ce ?_ | refine H.db ?_ | refine ea ?_ | (refine H.st ?_; (conv => whnf); clear H; intro w H) | refine condT fun _ => ?_ | refine condF fun _ => ?_ | refine condNT fun _ => ?_ | refine condNF fun _ => ?_ | refine H.da (hc1 _ _ (by rfl)) ?_ | refine H.datw hc1 (by rfl) ?_ | refine H.datl hc1 (by rfl) ?_ | refine H.lw ?_ | refine H.ll ?_)); (conv => whnf))
  refine SemC.cutN (fun q : (Sl × Int × Int × Int × Nat) => [(0, .pointer (some ⟨rb, 0, none⟩)), (5, Sl.v ⟨none, 0, 0⟩), (6, Sl.v q.1), (7, iv q.2.1), (8, .pointer (some ⟨q.2.2.2.2, 0, none⟩))])
    (fun q w' => ∃ V', Sub V V' ∧ Rel w0 V0 (.blk q.2.2.2.2 [iv q.2.2.1, iv q.2.2.2.1] 28 :: .blk rb [s.v, iv p, iv 0, iv 0] 104 :: own) V' w' ∧ (match one p with | .bad c' i' => q.2.2.1 = c' ∧ q.2.2.2.1 = i' ∧ c' ≠ 0 | .ok y r => q.2.2.1 = 0 ∧ q.2.2.2.1 = 0 ∧ q.2.1 = r ∧ ((RL digC eqR) : World → Sl → (List Dig) → Prop) V' q.1 y)) ?_ ?_
  · ((first | refine draw_vcA (id := 4) tabOk mixed [14] [0, 1, 2, 3, 4, 5, 6, 7, 8, 9, 10, 11, 12, 13, 15, 16, 17] 14 [15, 16, 17] [9] (by kernel_rfl) ?_); intro w hdw; replace H := Rel.ext H hdw.ext)
    ((repeat ((conv => whnf); first | refine an ?_ | ((first | refine H.nwD ?_ | refine H.nw ?_); clear H; intro w _ H) | refine H.ce ?_ | refine H.db ?_ | refine ea ?_ | (refine H.st ?_; (conv => whnf); clear H; intro w H) | refine condT fun _ => ?_ | refine condF fun _ => ?_ | refine condNT fun _ => ?_ | refine condNF fun _ => ?_ | refine H.da (hc1 _ _ (by rfl)) ?_ | refine H.datw hc1 (by rfl) ?_ | refine H.datl hc1 (by rfl) ?_ | refine H.lw ?_ | refine H.ll ?_)); (conv => whnf))
    refine And.intro ?_ ?_
    · ((repeat ((conv => whnf); first | refine an ?_ | refine H.ce ?_ | refine H.db ?_ | refine ea ?_ | (refine H.st ?_; (conv => whnf); clear H; intro w H) | refine condT fun _ => ?_ | refine condF fun _ => ?_ | refine condNT fun _ => ?_ | refine condNF fun _ => ?_ | refine H.da (hc1 _ _ (by rfl)) ?_ | refine H.datw hc1 (by rfl) ?_ | refine H.datl hc1 (by rfl) ?_ | refine H.lw ?_ | refine H.ll ?_)); (conv => whnf))
      ((first | refine Rel.nwD H ?_ | refine Rel.nw H ?_); clear H; intro w b8 H)
      ((repeat ((conv => whnf); first | refine an ?_ | ((first | refine H.nwD ?_ | refine H.nw ?_); clear H; intro w _ H) | refine H.ce ?_ | refine H.db ?_ | refine ea ?_ | (refine H.st ?_; (conv => whnf); clear H; intro w H) | refine condT fun _ => ?_ | refine condF fun _ => ?_ | refine condNT fun _ => ?_ | refine condNF fun _ => ?_ | refine H.da (hc1 _ _ (by rfl)) ?_ | refine H.datw hc1 (by rfl) ?_ | refine H.datl hc1 (by rfl) ?_ | refine H.lw ?_ | refine H.ll ?_)); (conv => whnf))
      refine (hone p hp V w (Sub.refl _) H.data).use ?_
      rintro v w ⟨V2, x, n, c, i, hV2, K, rfl, hres⟩
      (have hKb := K.base; replace H := Rel.call H K)
      simp only [List.nil_append] at H
      ((repeat ((conv => whnf); first | refine an ?_ | ((first | refine H.nwD ?_ | refine H.nw ?_); clear H; intro w _ H) | refine H.ce ?_ | refine H.db ?_ | refine ea ?_ | (refine H.st ?_; (conv => whnf); clear H; intro w H) | refine condT fun _ => ?_ | refine condF fun _ => ?_ | refine condNT fun _ => ?_ | refine condNF fun _ => ?_ | refine H.da (hc1 _ _ (by rfl)) ?_ | refine H.datw hc1 (by rfl) ?_ | refine H.datl hc1 (by rfl) ?_ | refine H.lw ?_ | refine H.ll ?_)); (conv => whnf))
      exact ⟨(x, n, c, i, b8), (by repeat (first | exact trivial | refine ⟨rfl, ?_⟩)), V2, hV2, H.sx, by cases ho : one p <;> (rw [ho] at hres; exact hres)⟩
    ((repeat ((conv => whnf); first | refine an ?_ | ((first | refine H.nwD ?_ | refine H.nw ?_); clear H; intro w _ H) | refine H.ce ?_ | refine H.db ?_ | refine ea ?_ | (refine H.st ?_; (conv => whnf); clear H; intro w H) | refine condT fun _ => ?_ | refine condF fun _ => ?_ | refine condNT fun _ => ?_ | refine condNF fun _ => ?_ | refine H.da (hc1 _ _ (by rfl)) ?_ | refine H.datw hc1 (by rfl) ?_ | refine H.datl hc1 (by rfl) ?_ | refine H.lw ?_ | refine H.ll ?_)); (conv => whnf))
    refine (hone p hp V w (Sub.refl _) H.data).use ?_
    rintro v w ⟨V2, x, n, c, i, hV2, K, rfl, hres⟩
    (have hKb := K.base; replace H := Rel.call H K)
    simp only [List.nil_append] at H
    ((repeat ((conv => whnf); first | refine an ?_ | refine H.ce ?_ | refine H.db ?_ | refine ea ?_ | (refine H.st ?_; (conv => whnf); clear H; intro w H) | refine condT fun _ => ?_ | refine condF fun _ => ?_ | refine condNT fun _ => ?_ | refine condNF fun _ => ?_ | refine H.da (hc1 _ _ (by rfl)) ?_ | refine H.datw hc1 (by rfl) ?_ | refine H.datl hc1 (by rfl) ?_ | refine H.lw ?_ | refine H.ll ?_)); (conv => whnf))
    ((first | refine Rel.nwD H ?_ | refine Rel.nw H ?_); clear H; intro w b8 H)
    ((repeat ((conv => whnf); first | refine an ?_ | ((first | refine H.nwD ?_ | refine H.nw ?_); clear H; intro w _ H) | refine H.ce ?_ | refine H.db ?_ | refine ea ?_ | (refine H.st ?_; (conv => whnf); clear H; intro w H) | refine condT fun _ => ?_ | refine condF fun _ => ?_ | refine condNT fun _ => ?_ | refine condNF fun _ => ?_ | refine H.da (hc1 _ _ (by rfl)) ?_ | refine H.datw hc1 (by rfl) ?_ | refine H.datl hc1 (by rfl) ?_ | refine H.lw ?_ | refine H.ll ?_)); (conv => whnf))
    exact ⟨(x, n, c, i, b8), (by repeat (first | exact trivial | refine ⟨rfl, ?_⟩)), V2, hV2, H.sx, by cases ho : one p <;> (rw [ho] at hres; exact hres)⟩
  clear H
  rintro ⟨x, n, c, i, b8⟩ w ⟨V2, hV2, H, hres⟩
  dsimp only at H hres
  cases ho : one p with
  | bad c' i' =>
    rw [ho] at hres
    obtain ⟨rfl, rfl, hc0⟩ := hres
    ((repeat ((conv => whnf); first | refine an ?_ | ((first | refine H.nwD ?_ | refine H.nw ?_); clear H; intro w _ H) | refine H.ce ?_ | refine H.db ?_ | refine ea ?_ | (refine H.st ?_; (conv => whnf); clear H; intro w H) | refine condT fun _ => ?_ | refine condF fun _ => ?_ | refine condNT fun _ => ?_ | refine condNF fun _ => ?_ | refine H.da (hc1 _ _ (by rfl)) ?_ | refine H.datw hc1 (by rfl) ?_ | refine H.datl hc1 (by rfl) ?_ | refine H.lw ?_ | refine H.ll ?_)); (conv => whnf))
    exact ⟨V2, ⟨none, 0, 0⟩, p, c, i, hV2, rfl, H.sx, fun h => absurd rfl h, fun _ => by rw [Int.toNat_natCast, ho]; exact ⟨rfl, rfl, hc0⟩⟩
  | ok y r =>
    rw [ho] at hres
    obtain ⟨rfl, rfl, rfl, hxy⟩ := hres
    ((repeat ((conv => whnf); first | refine an ?_ | ((first | refine H.nwD ?_ | refine H.nw ?_); clear H; intro w _ H) | refine H.ce ?_ | refine H.db ?_ | refine ea ?_ | (refine H.st ?_; (conv => whnf); clear H; intro w H) | refine condT fun _ => ?_ | refine condF fun _ => ?_ | refine condNT fun _ => ?_ | refine condNF fun _ => ?_ | refine H.da (hc1 _ _ (by rfl)) ?_ | refine H.datw hc1 (by rfl) ?_ | refine H.datl hc1 (by rfl) ?_ | refine H.lw ?_ | refine H.ll ?_)); (conv => whnf))
    exact ⟨V2, x, r, 0, 0, hV2, rfl, H.sx, fun h => absurd rfl h, fun _ => by rw [Int.toNat_natCast, ho]; exact ⟨rfl, rfl, rfl, hxy⟩⟩
end Go.Proofs.YtlhgmigoncmcaaaGreat
namespace Go.Proofs.YtlhgmigoncmcaaaGreat
open Go Go.RowKit

theorem read_dig {w0 V0 V w : World} {own : List Res} {rb : Nat} {s : Sl} {l : List UInt8} {a c i : Int} (H : Rel w0 V0 (.blk rb [s.v, iv a, iv c, iv i] 104 :: own) V w) {g : FuncId} {cap : List Value} {one : Nat → Got Dig}
    (hone : ∀ q, q ≤ l.length → Reads V g cap s (fun d : Dig => .agg (digC d).toArray) eqR q (one q)) (hst : St l a c i) :
    Ret Tryz.prog 59 [.pointer (some ⟨rb, 0, none⟩), .func (.func g) #[] cap.toArray].toArray w fun v w' => ∃ (V' : World) (x : Dig) (a' c' i' : Int), Sub V V' ∧ v = .agg (digC x).toArray ∧ Rel w0 V0 (.blk rb [s.v, iv a', iv c', iv i'] 104 :: own) V' w' ∧ Step one eqR V' x a c i a' c' i' := by
  refine cal_of_vc tabOk Tryz.func59 rfl (by kernel_rfl) 43 rfl (by simp) [0, 1, 4, 5, 6, 7, 8, 14, 36] ?_
  ((repeat ((conv => whnf); first | refine an ?_ | refine H.ce ?_ | refine H.db ?_ | refine ea ?_ | (refine H.st ?_; (conv => whnf); clear H; intro w H) | refine condT fun _ => ?_ | refine condF fun _ => ?_ | refine condNT fun _ => ?_ | refine condNF fun _ => ?_ | refine H.da (hc1 _ _ (by rfl)) ?_ | refine H.datw hc1 (by rfl) ?_ | refine H.datl hc1 (by rfl) ?_ | refine H.lw ?_ | refine H.ll ?_)); (conv => whnf))
  ((first | refine Rel.nwD H ?_ | refine Rel.nw H ?_); clear H; intro w b4 H)
  ((repeat ((conv => whnf); first | refine an ?_ | refine H.ce ?_ | refine H.db ?_ | refine ea ?_ | (refine H.st ?_; (conv => whnf); clear H; intro w H) | refine condT fun _ => ?_ | refine condF fun _ => ?_ | refine condNT fun _ => ?_ | refine condNF fun _ => ?_ | refine H.da (hc1 _ _ (by rfl)) ?_ | refine H.datw hc1 (by rfl) ?_ | refine H.datl hc1 (by rfl) ?_ | refine H.lw ?_ | refine H.ll ?_)); (conv => whnf))
  ((first | refine Rel.nwD H ?_ | refine Rel.nw H ?_); clear H; intro w b5 H)
  by_cases hc : c = 0
  rotate_left
  · ((repeat ((conv => whnf); first | refine an ?_ | ((first | refine H.nwD ?_ | refine H.nw ?_); clear H; intro w _ H) | refine H.ce ?_ | refine H.db ?_ | refine ea ?_ | (refine H.st ?_; (conv => whnf); clear H; intro w H) | refine condT fun _ => ?_ | refine condF fun _ => ?_ | refine condNT fun _ => ?_ | refine condNF fun _ => ?_ | refine H.da (hc1 _ _ (by rfl)) ?_ | refine H.datw hc1 (by rfl) ?_ | refine H.datl hc1 (by rfl) ?_ | refine H.lw ?_ | refine H.ll ?_)); (conv => whnf))
    exact ⟨V, fun _ => 0, a, c, i, Sub.refl _, rfl, H.sx, fun _ => ⟨rfl, rfl⟩, fun h => absurd h hc⟩
  obtain ⟨rfl, p, rfl, hp⟩ := hst hc
  subst hc
  ((repeat ((conv => whnf); first | refine an ?_ | ((first | refine H.nwD ?_ | refine H.nw ?_); clear H; intro w _ H) | refine H.ce ?_ | refine H.db ?_ | refine ea ?_ | (refine H.st ?_; (conv => whnf); clear H; intro w H) | refine condT fun _ => ?_ | refine condF fun _ => ?_ | refine condNT fun _ => ?_ | refine condNF fun _ => ?_ | refine H.da (hc1 _ _ (by rfl)) ?_ | refine H.datw hc1 (by rfl) ?_ | refine H.datl hc1 (by rfl) ?_ | refine H.lw ?_ | refine H.ll ?_)); (conv => whnf))
  refine SemC.cutN (fun q : (Dig × Int × Int × Int × Nat × Nat) => [(0, .pointer (some ⟨rb, 0, none⟩)), (4, .pointer (some ⟨b4, 0, none⟩)), (5, .pointer (some ⟨b5, 0, none⟩)), (6, .pointer (some ⟨q.2.2.2.2.1, 0, none⟩)), (7, iv q.2.1), (8, .pointer (some ⟨q.2.2.2.2.2, 0, none⟩))])
    (fun q w' => ∃ V', Sub V V' ∧ Rel w0 V0 (.blk q.2.2.2.2.1 (digC q.1) 56 :: .blk q.2.2.2.2.2 [iv q.2.2.1, iv q.2.2.2.1] 28 :: .blk b5 (digC fun _ => 0) 56 :: .blk b4 (digC fun _ => 0) 56 :: .blk rb [s.v, iv p, iv 0, iv 0] 104 :: own) V' w' ∧ (match one p with | .bad c' i' => q.2.2.1 = c' ∧ q.2.2.2.1 = i' ∧ c' ≠ 0 | .ok y r => q.2.2.1 = 0 ∧ q.2.2.2.1 = 0 ∧ q.2.1 = r ∧ q.1 = y)) ?_ ?_
  · ((first | refine draw_vcT (id := 4) tabOk mixed [14, 15] [0, 1, 2, 3, 4, 5, 6, 7, 8, 9, 10, 11, 12, 13, 14, 15, 16, 17, 18] [(9, []), (14, []), (15, []), (16, [9, 14, 15]), (18, [9, 14, 15, 16])] (by kernel_rfl) ?_); intro w hdw; replace H := Rel.ext H hdw.ext)
    ((repeat ((conv => whnf); first | refine an ?_ | refine H.ce ?_ | refine H.db ?_ | refine ea ?_ | (refine H.st ?_; (conv => whnf); clear H; intro w H) | refine condT fun _ => ?_ | refine condF fun _ => ?_ | refine condNT fun _ => ?_ | refine condNF fun _ => ?_ | refine H.da (hc1 _ _ (by rfl)) ?_ | refine H.datw hc1 (by rfl) ?_ | refine H.datl hc1 (by rfl) ?_ | refine H.lw ?_ | refine H.ll ?_)); (conv => whnf))
    refine ⟨?_, ?_, ?_⟩
    · ((repeat ((conv => whnf); first | refine an ?_ | ((first | refine H.nwD ?_ | refine H.nw ?_); clear H; intro w _ H) | refine H.ce ?_ | refine H.db ?_ | refine ea ?_ | (refine H.st ?_; (conv => whnf); clear H; intro w H) | refine condT fun _ => ?_ | refine condF fun _ => ?_ | refine condNT fun _ => ?_ | refine condNF fun _ => ?_ | refine H.da (hc1 _ _ (by rfl)) ?_ | refine H.datw hc1 (by rfl) ?_ | refine H.datl hc1 (by rfl) ?_ | refine H.lw ?_ | refine H.ll ?_)); (conv => whnf))
      refine (hone p hp V w (Sub.refl _) H.data).use ?_
      rintro v w ⟨V2, x, n, c, i, hV2, K, rfl, hres⟩
      (have hKb := K.base; replace H := Rel.call H K)
      simp only [List.nil_append] at H
      ((repeat ((conv => whnf); first | refine an ?_ | refine H.ce ?_ | refine H.db ?_ | refine ea ?_ | (refine H.st ?_; (conv => whnf); clear H; intro w H) | refine condT fun _ => ?_ | refine condF fun _ => ?_ | refine condNT fun _ => ?_ | refine condNF fun _ => ?_ | refine H.da (hc1 _ _ (by rfl)) ?_ | refine H.datw hc1 (by rfl) ?_ | refine H.datl hc1 (by rfl) ?_ | refine H.lw ?_ | refine H.ll ?_)); (conv => whnf))
      refine ⟨?_, ?_⟩
      · ((first | refine Rel.nwD H ?_ | refine Rel.nw H ?_); clear H; intro w b6 H)
        ((repeat ((conv => whnf); first | refine an ?_ | refine H.ce ?_ | refine H.db ?_ | refine ea ?_ | (refine H.st ?_; (conv => whnf); clear H; intro w H) | refine condT fun _ => ?_ | refine condF fun _ => ?_ | refine condNT fun _ => ?_ | refine condNF fun _ => ?_ | refine H.da (hc1 _ _ (by rfl)) ?_ | refine H.datw hc1 (by rfl) ?_ | refine H.datl hc1 (by rfl) ?_ | refine H.lw ?_ | refine H.ll ?_)); (conv => whnf))
        ((first | refine Rel.nwD H ?_ | refine Rel.nw H ?_); clear H; intro w b8 H)
        ((repeat ((conv => whnf); first | refine an ?_ | ((first | refine H.nwD ?_ | refine H.nw ?_); clear H; intro w _ H) | refine H.ce ?_ | refine H.db ?_ | refine ea ?_ | (refine H.st ?_; (conv => whnf); clear H; intro w H) | refine condT fun _ => ?_ | refine condF fun _ => ?_ | refine condNT fun _ => ?_ | refine condNF fun _ => ?_ | refine H.da (hc1 _ _ (by rfl)) ?_ | refine H.datw hc1 (by rfl) ?_ | refine H.datl hc1 (by rfl) ?_ | refine H.lw ?_ | refine H.ll ?_)); (conv => whnf))
        refine ⟨(x, n, c, i, b6, b8), (by repeat (first | exact trivial | refine ⟨rfl, ?_⟩)), V2, hV2, H.front_1, by cases ho : one p <;> (rw [ho] at hres; exact hres)⟩
      · ((first | refine Rel.nwD H ?_ | refine Rel.nw H ?_); clear H; intro w b8 H)
        ((repeat ((conv => whnf); first | refine an ?_ | refine H.ce ?_ | refine H.db ?_ | refine ea ?_ | (refine H.st ?_; (conv => whnf); clear H; intro w H) | refine condT fun _ => ?_ | refine condF fun _ => ?_ | refine condNT fun _ => ?_ | refine condNF fun _ => ?_ | refine H.da (hc1 _ _ (by rfl)) ?_ | refine H.datw hc1 (by rfl) ?_ | refine H.datl hc1 (by rfl) ?_ | refine H.lw ?_ | refine H.ll ?_)); (conv => whnf))
        ((first | refine Rel.nwD H ?_ | refine Rel.nw H ?_); clear H; intro w b6 H)
        ((repeat ((conv => whnf); first | refine an ?_ | ((first | refine H.nwD ?_ | refine H.nw ?_); clear H; intro w _ H) | refine H.ce ?_ | refine H.db ?_ | refine ea ?_ | (refine H.st ?_; (conv => whnf); clear H; intro w H) | refine condT fun _ => ?_ | refine condF fun _ => ?_ | refine condNT fun _ => ?_ | refine condNF fun _ => ?_ | refine H.da (hc1 _ _ (by rfl)) ?_ | refine H.datw hc1 (by rfl) ?_ | refine H.datl hc1 (by rfl) ?_ | refine H.lw ?_ | refine H.ll ?_)); (conv => whnf))
        refine ⟨(x, n, c, i, b6, b8), (by repeat (first | exact trivial | refine ⟨rfl, ?_⟩)), V2, hV2, H, by cases ho : one p <;> (rw [ho] at hres; exact hres)⟩
    · ((first | refine Rel.nwD H ?_ | refine Rel.nw H ?_); clear H; intro w b6 H)
      ((repeat ((conv => whnf); first | refine an ?_ | refine H.ce ?_ | refine H.db ?_ | refine ea ?_ | (refine H.st ?_; (conv => whnf); clear H; intro w H) | refine condT fun _ => ?_ | refine condF fun _ => ?_ | refine condNT fun _ => ?_ | refine condNF fun _ => ?_ | refine H.da (hc1 _ _ (by rfl)) ?_ | refine H.datw hc1 (by rfl) ?_ | refine H.datl hc1 (by rfl) ?_ | refine H.lw ?_ | refine H.ll ?_)); (conv => whnf))
      refine ⟨?_, ?_⟩
      · ((repeat ((conv => whnf); first | refine an ?_ | ((first | refine H.nwD ?_ | refine H.nw ?_); clear H; intro w _ H) | refine H.ce ?_ | refine H.db ?_ | refine ea ?_ | (refine H.st ?_; (conv => whnf); clear H; intro w H) | refine condT fun _ => ?_ | refine condF fun _ => ?_ | refine condNT fun _ => ?_ | refine condNF fun _ => ?_ | refine H.da (hc1 _ _ (by rfl)) ?_ | refine H.datw hc1 (by rfl) ?_ | refine H.datl hc1 (by rfl) ?_ | refine H.lw ?_ | refine H.ll ?_)); (conv => whnf))
        refine (hone p hp V w (Sub.refl _) H.data).use ?_
        rintro v w ⟨V2, x, n, c, i, hV2, K, rfl, hres⟩
        (have hKb := K.base; replace H := Rel.call H K)
        simp only [List.nil_append] at H
        ((repeat ((conv => whnf); first | refine an ?_ | refine H.ce ?_ | refine H.db ?_ | refine ea ?_ | (refine H.st ?_; (conv => whnf); clear H; intro w H) | refine condT fun _ => ?_ | refine condF fun _ => ?_ | refine condNT fun _ => ?_ | refine condNF fun _ => ?_ | refine H.da (hc1 _ _ (by rfl)) ?_ | refine H.datw hc1 (by rfl) ?_ | refine H.datl hc1 (by rfl) ?_ | refine H.lw ?_ | refine H.ll ?_)); (conv => whnf))
        ((first | refine Rel.nwD H ?_ | refine Rel.nw H ?_); clear H; intro w b8 H)
        ((repeat ((conv => whnf); first | refine an ?_ | ((first | refine H.nwD ?_ | refine H.nw ?_); clear H; intro w _ H) | refine H.ce ?_ | refine H.db ?_ | refine ea ?_ | (refine H.st ?_; (conv => whnf); clear H; intro w H) | refine condT fun _ => ?_ | refine condF fun _ => ?_ | refine condNT fun _ => ?_ | refine condNF fun _ => ?_ | refine H.da (hc1 _ _ (by rfl)) ?_ | refine H.datw hc1 (by rfl) ?_ | refine H.datl hc1 (by rfl) ?_ | refine H.lw ?_ | refine H.ll ?_)); (conv => whnf))
        refine ⟨(x, n, c, i, b6, b8), (by repeat (first | exact trivial | refine ⟨rfl, ?_⟩)), V2, hV2, H.front_1, by cases ho : one p <;> (rw [ho] at hres; exact hres)⟩
      · ((first | refine Rel.nwD H ?_ | refine Rel.nw H ?_); clear H; intro w b8 H)
        ((repeat ((conv => whnf); first | refine an ?_ | ((first | refine H.nwD ?_ | refine H.nw ?_); clear H; intro w _ H) | refine H.ce ?_ | refine H.db ?_ | refine ea ?_ | (refine H.st ?_; (conv => whnf); clear H; intro w H) | refine condT fun _ => ?_ | refine condF fun _ => ?_ | refine condNT fun _ => ?_ | refine condNF fun _ => ?_ | refine H.da (hc1 _ _ (by rfl)) ?_ | refine H.datw hc1 (by rfl) ?_ | refine H.datl hc1 (by rfl) ?_ | refine H.lw ?_ | refine H.ll ?_)); (conv => whnf))
        refine (hone p hp V w (Sub.refl _) H.data).use ?_
        rintro v w ⟨V2, x, n, c, i, hV2, K, rfl, hres⟩
        (have hKb := K.base; replace H := Rel.call H K)
        simp only [List.nil_append] at H
        ((repeat ((conv => whnf); first | refine an ?_ | refine H.ce ?_ | refine H.db ?_ | refine ea ?_ | (refine H.st ?_; (conv => whnf); clear H; intro w H) | refine condT fun _ => ?_ | refine condF fun _ => ?_ | refine condNT fun _ => ?_ | refine condNF fun _ => ?_ | refine H.da (hc1 _ _ (by rfl)) ?_ | refine H.datw hc1 (by rfl) ?_ | refine H.datl hc1 (by rfl) ?_ | refine H.lw ?_ | refine H.ll ?_)); (conv => whnf))
        ((repeat ((conv => whnf); first | refine an ?_ | ((first | refine H.nwD ?_ | refine H.nw ?_); clear H; intro w _ H) | refine H.ce ?_ | refine H.db ?_ | refine ea ?_ | (refine H.st ?_; (conv => whnf); clear H; intro w H) | refine condT fun _ => ?_ | refine condF fun _ => ?_ | refine condNT fun _ => ?_ | refine condNF fun _ => ?_ | refine H.da (hc1 _ _ (by rfl)) ?_ | refine H.datw hc1 (by rfl) ?_ | refine H.datl hc1 (by rfl) ?_ | refine H.lw ?_ | refine H.ll ?_)); (conv => whnf))
        refine ⟨(x, n, c, i, b6, b8), (by repeat (first | exact trivial | refine ⟨rfl, ?_⟩)), V2, hV2, H.front_1, by cases ho : one p <;> (rw [ho] at hres; exact hres)⟩
    · ((first | refine Rel.nwD H ?_ | refine Rel.nw H ?_); clear H; intro w b8 H)
      ((repeat ((conv => whnf); first | refine an ?_ | refine H.ce ?_ | refine H.db ?_ | refine ea ?_ | (refine H.st ?_; (conv => whnf); clear H; intro w H) | refine condT fun _ => ?_ | refine condF fun _ => ?_ | refine condNT fun _ => ?_ | refine condNF fun _ => ?_ | refine H.da (hc1 _ _ (by rfl)) ?_ | refine H.datw hc1 (by rfl) ?_ | refine H.datl hc1 (by rfl) ?_ | refine H.lw ?_ | refine H.ll ?_)); (conv => whnf))
      refine ⟨?_, ?_⟩
      · ((repeat ((conv => whnf); first | refine an ?_ | ((first | refine H.nwD ?_ | refine H.nw ?_); clear H; intro w _ H) | refine H.ce ?_ | refine H.db ?_ | refine ea ?_ | (refine H.st ?_; (conv => whnf); clear H; intro w H) | refine condT fun _ => ?_ | refine condF fun _ => ?_ | refine condNT fun _ => ?_ | refine condNF fun _ => ?_ | refine H.da (hc1 _ _ (by rfl)) ?_ | refine H.datw hc1 (by rfl) ?_ | refine H.datl hc1 (by rfl) ?_ | refine H.lw ?_ | refine H.ll ?_)); (conv => whnf))
        refine (hone p hp V w (Sub.refl _) H.data).use ?_
        rintro v w ⟨V2, x, n, c, i, hV2, K, rfl, hres⟩
        (have hKb := K.base; replace H := Rel.call H K)
        simp only [List.nil_append] at H
        ((repeat ((conv => whnf); first | refine an ?_ | refine H.ce ?_ | refine H.db ?_ | refine ea ?_ | (refine H.st ?_; (conv => whnf); clear H; intro w H) | refine condT fun _ => ?_ | refine condF fun _ => ?_ | refine condNT fun _ => ?_ | refine condNF fun _ => ?_ | refine H.da (hc1 _ _ (by rfl)) ?_ | refine H.datw hc1 (by rfl) ?_ | refine H.datl hc1 (by rfl) ?_ | refine H.lw ?_ | refine H.ll ?_)); (conv => whnf))
        ((first | refine Rel.nwD H ?_ | refine Rel.nw H ?_); clear H; intro w b6 H)
        ((repeat ((conv => whnf); first | refine an ?_ | ((first | refine H.nwD ?_ | refine H.nw ?_); clear H; intro w _ H) | refine H.ce ?_ | refine H.db ?_ | refine ea ?_ | (refine H.st ?_; (conv => whnf); clear H; intro w H) | refine condT fun _ => ?_ | refine condF fun _ => ?_ | refine condNT fun _ => ?_ | refine condNF fun _ => ?_ | refine H.da (hc1 _ _ (by rfl)) ?_ | refine H.datw hc1 (by rfl) ?_ | refine H.datl hc1 (by rfl) ?_ | refine H.lw ?_ | refine H.ll ?_)); (conv => whnf))
        refine ⟨(x, n, c, i, b6, b8), (by repeat (first | exact trivial | refine ⟨rfl, ?_⟩)), V2, hV2, H, by cases ho : one p <;> (rw [ho] at hres; exact hres)⟩
      · ((first | refine Rel.nwD H ?_ | refine Rel.nw H ?_); clear H; intro w b6 H)
        ((repeat ((conv => whnf); first | refine an ?_ | ((first | refine H.nwD ?_ | refine H.nw ?_); clear H; intro w _ H) | refine H.ce ?_ | refine H.db ?_ | refine ea ?_ | (refine H.st ?_; (conv => whnf); clear H; intro w H) | refine condT fun _ => ?_ | refine condF fun _ => ?_ | refine condNT fun _ => ?_ | refine condNF fun _ => ?_ | refine H.da (hc1 _ _ (by rfl)) ?_ | refine H.datw hc1 (by rfl) ?_ | refine H.datl hc1 (by rfl) ?_ | refine H.lw ?_ | refine H.ll ?_)); (conv => whnf))
        refine (hone p hp V w (Sub.refl _) H.data).use ?_
        rintro v w ⟨V2, x, n, c, i, hV2, K, rfl, hres⟩
        (have hKb := K.base; replace H := Rel.call H K)
        simp only [List.nil_append] at H
        ((repeat ((conv => whnf); first | refine an ?_ | refine H.ce ?_ | refine H.db ?_ | refine ea ?_ | (refine H.st ?_; (conv => whnf); clear H; intro w H) | refine condT fun _ => ?_ | refine condF fun _ => ?_ | refine condNT fun _ => ?_ | refine condNF fun _ => ?_ | refine H.da (hc1 _ _ (by rfl)) ?_ | refine H.datw hc1 (by rfl) ?_ | refine H.datl hc1 (by rfl) ?_ | refine H.lw ?_ | refine H.ll ?_)); (conv => whnf))
        ((repeat ((conv => whnf); first | refine an ?_ | ((first | refine H.nwD ?_ | refine H.nw ?_); clear H; intro w _ H) | refine H.ce ?_ | refine H.db ?_ | refine ea ?_ | (refine H.st ?_; (conv => whnf); clear H; intro w H) | refine condT fun _ => ?_ | refine condF fun _ => ?_ | refine condNT fun _ => ?_ | refine condNF fun _ => ?_ | refine H.da (hc1 _ _ (by rfl)) ?_ | refine H.datw hc1 (by rfl) ?_ | refine H.datl hc1 (by rfl) ?_ | refine H.lw ?_ | refine H.ll ?_)); (conv => whnf))
        refine ⟨(x, n, c, i, b6, b8), (by repeat (first | exact trivial | refine ⟨rfl, ?_⟩)), V2, hV2, H, by cases ho : one p <;> (rw [ho] at hres; exact hres)⟩
  clear H
  rintro ⟨x, n, c, i, b6, b8⟩ w ⟨V2, hV2, H, hres⟩
  dsimp only at H hres
  cases ho : one p with
  | bad c' i' =>
    rw [ho] at hres
    obtain ⟨rfl, rfl, hc0⟩ := hres
    ((repeat ((conv => whnf); first | refine an ?_ | ((first | refine H.nwD ?_ | refine H.nw ?_); clear H; intro w _ H) | refine H.ce ?_ | refine H.db ?_ | refine ea ?_ | (refine H.st ?_; (conv => whnf); clear H; intro w H) | refine condT fun _ => ?_ | refine condF fun _ => ?_ | refine condNT fun _ => ?_ | refine condNF fun _ => ?_ | refine H.da (hc1 _ _ (by rfl)) ?_ | refine H.datw hc1 (by rfl) ?_ | refine H.datl hc1 (by rfl) ?_ | refine H.lw ?_ | refine H.ll ?_)); (conv => whnf))
    exact ⟨V2, fun _ => 0, p, c, i, hV2, rfl, H.sx, fun h => absurd rfl h, fun _ => by rw [Int.toNat_natCast, ho]; exact ⟨rfl, rfl, hc0⟩⟩
  | ok y r =>
    rw [ho] at hres
    obtain ⟨rfl, rfl, rfl, hxy⟩ := hres
    ((repeat ((conv => whnf); first | refine an ?_ | ((first | refine H.nwD ?_ | refine H.nw ?_); clear H; intro w _ H) | refine H.ce ?_ | refine H.db ?_ | refine ea ?_ | (refine H.st ?_; (conv => whnf); clear H; intro w H) | refine condT fun _ => ?_ | refine condF fun _ => ?_ | refine condNT fun _ => ?_ | refine condNF fun _ => ?_ | refine H.da (hc1 _ _ (by rfl)) ?_ | refine H.datw hc1 (by rfl) ?_ | refine H.datl hc1 (by rfl) ?_ | refine H.lw ?_ | refine H.ll ?_)); (conv => whnf))
    exact ⟨V2, x, r, 0, 0, hV2, rfl, H.sx, fun h => absurd rfl h, fun _ => by rw [Int.toNat_natCast, ho]; exact ⟨rfl, rfl, rfl, hxy⟩⟩
end Go.Proofs.YtlhgmigoncmcaaaGreat
