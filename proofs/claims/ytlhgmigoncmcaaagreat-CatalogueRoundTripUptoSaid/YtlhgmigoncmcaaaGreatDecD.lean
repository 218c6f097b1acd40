/-
  Reading a catalogue: lists, references, entries.
-/
import Derived.Test.YtlhgmigoncmcaaaGreatDecA
import Derived.Test.YtlhgmigoncmcaaaGreatEntP
namespace Go.Proofs.YtlhgmigoncmcaaaGreat
open Go Go.RowKit

/-- what a reader has read so far -/
structure Tr {α : Type} (g : Got α) (P : α → Prop) (a c i : Int) : Prop where
  out : match g with
    | .bad c' i' => c = c' ∧ i = i' ∧ c' ≠ 0
    | .ok y q => c = 0 ∧ i = 0 ∧ a = q ∧ P y
theorem Tr.start (p : Nat) : Tr (.ok () p) (fun _ => True) p 0 0 := ⟨⟨rfl, rfl, rfl, trivial⟩⟩
theorem Tr.step {α β γ : Type} {g : Got α} {P : α → Prop} {a c i a' c' i' : Int} {one : Nat → Got γ} {R : World → β → γ → Prop} {V : World} {x : β} (h : Tr g P a c i) (s : Step one R V x a c i a' c' i') : Tr (g.and one) (fun t => P t.1 ∧ R V x t.2) a' c' i' := by
  have h := h.out
  cases g with
  | bad c1 i1 =>
    obtain ⟨rfl, rfl, h0⟩ := h
    obtain ⟨rfl, rfl⟩ := s.fail h0
    exact ⟨⟨rfl, rfl, h0⟩⟩
  | ok y q =>
    obtain ⟨rfl, rfl, rfl, hP⟩ := h
    have hg := s.go rfl
    rw [Int.toNat_natCast] at hg
    refine ⟨?_⟩
    simp only [Got.and]
    cases ho : one q with
    | bad c1 i1 =>
      rw [ho] at hg
      exact hg
    | ok z r =>
      rw [ho] at hg
      obtain ⟨h1, h2, h3, h4⟩ := hg
      exact ⟨h1, h2, h3, hP, h4⟩
theorem Rds.inn {α : Type} {l : List UInt8} {put : α → List UInt8} {one : Nat → Got α} (h : Rds l put one) : ∀ q x q', q ≤ l.length → one q = .ok x q' → q' ≤ l.length := fun q x q' hq ho => (h.ok q q' x hq ho).2.1
theorem St.start (l : List UInt8) {p : Nat} (hp : p ≤ l.length) : St l p 0 0 := fun _ => ⟨rfl, p, rfl, hp⟩
section
variable {V W : World} {s : Sl} {l : List UInt8}
theorem list_strs (hV : Sub V W) {g : FuncId} {cap : List Value} : Ret Tryz.prog 65 [.func (.func g) #[] cap.toArray].toArray W fun v w' => ∃ (V' : World) (b : Nat), Sub V V' ∧ v = .func (.func 88) #[] [.pointer (some ⟨b, 0, none⟩)].toArray ∧ Rel W V [] V' w' ∧ V'.cell? ⟨b, 0, none⟩ = some (.func (.func g) #[] cap.toArray) := by
  have H := Rel.start hV
  refine cal_of_vc tabOk Tryz.func65 rfl (by kernel_rfl) 4 rfl (by simp) [0, 1, 2] ?_
  ((repeat ((conv => whnf); first | refine an ?_ | refine H.ce ?_ | refine H.db ?_ | refine ea ?_ | (refine H.st ?_; (conv => whnf); clear H; intro w H) | refine condT fun _ => ?_ | refine condF fun _ => ?_ | refine condNT fun _ => ?_ | refine condNF fun _ => ?_ | refine H.da (hc1 _ _ (by rfl)) ?_ | refine H.datw hc1 (by rfl) ?_ | refine H.datl hc1 (by rfl) ?_ | refine H.lw ?_ | refine H.ll ?_)); (conv => whnf))
  ((first | refine Rel.nwD H ?_ | refine Rel.nw H ?_); clear H; intro w b1 H)
  ((repeat ((conv => whnf); first | refine an ?_ | ((first | refine H.nwD ?_ | refine H.nw ?_); clear H; intro w _ H) | refine H.ce ?_ | refine H.db ?_ | refine ea ?_ | (refine H.st ?_; (conv => whnf); clear H; intro w H) | refine condT fun _ => ?_ | refine condF fun _ => ?_ | refine condNT fun _ => ?_ | refine condNF fun _ => ?_ | refine H.da (hc1 _ _ (by rfl)) ?_ | refine H.datw hc1 (by rfl) ?_ | refine H.datl hc1 (by rfl) ?_ | refine H.lw ?_ | refine H.ll ?_)); (conv => whnf))
  obtain ⟨V1, hV1, H, hb⟩ := H.freezeBlk
  exact ⟨V1, b1, hV1, rfl, H, hb.cel rfl⟩
set_option maxRecDepth 100000 in
theorem list1_strs (hs : Byt V s l) (hl : l.length ≤ 4294967296) {p : Nat} (hp : p ≤ l.length) {g : FuncId} {cap : List Value} {b : Nat} (hc1 : V.cell? ⟨b, 0, none⟩ = some (.func (.func g) #[] cap.toArray)) {one : Nat → Got (List UInt8)} (hone : ∀ q, q ≤ l.length → Reads V g cap s str eqR q (one q)) (hin : ∀ q x q', q ≤ l.length → one q = .ok x q' → q' ≤ l.length) :
    Reads V 88 [.pointer (some ⟨b, 0, none⟩)] s Sl.v (RL strC eqR) p (listAt l one l.length p) := by
  intro V1 W1 h1 h2
  have H := Rel.start h2
  have hs1 := hs.up h1
  have hlen := hs1.len
  replace hc1 := h1.cell hc1
  refine cal_of_vc tabOk Tryz.func88 rfl (by kernel_rfl) 17 rfl (by simp) [0, 1, 2, 5, 6, 7] ?_
  ((repeat ((conv => whnf); first | refine an ?_ | refine H.ce ?_ | refine H.db ?_ | refine ea ?_ | (refine H.st ?_; (conv => whnf); clear H; intro w H) | refine condT fun _ => ?_ | refine condF fun _ => ?_ | refine condNT fun _ => ?_ | refine condNF fun _ => ?_ | refine H.da (hc1 _ _ (by rfl)) ?_ | refine H.datw hc1 (by rfl) ?_ | refine H.datl hc1 (by rfl) ?_ | refine H.lw ?_ | refine H.ll ?_)); (conv => whnf))
  ((first | refine Rel.nwD H ?_ | refine Rel.nw H ?_); clear H; intro w b7 H)
  ((repeat ((conv => whnf); first | refine an ?_ | ((first | refine H.nwD ?_ | refine H.nw ?_); clear H; intro w _ H) | refine H.ce ?_ | refine H.db ?_ | refine ea ?_ | (refine H.st ?_; (conv => whnf); clear H; intro w H) | refine condT fun _ => ?_ | refine condF fun _ => ?_ | refine condNT fun _ => ?_ | refine condNF fun _ => ?_ | refine H.da (hc1 _ _ (by rfl)) ?_ | refine H.datw hc1 (by rfl) ?_ | refine H.datl hc1 (by rfl) ?_ | refine H.lw ?_ | refine H.ll ?_)); (conv => whnf))
  rw [hlen]
  refine (readSlice_strs (m := l.length) H.data hs1 (by omega) hp (by constructor <;> omega) (fun q hq => (hone q hq).up h1) hin).use ?_
  rintro v w ⟨V2, x, n, c, i, hV2, K, rfl, hres⟩
  replace H := H.call K
  simp only [List.nil_append] at H
  ((repeat ((conv => whnf); first | refine an ?_ | ((first | refine H.nwD ?_ | refine H.nw ?_); clear H; intro w _ H) | refine H.ce ?_ | refine H.db ?_ | refine ea ?_ | (refine H.st ?_; (conv => whnf); clear H; intro w H) | refine condT fun _ => ?_ | refine condF fun _ => ?_ | refine condNT fun _ => ?_ | refine condNF fun _ => ?_ | refine H.da (hc1 _ _ (by rfl)) ?_ | refine H.datw hc1 (by rfl) ?_ | refine H.datl hc1 (by rfl) ?_ | refine H.lw ?_ | refine H.ll ?_)); (conv => whnf))
  exact ⟨V2, x, n, c, i, hV2, H.sx, rfl, hres⟩
theorem list_refs (hV : Sub V W) {g : FuncId} {cap : List Value} : Ret Tryz.prog 62 [.func (.func g) #[] cap.toArray].toArray W fun v w' => ∃ (V' : World) (b : Nat), Sub V V' ∧ v = .func (.func 86) #[] [.pointer (some ⟨b, 0, none⟩)].toArray ∧ Rel W V [] V' w' ∧ V'.cell? ⟨b, 0, none⟩ = some (.func (.func g) #[] cap.toArray) := by
  have H := Rel.start hV
  refine cal_of_vc tabOk Tryz.func62 rfl (by kernel_rfl) 4 rfl (by simp) [0, 1, 2] ?_
  ((repeat ((conv => whnf); first | refine an ?_ | refine H.ce ?_ | refine H.db ?_ | refine ea ?_ | (refine H.st ?_; (conv => whnf); clear H; intro w H) | refine condT fun _ => ?_ | refine condF fun _ => ?_ | refine condNT fun _ => ?_ | refine condNF fun _ => ?_ | refine H.da (hc1 _ _ (by rfl)) ?_ | refine H.datw hc1 (by rfl) ?_ | refine H.datl hc1 (by rfl) ?_ | refine H.lw ?_ | refine H.ll ?_)); (conv => whnf))
  ((first | refine Rel.nwD H ?_ | refine Rel.nw H ?_); clear H; intro w b1 H)
  ((repeat ((conv => whnf); first | refine an ?_ | ((first | refine H.nwD ?_ | refine H.nw ?_); clear H; intro w _ H) | refine H.ce ?_ | refine H.db ?_ | refine ea ?_ | (refine H.st ?_; (conv => whnf); clear H; intro w H) | refine condT fun _ => ?_ | refine condF fun _ => ?_ | refine condNT fun _ => ?_ | refine condNF fun _ => ?_ | refine H.da (hc1 _ _ (by rfl)) ?_ | refine H.datw hc1 (by rfl) ?_ | refine H.datl hc1 (by rfl) ?_ | refine H.lw ?_ | refine H.ll ?_)); (conv => whnf))
  obtain ⟨V1, hV1, H, hb⟩ := H.freezeBlk
  exact ⟨V1, b1, hV1, rfl, H, hb.cel rfl⟩
set_option maxRecDepth 100000 in
theorem list1_refs (hs : Byt V s l) (hl : l.length ≤ 4294967296) {p : Nat} (hp : p ≤ l.length) {g : FuncId} {cap : List Value} {b : Nat} (hc1 : V.cell? ⟨b, 0, none⟩ = some (.func (.func g) #[] cap.toArray)) {one : Nat → Got RefD} (hone : ∀ q, q ≤ l.length → Reads V g cap s (fun r : RefD => .agg (refC r).toArray) eqR q (one q)) (hin : ∀ q x q', q ≤ l.length → one q = .ok x q' → q' ≤ l.length) :
    Reads V 86 [.pointer (some ⟨b, 0, none⟩)] s Sl.v (RL refC eqR) p (listAt l one l.length p) := by
  intro V1 W1 h1 h2
  have H := Rel.start h2
  have hs1 := hs.up h1
  have hlen := hs1.len
  replace hc1 := h1.cell hc1
  refine cal_of_vc tabOk Tryz.func86 rfl (by kernel_rfl) 17 rfl (by simp) [0, 1, 2, 5, 6, 7] ?_
  ((repeat ((conv => whnf); first | refine an ?_ | refine H.ce ?_ | refine H.db ?_ | refine ea ?_ | (refine H.st ?_; (conv => whnf); clear H; intro w H) | refine condT fun _ => ?_ | refine condF fun _ => ?_ | refine condNT fun _ => ?_ | refine condNF fun _ => ?_ | refine H.da (hc1 _ _ (by rfl)) ?_ | refine H.datw hc1 (by rfl) ?_ | refine H.datl hc1 (by rfl) ?_ | refine H.lw ?_ | refine H.ll ?_)); (conv => whnf))
  ((first | refine Rel.nwD H ?_ | refine Rel.nw H ?_); clear H; intro w b7 H)
  ((repeat ((conv => whnf); first | refine an ?_ | ((first | refine H.nwD ?_ | refine H.nw ?_); clear H; intro w _ H) | refine H.ce ?_ | refine H.db ?_ | refine ea ?_ | (refine H.st ?_; (conv => whnf); clear H; intro w H) | refine condT fun _ => ?_ | refine condF fun _ => ?_ | refine condNT fun _ => ?_ | refine condNF fun _ => ?_ | refine H.da (hc1 _ _ (by rfl)) ?_ | refine H.datw hc1 (by rfl) ?_ | refine H.datl hc1 (by rfl) ?_ | refine H.lw ?_ | refine H.ll ?_)); (conv => whnf))
  rw [hlen]
  refine (readSlice_refs (m := l.length) H.data hs1 (by omega) hp (by constructor <;> omega) (fun q hq => (hone q hq).up h1) hin).use ?_
  rintro v w ⟨V2, x, n, c, i, hV2, K, rfl, hres⟩
  replace H := H.call K
  simp only [List.nil_append] at H
  ((repeat ((conv => whnf); first | refine an ?_ | ((first | refine H.nwD ?_ | refine H.nw ?_); clear H; intro w _ H) | refine H.ce ?_ | refine H.db ?_ | refine ea ?_ | (refine H.st ?_; (conv => whnf); clear H; intro w H) | refine condT fun _ => ?_ | refine condF fun _ => ?_ | refine condNT fun _ => ?_ | refine condNF fun _ => ?_ | refine H.da (hc1 _ _ (by rfl)) ?_ | refine H.datw hc1 (by rfl) ?_ | refine H.datl hc1 (by rfl) ?_ | refine H.lw ?_ | refine H.ll ?_)); (conv => whnf))
  exact ⟨V2, x, n, c, i, hV2, H.sx, rfl, hres⟩
theorem list_digs (hV : Sub V W) {g : FuncId} {cap : List Value} : Ret Tryz.prog 67 [.func (.func g) #[] cap.toArray].toArray W fun v w' => ∃ (V' : World) (b : Nat), Sub V V' ∧ v = .func (.func 90) #[] [.pointer (some ⟨b, 0, none⟩)].toArray ∧ Rel W V [] V' w' ∧ V'.cell? ⟨b, 0, none⟩ = some (.func (.func g) #[] cap.toArray) := by
  have H := Rel.start hV
  refine cal_of_vc tabOk Tryz.func67 rfl (by kernel_rfl) 4 rfl (by simp) [0, 1, 2] ?_
  ((repeat ((conv => whnf); first | refine an ?_ | refine H.ce ?_ | refine H.db ?_ | refine ea ?_ | (refine H.st ?_; (conv => whnf); clear H; intro w H) | refine condT fun _ => ?_ | refine condF fun _ => ?_ | refine condNT fun _ => ?_ | refine condNF fun _ => ?_ | refine H.da (hc1 _ _ (by rfl)) ?_ | refine H.datw hc1 (by rfl) ?_ | refine H.datl hc1 (by rfl) ?_ | refine H.lw ?_ | refine H.ll ?_)); (conv => whnf))
  ((first | refine Rel.nwD H ?_ | refine Rel.nw H ?_); clear H; intro w b1 H)
  ((repeat ((conv => whnf); first | refine an ?_ | ((first | refine H.nwD ?_ | refine H.nw ?_); clear H; intro w _ H) | refine H.ce ?_ | refine H.db ?_ | refine ea ?_ | (refine H.st ?_; (conv => whnf); clear H; intro w H) | refine condT fun _ => ?_ | refine condF fun _ => ?_ | refine condNT fun _ => ?_ | refine condNF fun _ => ?_ | refine H.da (hc1 _ _ (by rfl)) ?_ | refine H.datw hc1 (by rfl) ?_ | refine H.datl hc1 (by rfl) ?_ | refine H.lw ?_ | refine H.ll ?_)); (conv => whnf))
  obtain ⟨V1, hV1, H, hb⟩ := H.freezeBlk
  exact ⟨V1, b1, hV1, rfl, H, hb.cel rfl⟩
set_option maxRecDepth 100000 in
theorem list1_digs (hs : Byt V s l) (hl : l.length ≤ 4294967296) {p : Nat} (hp : p ≤ l.length) {g : FuncId} {cap : List Value} {b : Nat} (hc1 : V.cell? ⟨b, 0, none⟩ = some (.func (.func g) #[] cap.toArray)) {one : Nat → Got Dig} (hone : ∀ q, q ≤ l.length → Reads V g cap s (fun d : Dig => .agg (digC d).toArray) eqR q (one q)) (hin : ∀ q x q', q ≤ l.length → one q = .ok x q' → q' ≤ l.length) :
    Reads V 90 [.pointer (some ⟨b, 0, none⟩)] s Sl.v (RL digC eqR) p (listAt l one l.length p) := by
  intro V1 W1 h1 h2
  have H := Rel.start h2
  have hs1 := hs.up h1
  have hlen := hs1.len
  replace hc1 := h1.cell hc1
  refine cal_of_vc tabOk Tryz.func90 rfl (by kernel_rfl) 17 rfl (by simp) [0, 1, 2, 5, 6, 7] ?_
  ((repeat ((conv => whnf); first | refine an ?_ | refine H.ce ?_ | refine H.db ?_ | refine ea ?_ | (refine H.st ?_; (conv => whnf); clear H; intro w H) | refine condT fun _ => ?_ | refine condF fun _ => ?_ | refine condNT fun _ => ?_ | refine condNF fun _ => ?_ | refine H.da (hc1 _ _ (by rfl)) ?_ | refine H.datw hc1 (by rfl) ?_ | refine H.datl hc1 (by rfl) ?_ | refine H.lw ?_ | refine H.ll ?_)); (conv => whnf))
  ((first | refine Rel.nwD H ?_ | refine Rel.nw H ?_); clear H; intro w b7 H)
  ((repeat ((conv => whnf); first | refine an ?_ | ((first | refine H.nwD ?_ | refine H.nw ?_); clear H; intro w _ H) | refine H.ce ?_ | refine H.db ?_ | refine ea ?_ | (refine H.st ?_; (conv => whnf); clear H; intro w H) | refine condT fun _ => ?_ | refine condF fun _ => ?_ | refine condNT fun _ => ?_ | refine condNF fun _ => ?_ | refine H.da (hc1 _ _ (by rfl)) ?_ | refine H.datw hc1 (by rfl) ?_ | refine H.datl hc1 (by rfl) ?_ | refine H.lw ?_ | refine H.ll ?_)); (conv => whnf))
  rw [hlen]
  refine (readSlice_digs (m := l.length) H.data hs1 (by omega) hp (by constructor <;> omega) (fun q hq => (hone q hq).up h1) hin).use ?_
  rintro v w ⟨V2, x, n, c, i, hV2, K, rfl, hres⟩
  replace H := H.call K
  simp only [List.nil_append] at H
  ((repeat ((conv => whnf); first | refine an ?_ | ((first | refine H.nwD ?_ | refine H.nw ?_); clear H; intro w _ H) | refine H.ce ?_ | refine H.db ?_ | refine ea ?_ | (refine H.st ?_; (conv => whnf); clear H; intro w H) | refine condT fun _ => ?_ | refine condF fun _ => ?_ | refine condNT fun _ => ?_ | refine condNF fun _ => ?_ | refine H.da (hc1 _ _ (by rfl)) ?_ | refine H.datw hc1 (by rfl) ?_ | refine H.datl hc1 (by rfl) ?_ | refine H.lw ?_ | refine H.ll ?_)); (conv => whnf))
  exact ⟨V2, x, n, c, i, hV2, H.sx, rfl, hres⟩
set_option maxRecDepth 100000 in
theorem ref_reads (hs : Byt V s l) (hl : l.length ≤ 1099511627776) {p : Nat} (hp : p ≤ l.length) : Reads V 63 [] s (fun r : RefD => .agg (refC r).toArray) eqR p (refAt l p) := by
  intro V1 W1 h1 h2
  have H := Rel.start h2
  have hs1 := hs.up h1
  refine cal_of_vc tabOk Tryz.func63 rfl (by kernel_rfl) 27 rfl (by simp) [0, 1, 4, 5, 6, 7, 8] ?_
  ((repeat ((conv => whnf); first | refine an ?_ | refine H.ce ?_ | refine H.db ?_ | refine ea ?_ | (refine H.st ?_; (conv => whnf); clear H; intro w H) | refine condT fun _ => ?_ | refine condF fun _ => ?_ | refine condNT fun _ => ?_ | refine condNF fun _ => ?_ | refine H.da (hc1 _ _ (by rfl)) ?_ | refine H.datw hc1 (by rfl) ?_ | refine H.datl hc1 (by rfl) ?_ | refine H.lw ?_ | refine H.ll ?_)); (conv => whnf))
  ((first | refine Rel.nwD H ?_ | refine Rel.nw H ?_); clear H; intro w b4 H)
  ((repeat ((conv => whnf); first | refine an ?_ | refine H.ce ?_ | refine H.db ?_ | refine ea ?_ | (refine H.st ?_; (conv => whnf); clear H; intro w H) | refine condT fun _ => ?_ | refine condF fun _ => ?_ | refine condNT fun _ => ?_ | refine condNF fun _ => ?_ | refine H.da (hc1 _ _ (by rfl)) ?_ | refine H.datw hc1 (by rfl) ?_ | refine H.datl hc1 (by rfl) ?_ | refine H.lw ?_ | refine H.ll ?_)); (conv => whnf))
  ((first | refine Rel.nwD H ?_ | refine Rel.nw H ?_); clear H; intro w b6 H)
  ((repeat ((conv => whnf); first | refine an ?_ | refine H.ce ?_ | refine H.db ?_ | refine ea ?_ | (refine H.st ?_; (conv => whnf); clear H; intro w H) | refine condT fun _ => ?_ | refine condF fun _ => ?_ | refine condNT fun _ => ?_ | refine condNF fun _ => ?_ | refine H.da (hc1 _ _ (by rfl)) ?_ | refine H.datw hc1 (by rfl) ?_ | refine H.datl hc1 (by rfl) ?_ | refine H.lw ?_ | refine H.ll ?_)); (conv => whnf))
  ((first | refine Rel.nwD H ?_ | refine Rel.nw H ?_); clear H; intro w rb H)
  ((repeat ((conv => whnf); first | refine an ?_ | ((first | refine H.nwD ?_ | refine H.nw ?_); clear H; intro w _ H) | refine H.ce ?_ | refine H.db ?_ | refine ea ?_ | (refine H.st ?_; (conv => whnf); clear H; intro w H) | refine condT fun _ => ?_ | refine condF fun _ => ?_ | refine condNT fun _ => ?_ | refine condNF fun _ => ?_ | refine H.da (hc1 _ _ (by rfl)) ?_ | refine H.datw hc1 (by rfl) ?_ | refine H.datl hc1 (by rfl) ?_ | refine H.lw ?_ | refine H.ll ?_)); (conv => whnf))
  refine (read_str (one := chunkAt l) H (fun q hq => text_reads hs1 hl hq) (St.start l hp)).use ?_
  clear H
  rintro v w ⟨V2, x1, a1, c1, i1, hV2, rfl, H, s1⟩
  replace hs1 := hs1.up hV2
  have st := s1.st (St.start l hp) (chunk_rds l).inn
  have tr := (Tr.start p).step s1
  ((repeat ((conv => whnf); first | refine an ?_ | ((first | refine H.nwD ?_ | refine H.nw ?_); clear H; intro w _ H) | refine H.ce ?_ | refine H.db ?_ | refine ea ?_ | (refine H.st ?_; (conv => whnf); clear H; intro w H) | refine condT fun _ => ?_ | refine condF fun _ => ?_ | refine condNT fun _ => ?_ | refine condNF fun _ => ?_ | refine H.da (hc1 _ _ (by rfl)) ?_ | refine H.datw hc1 (by rfl) ?_ | refine H.datl hc1 (by rfl) ?_ | refine H.lw ?_ | refine H.ll ?_)); (conv => whnf))
  refine (read_int (one := numAt l) H (fun q hq => number_reads hs1 hl hq) st).use ?_
  clear H
  rintro v w ⟨V3, x2, a2, c2, i2, hV3, rfl, H, s2⟩
  replace tr := tr.step s2
  ((repeat ((conv => whnf); first | refine an ?_ | refine H.ce ?_ | refine H.db ?_ | refine ea ?_ | (refine H.st ?_; (conv => whnf); clear H; intro w H) | refine condT fun _ => ?_ | refine condF fun _ => ?_ | refine condNT fun _ => ?_ | refine condNF fun _ => ?_ | refine H.da (hc1 _ _ (by rfl)) ?_ | refine H.datw hc1 (by rfl) ?_ | refine H.datl hc1 (by rfl) ?_ | refine H.lw ?_ | refine H.ll ?_)); (conv => whnf))
  ((first | refine Rel.nwD H ?_ | refine Rel.nw H ?_); clear H; intro w b8 H)
  ((repeat ((conv => whnf); first | refine an ?_ | ((first | refine H.nwD ?_ | refine H.nw ?_); clear H; intro w _ H) | refine H.ce ?_ | refine H.db ?_ | refine ea ?_ | (refine H.st ?_; (conv => whnf); clear H; intro w H) | refine condT fun _ => ?_ | refine condF fun _ => ?_ | refine condNT fun _ => ?_ | refine condNF fun _ => ?_ | refine H.da (hc1 _ _ (by rfl)) ?_ | refine H.datw hc1 (by rfl) ?_ | refine H.datl hc1 (by rfl) ?_ | refine H.lw ?_ | refine H.ll ?_)); (conv => whnf))
  ((first | refine draw_vcX (id := 3) tabOk mixed (Sav [b4]) (fun _ _ _ => Sav.trans) [9] [4, 8] [0, 1, 2, 3, 4, 5, 6, 7, 8, 9, 10, 11] (by kernel_rfl) ?_); intro w hdw; replace H := Rel.ext H hdw.ext)
  ((repeat ((conv => whnf); first | refine an ?_ | refine H.ce ?_ | refine H.db ?_ | refine ea ?_ | fail | refine condT fun _ => ?_ | refine condF fun _ => ?_ | refine condNT fun _ => ?_ | refine condNF fun _ => ?_ | refine H.da (hc1 _ _ (by rfl)) ?_ | refine H.datw hc1 (by rfl) ?_ | refine H.datl hc1 (by rfl) ?_ | refine H.lw ?_ | refine H.ll ?_)); (conv => whnf))
  (refine And.intro (fun w1 hsv => ?_) ?_; focus (obtain ⟨_, H1⟩ := Rel.savAt H (i := 3) rfl rfl hsv; clear H; have H := H1; clear H1; ((repeat ((conv => whnf); first | refine an ?_ | ((first | refine H.nwD ?_ | refine H.nw ?_); clear H; intro w _ H) | refine H.ce ?_ | refine H.db ?_ | refine ea ?_ | (refine H.st ?_; (conv => whnf); clear H; intro w H) | refine condT fun _ => ?_ | refine condF fun _ => ?_ | refine condNT fun _ => ?_ | refine condNF fun _ => ?_ | refine H.da (hc1 _ _ (by rfl)) ?_ | refine H.datw hc1 (by rfl) ?_ | refine H.datl hc1 (by rfl) ?_ | refine H.lw ?_ | refine H.ll ?_)); (conv => whnf)); try exact ⟨rfl, rfl⟩))
  ((repeat ((conv => whnf); first | refine an ?_ | refine H.ce ?_ | refine H.db ?_ | refine ea ?_ | fail | refine condT fun _ => ?_ | refine condF fun _ => ?_ | refine condNT fun _ => ?_ | refine condNF fun _ => ?_ | refine H.da (hc1 _ _ (by rfl)) ?_ | refine H.datw hc1 (by rfl) ?_ | refine H.datl hc1 (by rfl) ?_ | refine H.lw ?_ | refine H.ll ?_)); (conv => whnf))
  (refine And.intro (fun w1 hsv => ?_) ?_; focus (obtain ⟨_, H1⟩ := Rel.savAt H (i := 3) rfl rfl hsv; clear H; have H := H1; clear H1; ((repeat ((conv => whnf); first | refine an ?_ | ((first | refine H.nwD ?_ | refine H.nw ?_); clear H; intro w _ H) | refine H.ce ?_ | refine H.db ?_ | refine ea ?_ | (refine H.st ?_; (conv => whnf); clear H; intro w H) | refine condT fun _ => ?_ | refine condF fun _ => ?_ | refine condNT fun _ => ?_ | refine condNF fun _ => ?_ | refine H.da (hc1 _ _ (by rfl)) ?_ | refine H.datw hc1 (by rfl) ?_ | refine H.datl hc1 (by rfl) ?_ | refine H.lw ?_ | refine H.ll ?_)); (conv => whnf)); try exact ⟨rfl, rfl⟩))
  ((repeat ((conv => whnf); first | refine an ?_ | refine H.ce ?_ | refine H.db ?_ | refine ea ?_ | fail | refine condT fun _ => ?_ | refine condF fun _ => ?_ | refine condNT fun _ => ?_ | refine condNF fun _ => ?_ | refine H.da (hc1 _ _ (by rfl)) ?_ | refine H.datw hc1 (by rfl) ?_ | refine H.datl hc1 (by rfl) ?_ | refine H.lw ?_ | refine H.ll ?_)); (conv => whnf))
  (refine Rel.storeXAt H (i := 3) rfl ?_; (conv => whnf); clear H; intro w H)
  ((repeat ((conv => whnf); first | refine an ?_ | ((first | refine H.nwD ?_ | refine H.nw ?_); clear H; intro w _ H) | refine H.ce ?_ | refine H.db ?_ | refine ea ?_ | (refine H.st ?_; (conv => whnf); clear H; intro w H) | refine condT fun _ => ?_ | refine condF fun _ => ?_ | refine condNT fun _ => ?_ | refine condNF fun _ => ?_ | refine H.da (hc1 _ _ (by rfl)) ?_ | refine H.datw hc1 (by rfl) ?_ | refine H.datl hc1 (by rfl) ?_ | refine H.lw ?_ | refine H.ll ?_)); (conv => whnf))
  refine ⟨V3, ⟨x1, x2⟩, a2, c2, i2, hV2.trans hV3, H.sx, rfl, ?_⟩
  have tr := tr.out
  unfold refAt
  cases hg : ((Got.ok () p).and (chunkAt l)).and (numAt l) with
  | bad c i => rw [hg] at tr; exact tr
  | ok t q =>
    rw [hg] at tr
    obtain ⟨e1, e2, e3, ⟨_, e4⟩, e5⟩ := tr
    exact ⟨e1, e2, e3, by rw [← e4, ← e5]⟩
theorem num_read {w0 V0 V w : World} {own : List Res} {rb b7 : Nat} {a c i : Int} (H : Rel w0 V0 (.blk rb [s.v, iv a, iv c, iv i] 104 :: own) V w) (hc1 : V.cell? ⟨b7, 0, none⟩ = some (.pointer (some ⟨rb, 0, none⟩))) (hs : Byt V s l) (hl : l.length ≤ 1099511627776) (hst : St l a c i) :
    Ret Tryz.prog 55 [.pointer (some ⟨b7, 0, none⟩)].toArray w fun v w' => ∃ (V' : World) (x a' c' i' : Int), Sub V V' ∧ v = iv x ∧ Rel w0 V0 (.blk rb [s.v, iv a', iv c', iv i'] 104 :: own) V' w' ∧ Step (numAt l) eqR V' x a c i a' c' i' := by
  refine cal_of_vc tabOk Tryz.func55 rfl (by kernel_rfl) 4 rfl (by simp) [0, 1] ?_
  ((repeat ((conv => whnf); first | refine an ?_ | ((first | refine H.nwD ?_ | refine H.nw ?_); clear H; intro w _ H) | refine H.ce ?_ | refine H.db ?_ | refine ea ?_ | (refine H.st ?_; (conv => whnf); clear H; intro w H) | refine condT fun _ => ?_ | refine condF fun _ => ?_ | refine condNT fun _ => ?_ | refine condNF fun _ => ?_ | refine H.da (hc1 _ _ (by rfl)) ?_ | refine H.datw hc1 (by rfl) ?_ | refine H.datl hc1 (by rfl) ?_ | refine H.lw ?_ | refine H.ll ?_)); (conv => whnf))
  refine (read_int (one := numAt l) H (fun q hq => number_reads hs hl hq) hst).use ?_
  clear H
  rintro v w ⟨V2, x, a', c', i', hV2, rfl, H, s1⟩
  ((repeat ((conv => whnf); first | refine an ?_ | ((first | refine H.nwD ?_ | refine H.nw ?_); clear H; intro w _ H) | refine H.ce ?_ | refine H.db ?_ | refine ea ?_ | (refine H.st ?_; (conv => whnf); clear H; intro w H) | refine condT fun _ => ?_ | refine condF fun _ => ?_ | refine condNT fun _ => ?_ | refine condNF fun _ => ?_ | refine H.da (hc1 _ _ (by rfl)) ?_ | refine H.datw hc1 (by rfl) ?_ | refine H.datl hc1 (by rfl) ?_ | refine H.lw ?_ | refine H.ll ?_)); (conv => whnf))
  exact ⟨V2, x, a', c', i', hV2, rfl, H, s1⟩
end
end Go.Proofs.YtlhgmigoncmcaaaGreat
namespace Go.Proofs.YtlhgmigoncmcaaaGreat
open Go Go.RowKit

theorem RL.eqs {α : Type} {f : α → List Value} {V : World} {r : Sl} {ys : List α} (h : RL f eqR V r ys) : SlF f V r ys := by
  obtain ⟨xs, h1, h2⟩ := h
  rw [← Pw.eq h2]
  exact h1
set_option maxRecDepth 100000 in
set_option maxHeartbeats 1000000 in
theorem entry_reads {V : World} {s : Sl} {l : List UInt8} (hs : Byt V s l) (hl : l.length ≤ 4294967296) {p : Nat} (hp : p ≤ l.length) : Reads V 25 [] s (fun q : Ent × EntH => .agg (entP q).toArray) (fun V q e => q.1 = e ∧ EntOk V q.1 q.2) p (entAt l p) := by
  intro U1 W1 h1 h2
  have H := Rel.start h2
  have hl1 : l.length ≤ 1099511627776 := by omega
  have hs1 := hs.up h1
  refine cal_of_vc tabOk Tryz.func25 rfl (by kernel_rfl) 72 rfl (by simp) [0, 1, 4, 5, 6, 7, 8, 9] ?_
  ((repeat ((conv => whnf); first | refine an ?_ | refine H.ce ?_ | refine H.db ?_ | refine ea ?_ | (refine H.st ?_; (conv => whnf); clear H; intro w H) | refine condT fun _ => ?_ | refine condF fun _ => ?_ | refine condNT fun _ => ?_ | refine condNF fun _ => ?_ | refine H.da (hc1 _ _ (by rfl)) ?_ | refine H.datw hc1 (by rfl) ?_ | refine H.datl hc1 (by rfl) ?_ | refine H.lw ?_ | refine H.ll ?_)); (conv => whnf))
  ((first | refine Rel.nwD H ?_ | refine Rel.nw H ?_); clear H; intro w b4 H)
  ((repeat ((conv => whnf); first | refine an ?_ | refine H.ce ?_ | refine H.db ?_ | refine ea ?_ | (refine H.st ?_; (conv => whnf); clear H; intro w H) | refine condT fun _ => ?_ | refine condF fun _ => ?_ | refine condNT fun _ => ?_ | refine condNF fun _ => ?_ | refine H.da (hc1 _ _ (by rfl)) ?_ | refine H.datw hc1 (by rfl) ?_ | refine H.datl hc1 (by rfl) ?_ | refine H.lw ?_ | refine H.ll ?_)); (conv => whnf))
  ((first | refine Rel.nwD H ?_ | refine Rel.nw H ?_); clear H; intro w b6 H)
  ((repeat ((conv => whnf); first | refine an ?_ | refine H.ce ?_ | refine H.db ?_ | refine ea ?_ | (refine H.st ?_; (conv => whnf); clear H; intro w H) | refine condT fun _ => ?_ | refine condF fun _ => ?_ | refine condNT fun _ => ?_ | refine condNF fun _ => ?_ | refine H.da (hc1 _ _ (by rfl)) ?_ | refine H.datw hc1 (by rfl) ?_ | refine H.datl hc1 (by rfl) ?_ | refine H.lw ?_ | refine H.ll ?_)); (conv => whnf))
  ((first | refine Rel.nwD H ?_ | refine Rel.nw H ?_); clear H; intro w rb H)
  ((repeat ((conv => whnf); first | refine an ?_ | refine H.ce ?_ | refine H.db ?_ | refine ea ?_ | (refine H.st ?_; (conv => whnf); clear H; intro w H) | refine condT fun _ => ?_ | refine condF fun _ => ?_ | refine condNT fun _ => ?_ | refine condNF fun _ => ?_ | refine H.da (hc1 _ _ (by rfl)) ?_ | refine H.datw hc1 (by rfl) ?_ | refine H.datl hc1 (by rfl) ?_ | refine H.lw ?_ | refine H.ll ?_)); (conv => whnf))
  ((first | refine Rel.nwD H ?_ | refine Rel.nw H ?_); clear H; intro w b7 H)
  ((repeat ((conv => whnf); first | refine an ?_ | refine H.ce ?_ | refine H.db ?_ | refine ea ?_ | (refine H.st ?_; (conv => whnf); clear H; intro w H) | refine condT fun _ => ?_ | refine condF fun _ => ?_ | refine condNT fun _ => ?_ | refine condNF fun _ => ?_ | refine H.da (hc1 _ _ (by rfl)) ?_ | refine H.datw hc1 (by rfl) ?_ | refine H.datl hc1 (by rfl) ?_ | refine H.lw ?_ | refine H.ll ?_)); (conv => whnf))
  obtain ⟨V0, hsub, H, hb⟩ := H.freezeBlk
  have hb7 : V0.cell? ⟨b7, 0, none⟩ = some (.pointer (some ⟨rb, 0, none⟩)) := hb.cel rfl
  replace hs1 := hs1.up hsub
  ((first | refine Rel.nwD H ?_ | refine Rel.nw H ?_); clear H; intro w b9 H)
  replace H := H.front_1
  have st := St.start l hp
  have tr := Tr.start p
  ((repeat ((conv => whnf); first | refine an ?_ | ((first | refine H.nwD ?_ | refine H.nw ?_); clear H; intro w _ H) | refine H.ce ?_ | refine H.db ?_ | refine ea ?_ | (refine H.st ?_; (conv => whnf); clear H; intro w H) | refine condT fun _ => ?_ | refine condF fun _ => ?_ | refine condNT fun _ => ?_ | refine condNF fun _ => ?_ | refine H.da (hc1 _ _ (by rfl)) ?_ | refine H.datw hc1 (by rfl) ?_ | refine H.datl hc1 (by rfl) ?_ | refine H.lw ?_ | refine H.ll ?_)); (conv => whnf))
  refine (read_str (one := chunkAt l) H (fun q hq => text_reads hs1 hl1 hq) st).use ?_
  clear H
  rintro v w ⟨V1, x1, a1, c1, i1, hV1, rfl, H, s1⟩
  replace hs1 := hs1.up hV1
  replace hb7 := hV1.cell hb7
  replace hsub := hsub.trans hV1
  replace tr := tr.step s1
  replace st := s1.st st (chunk_rds l).inn
  try replace hs7 := hs7.trans hV1
  try replace hs8 := hs8.trans hV1
  ((repeat ((conv => whnf); first | refine an ?_ | ((first | refine H.nwD ?_ | refine H.nw ?_); clear H; intro w _ H) | refine H.ce ?_ | refine H.db ?_ | refine ea ?_ | (refine H.st ?_; (conv => whnf); clear H; intro w H) | refine condT fun _ => ?_ | refine condF fun _ => ?_ | refine condNT fun _ => ?_ | refine condNF fun _ => ?_ | refine H.da (hc1 _ _ (by rfl)) ?_ | refine H.datw hc1 (by rfl) ?_ | refine H.datl hc1 (by rfl) ?_ | refine H.lw ?_ | refine H.ll ?_)); (conv => whnf))
  refine (num_read H hb7 hs1 hl1 st).use ?_
  clear H
  rintro v w ⟨V2, x2, a2, c2, i2, hV2, rfl, H, s2⟩
  replace hs1 := hs1.up hV2
  replace hb7 := hV2.cell hb7
  replace hsub := hsub.trans hV2
  replace tr := tr.step s2
  replace st := s2.st st (num_rds l).inn
  try replace hs7 := hs7.trans hV2
  try replace hs8 := hs8.trans hV2
  ((repeat ((conv => whnf); first | refine an ?_ | ((first | refine H.nwD ?_ | refine H.nw ?_); clear H; intro w _ H) | refine H.ce ?_ | refine H.db ?_ | refine ea ?_ | (refine H.st ?_; (conv => whnf); clear H; intro w H) | refine condT fun _ => ?_ | refine condF fun _ => ?_ | refine condNT fun _ => ?_ | refine condNF fun _ => ?_ | refine H.da (hc1 _ _ (by rfl)) ?_ | refine H.datw hc1 (by rfl) ?_ | refine H.datl hc1 (by rfl) ?_ | refine H.lw ?_ | refine H.ll ?_)); (conv => whnf))
  refine (num_read H hb7 hs1 hl1 st).use ?_
  clear H
  rintro v w ⟨V3, x3, a3, c3, i3, hV3, rfl, H, s3⟩
  replace hs1 := hs1.up hV3
  replace hb7 := hV3.cell hb7
  replace hsub := hsub.trans hV3
  replace tr := tr.step s3
  replace st := s3.st st (num_rds l).inn
  try replace hs7 := hs7.trans hV3
  try replace hs8 := hs8.trans hV3
  ((repeat ((conv => whnf); first | refine an ?_ | ((first | refine H.nwD ?_ | refine H.nw ?_); clear H; intro w _ H) | refine H.ce ?_ | refine H.db ?_ | refine ea ?_ | (refine H.st ?_; (conv => whnf); clear H; intro w H) | refine condT fun _ => ?_ | refine condF fun _ => ?_ | refine condNT fun _ => ?_ | refine condNF fun _ => ?_ | refine H.da (hc1 _ _ (by rfl)) ?_ | refine H.datw hc1 (by rfl) ?_ | refine H.datl hc1 (by rfl) ?_ | refine H.lw ?_ | refine H.ll ?_)); (conv => whnf))
  refine (num_read H hb7 hs1 hl1 st).use ?_
  clear H
  rintro v w ⟨V4, x4, a4, c4, i4, hV4, rfl, H, s4⟩
  replace hs1 := hs1.up hV4
  replace hb7 := hV4.cell hb7
  replace hsub := hsub.trans hV4
  replace tr := tr.step s4
  replace st := s4.st st (num_rds l).inn
  try replace hs7 := hs7.trans hV4
  try replace hs8 := hs8.trans hV4
  ((repeat ((conv => whnf); first | refine an ?_ | ((first | refine H.nwD ?_ | refine H.nw ?_); clear H; intro w _ H) | refine H.ce ?_ | refine H.db ?_ | refine ea ?_ | (refine H.st ?_; (conv => whnf); clear H; intro w H) | refine condT fun _ => ?_ | refine condF fun _ => ?_ | refine condNT fun _ => ?_ | refine condNF fun _ => ?_ | refine H.da (hc1 _ _ (by rfl)) ?_ | refine H.datw hc1 (by rfl) ?_ | refine H.datl hc1 (by rfl) ?_ | refine H.lw ?_ | refine H.ll ?_)); (conv => whnf))
  refine (num_read H hb7 hs1 hl1 st).use ?_
  clear H
  rintro v w ⟨V5, x5, a5, c5, i5, hV5, rfl, H, s5⟩
  replace hs1 := hs1.up hV5
  replace hb7 := hV5.cell hb7
  replace hsub := hsub.trans hV5
  replace tr := tr.step s5
  replace st := s5.st st (num_rds l).inn
  try replace hs7 := hs7.trans hV5
  try replace hs8 := hs8.trans hV5
  ((repeat ((conv => whnf); first | refine an ?_ | ((first | refine H.nwD ?_ | refine H.nw ?_); clear H; intro w _ H) | refine H.ce ?_ | refine H.db ?_ | refine ea ?_ | (refine H.st ?_; (conv => whnf); clear H; intro w H) | refine condT fun _ => ?_ | refine condF fun _ => ?_ | refine condNT fun _ => ?_ | refine condNF fun _ => ?_ | refine H.da (hc1 _ _ (by rfl)) ?_ | refine H.datw hc1 (by rfl) ?_ | refine H.datl hc1 (by rfl) ?_ | refine H.lw ?_ | refine H.ll ?_)); (conv => whnf))
  refine (read_dig (one := digAt l) H (fun q hq => dig_reads hs1 hl1 hq) st).use ?_
  clear H
  rintro v w ⟨V6, x6, a6, c6, i6, hV6, rfl, H, s6⟩
  replace hs1 := hs1.up hV6
  replace hb7 := hV6.cell hb7
  replace hsub := hsub.trans hV6
  replace tr := tr.step s6
  replace st := s6.st st (dig_rds l).inn
  try replace hs7 := hs7.trans hV6
  try replace hs8 := hs8.trans hV6
  ((repeat ((conv => whnf); first | refine an ?_ | ((first | refine H.nwD ?_ | refine H.nw ?_); clear H; intro w _ H) | refine H.ce ?_ | refine H.db ?_ | refine ea ?_ | (refine H.st ?_; (conv => whnf); clear H; intro w H) | refine condT fun _ => ?_ | refine condF fun _ => ?_ | refine condNT fun _ => ?_ | refine condNF fun _ => ?_ | refine H.da (hc1 _ _ (by rfl)) ?_ | refine H.datw hc1 (by rfl) ?_ | refine H.datl hc1 (by rfl) ?_ | refine H.lw ?_ | refine H.ll ?_)); (conv => whnf))
  ((first | refine draw_vc (id := 7) tabOk mixed [1] [0, 1, 2, 3, 4] (by kernel_rfl) ?_ | refine draw_vc (id := 8) tabOk mixed [1] [0, 1, 2, 3, 4] (by kernel_rfl) ?_ | refine draw_vc (id := 11) tabOk mixed [1] [0, 1, 2, 3, 4, 5] (by kernel_rfl) ?_ | refine draw_vc (id := 12) tabOk mixed [9] [0, 1, 2, 3, 4, 5, 6, 7, 8, 9, 10, 11] (by kernel_rfl) ?_); intro w hdw; replace H := Rel.ext H hdw.ext)
  ((repeat ((conv => whnf); first | refine an ?_ | ((first | refine H.nwD ?_ | refine H.nw ?_); clear H; intro w _ H) | refine H.ce ?_ | refine H.db ?_ | refine ea ?_ | (refine H.st ?_; (conv => whnf); clear H; intro w H) | refine condT fun _ => ?_ | refine condF fun _ => ?_ | refine condNT fun _ => ?_ | refine condNF fun _ => ?_ | refine H.da (hc1 _ _ (by rfl)) ?_ | refine H.datw hc1 (by rfl) ?_ | refine H.datl hc1 (by rfl) ?_ | refine H.lw ?_ | refine H.ll ?_)); (conv => whnf))
  refine (list_refs H.data (g := 63) (cap := [])).use ?_
  rintro v w ⟨V2, b, hV2, rfl, K, hb⟩
  (have hKb := K.base; replace H := Rel.call H K)
  simp only [List.nil_append] at H
  replace hs1 := hs1.up hV2
  replace hb7 := hV2.cell hb7
  replace hsub := hsub.trans hV2
  try replace hs7 := hs7.trans hV2
  try replace hs8 := hs8.trans hV2
  ((repeat ((conv => whnf); first | refine an ?_ | ((first | refine H.nwD ?_ | refine H.nw ?_); clear H; intro w _ H) | refine H.ce ?_ | refine H.db ?_ | refine ea ?_ | (refine H.st ?_; (conv => whnf); clear H; intro w H) | refine condT fun _ => ?_ | refine condF fun _ => ?_ | refine condNT fun _ => ?_ | refine condNF fun _ => ?_ | refine H.da (hc1 _ _ (by rfl)) ?_ | refine H.datw hc1 (by rfl) ?_ | refine H.datl hc1 (by rfl) ?_ | refine H.lw ?_ | refine H.ll ?_)); (conv => whnf))
  refine (read_refs (one := listAt l (refAt l) l.length) H (fun q hq => list1_refs hs1 hl hq hb (fun q hq => ref_reads hs1 hl1 hq) (ref_rds l).inn) st).use ?_
  clear H
  rintro v w ⟨V7, x7, a7, c7, i7, hV7, rfl, H, s7⟩
  replace hs1 := hs1.up hV7
  replace hb7 := hV7.cell hb7
  replace hsub := hsub.trans hV7
  replace tr := tr.step s7
  replace st := s7.st st (list_rds (ref_rds l) l.length).inn
  try replace hs7 := hs7.trans hV7
  try replace hs8 := hs8.trans hV7
  ((repeat ((conv => whnf); first | refine an ?_ | ((first | refine H.nwD ?_ | refine H.nw ?_); clear H; intro w _ H) | refine H.ce ?_ | refine H.db ?_ | refine ea ?_ | (refine H.st ?_; (conv => whnf); clear H; intro w H) | refine condT fun _ => ?_ | refine condF fun _ => ?_ | refine condNT fun _ => ?_ | refine condNF fun _ => ?_ | refine H.da (hc1 _ _ (by rfl)) ?_ | refine H.datw hc1 (by rfl) ?_ | refine H.datl hc1 (by rfl) ?_ | refine H.lw ?_ | refine H.ll ?_)); (conv => whnf))
  have hs7 := Sub.refl V7
  ((first | refine draw_vc (id := 7) tabOk mixed [1] [0, 1, 2, 3, 4] (by kernel_rfl) ?_ | refine draw_vc (id := 8) tabOk mixed [1] [0, 1, 2, 3, 4] (by kernel_rfl) ?_ | refine draw_vc (id := 11) tabOk mixed [1] [0, 1, 2, 3, 4, 5] (by kernel_rfl) ?_ | refine draw_vc (id := 12) tabOk mixed [9] [0, 1, 2, 3, 4, 5, 6, 7, 8, 9, 10, 11] (by kernel_rfl) ?_); intro w hdw; replace H := Rel.ext H hdw.ext)
  ((repeat ((conv => whnf); first | refine an ?_ | ((first | refine H.nwD ?_ | refine H.nw ?_); clear H; intro w _ H) | refine H.ce ?_ | refine H.db ?_ | refine ea ?_ | (refine H.st ?_; (conv => whnf); clear H; intro w H) | refine condT fun _ => ?_ | refine condF fun _ => ?_ | refine condNT fun _ => ?_ | refine condNF fun _ => ?_ | refine H.da (hc1 _ _ (by rfl)) ?_ | refine H.datw hc1 (by rfl) ?_ | refine H.datl hc1 (by rfl) ?_ | refine H.lw ?_ | refine H.ll ?_)); (conv => whnf))
  refine (list_strs H.data (g := 58) (cap := [])).use ?_
  rintro v w ⟨V2, b, hV2, rfl, K, hb⟩
  (have hKb := K.base; replace H := Rel.call H K)
  simp only [List.nil_append] at H
  replace hs1 := hs1.up hV2
  replace hb7 := hV2.cell hb7
  replace hsub := hsub.trans hV2
  try replace hs7 := hs7.trans hV2
  try replace hs8 := hs8.trans hV2
  ((repeat ((conv => whnf); first | refine an ?_ | ((first | refine H.nwD ?_ | refine H.nw ?_); clear H; intro w _ H) | refine H.ce ?_ | refine H.db ?_ | refine ea ?_ | (refine H.st ?_; (conv => whnf); clear H; intro w H) | refine condT fun _ => ?_ | refine condF fun _ => ?_ | refine condNT fun _ => ?_ | refine condNF fun _ => ?_ | refine H.da (hc1 _ _ (by rfl)) ?_ | refine H.datw hc1 (by rfl) ?_ | refine H.datl hc1 (by rfl) ?_ | refine H.lw ?_ | refine H.ll ?_)); (conv => whnf))
  refine (read_strs (one := listAt l (chunkAt l) l.length) H (fun q hq => list1_strs hs1 hl hq hb (fun q hq => text_reads hs1 hl1 hq) (chunk_rds l).inn) st).use ?_
  clear H
  rintro v w ⟨V8, x8, a8, c8, i8, hV8, rfl, H, s8⟩
  replace hs1 := hs1.up hV8
  replace hb7 := hV8.cell hb7
  replace hsub := hsub.trans hV8
  replace tr := tr.step s8
  replace st := s8.st st (list_rds (chunk_rds l) l.length).inn
  try replace hs7 := hs7.trans hV8
  try replace hs8 := hs8.trans hV8
  ((repeat ((conv => whnf); first | refine an ?_ | ((first | refine H.nwD ?_ | refine H.nw ?_); clear H; intro w _ H) | refine H.ce ?_ | refine H.db ?_ | refine ea ?_ | (refine H.st ?_; (conv => whnf); clear H; intro w H) | refine condT fun _ => ?_ | refine condF fun _ => ?_ | refine condNT fun _ => ?_ | refine condNF fun _ => ?_ | refine H.da (hc1 _ _ (by rfl)) ?_ | refine H.datw hc1 (by rfl) ?_ | refine H.datl hc1 (by rfl) ?_ | refine H.lw ?_ | refine H.ll ?_)); (conv => whnf))
  have hs8 := Sub.refl V8
  refine (num_read H hb7 hs1 hl1 st).use ?_
  clear H
  rintro v w ⟨V9, x9, a9, c9, i9, hV9, rfl, H, s9⟩
  replace hs1 := hs1.up hV9
  replace hb7 := hV9.cell hb7
  replace hsub := hsub.trans hV9
  replace tr := tr.step s9
  replace st := s9.st st (num_rds l).inn
  try replace hs7 := hs7.trans hV9
  try replace hs8 := hs8.trans hV9
  ((repeat ((conv => whnf); first | refine an ?_ | ((first | refine H.nwD ?_ | refine H.nw ?_); clear H; intro w _ H) | refine H.ce ?_ | refine H.db ?_ | refine ea ?_ | (refine H.st ?_; (conv => whnf); clear H; intro w H) | refine condT fun _ => ?_ | refine condF fun _ => ?_ | refine condNT fun _ => ?_ | refine condNF fun _ => ?_ | refine H.da (hc1 _ _ (by rfl)) ?_ | refine H.datw hc1 (by rfl) ?_ | refine H.datl hc1 (by rfl) ?_ | refine H.lw ?_ | refine H.ll ?_)); (conv => whnf))
  refine (num_read H hb7 hs1 hl1 st).use ?_
  clear H
  rintro v w ⟨V10, x10, a10, c10, i10, hV10, rfl, H, s10⟩
  replace hs1 := hs1.up hV10
  replace hb7 := hV10.cell hb7
  replace hsub := hsub.trans hV10
  replace tr := tr.step s10
  replace st := s10.st st (num_rds l).inn
  try replace hs7 := hs7.trans hV10
  try replace hs8 := hs8.trans hV10
  ((repeat ((conv => whnf); first | refine an ?_ | ((first | refine H.nwD ?_ | refine H.nw ?_); clear H; intro w _ H) | refine H.ce ?_ | refine H.db ?_ | refine ea ?_ | (refine H.st ?_; (conv => whnf); clear H; intro w H) | refine condT fun _ => ?_ | refine condF fun _ => ?_ | refine condNT fun _ => ?_ | refine condNF fun _ => ?_ | refine H.da (hc1 _ _ (by rfl)) ?_ | refine H.datw hc1 (by rfl) ?_ | refine H.datl hc1 (by rfl) ?_ | refine H.lw ?_ | refine H.ll ?_)); (conv => whnf))
  refine (num_read H hb7 hs1 hl1 st).use ?_
  clear H
  rintro v w ⟨V11, x11, a11, c11, i11, hV11, rfl, H, s11⟩
  replace hs1 := hs1.up hV11
  replace hb7 := hV11.cell hb7
  replace hsub := hsub.trans hV11
  replace tr := tr.step s11
  replace st := s11.st st (num_rds l).inn
  try replace hs7 := hs7.trans hV11
  try replace hs8 := hs8.trans hV11
  ((repeat ((conv => whnf); first | refine an ?_ | ((first | refine H.nwD ?_ | refine H.nw ?_); clear H; intro w _ H) | refine H.ce ?_ | refine H.db ?_ | refine ea ?_ | (refine H.st ?_; (conv => whnf); clear H; intro w H) | refine condT fun _ => ?_ | refine condF fun _ => ?_ | refine condNT fun _ => ?_ | refine condNF fun _ => ?_ | refine H.da (hc1 _ _ (by rfl)) ?_ | refine H.datw hc1 (by rfl) ?_ | refine H.datl hc1 (by rfl) ?_ | refine H.lw ?_ | refine H.ll ?_)); (conv => whnf))
  refine (num_read H hb7 hs1 hl1 st).use ?_
  clear H
  rintro v w ⟨V12, x12, a12, c12, i12, hV12, rfl, H, s12⟩
  replace hs1 := hs1.up hV12
  replace hb7 := hV12.cell hb7
  replace hsub := hsub.trans hV12
  replace tr := tr.step s12
  replace st := s12.st st (num_rds l).inn
  try replace hs7 := hs7.trans hV12
  try replace hs8 := hs8.trans hV12
  ((repeat ((conv => whnf); first | refine an ?_ | ((first | refine H.nwD ?_ | refine H.nw ?_); clear H; intro w _ H) | refine H.ce ?_ | refine H.db ?_ | refine ea ?_ | (refine H.st ?_; (conv => whnf); clear H; intro w H) | refine condT fun _ => ?_ | refine condF fun _ => ?_ | refine condNT fun _ => ?_ | refine condNF fun _ => ?_ | refine H.da (hc1 _ _ (by rfl)) ?_ | refine H.datw hc1 (by rfl) ?_ | refine H.datl hc1 (by rfl) ?_ | refine H.lw ?_ | refine H.ll ?_)); (conv => whnf))
  refine (read_dig (one := digAt l) H (fun q hq => dig_reads hs1 hl1 hq) st).use ?_
  clear H
  rintro v w ⟨V13, x13, a13, c13, i13, hV13, rfl, H, s13⟩
  replace hs1 := hs1.up hV13
  replace hb7 := hV13.cell hb7
  replace hsub := hsub.trans hV13
  replace tr := tr.step s13
  replace st := s13.st st (dig_rds l).inn
  try replace hs7 := hs7.trans hV13
  try replace hs8 := hs8.trans hV13
  ((repeat ((conv => whnf); first | refine an ?_ | ((first | refine H.nwD ?_ | refine H.nw ?_); clear H; intro w _ H) | refine H.ce ?_ | refine H.db ?_ | refine ea ?_ | (refine H.st ?_; (conv => whnf); clear H; intro w H) | refine condT fun _ => ?_ | refine condF fun _ => ?_ | refine condNT fun _ => ?_ | refine condNF fun _ => ?_ | refine H.da (hc1 _ _ (by rfl)) ?_ | refine H.datw hc1 (by rfl) ?_ | refine H.datl hc1 (by rfl) ?_ | refine H.lw ?_ | refine H.ll ?_)); (conv => whnf))
  ((first | refine draw_vc (id := 7) tabOk mixed [1] [0, 1, 2, 3, 4] (by kernel_rfl) ?_ | refine draw_vc (id := 8) tabOk mixed [1] [0, 1, 2, 3, 4] (by kernel_rfl) ?_ | refine draw_vc (id := 11) tabOk mixed [1] [0, 1, 2, 3, 4, 5] (by kernel_rfl) ?_ | refine draw_vc (id := 12) tabOk mixed [9] [0, 1, 2, 3, 4, 5, 6, 7, 8, 9, 10, 11] (by kernel_rfl) ?_); intro w hdw; replace H := Rel.ext H hdw.ext)
  ((repeat ((conv => whnf); first | refine an ?_ | ((first | refine H.nwD ?_ | refine H.nw ?_); clear H; intro w _ H) | refine H.ce ?_ | refine H.db ?_ | refine ea ?_ | (refine H.st ?_; (conv => whnf); clear H; intro w H) | refine condT fun _ => ?_ | refine condF fun _ => ?_ | refine condNT fun _ => ?_ | refine condNF fun _ => ?_ | refine H.da (hc1 _ _ (by rfl)) ?_ | refine H.datw hc1 (by rfl) ?_ | refine H.datl hc1 (by rfl) ?_ | refine H.lw ?_ | refine H.ll ?_)); (conv => whnf))
  refine (list_digs H.data (g := 60) (cap := [])).use ?_
  rintro v w ⟨V2, b, hV2, rfl, K, hb⟩
  (have hKb := K.base; replace H := Rel.call H K)
  simp only [List.nil_append] at H
  replace hs1 := hs1.up hV2
  replace hb7 := hV2.cell hb7
  replace hsub := hsub.trans hV2
  try replace hs7 := hs7.trans hV2
  try replace hs8 := hs8.trans hV2
  ((repeat ((conv => whnf); first | refine an ?_ | ((first | refine H.nwD ?_ | refine H.nw ?_); clear H; intro w _ H) | refine H.ce ?_ | refine H.db ?_ | refine ea ?_ | (refine H.st ?_; (conv => whnf); clear H; intro w H) | refine condT fun _ => ?_ | refine condF fun _ => ?_ | refine condNT fun _ => ?_ | refine condNF fun _ => ?_ | refine H.da (hc1 _ _ (by rfl)) ?_ | refine H.datw hc1 (by rfl) ?_ | refine H.datl hc1 (by rfl) ?_ | refine H.lw ?_ | refine H.ll ?_)); (conv => whnf))
  refine (read_digs (one := listAt l (digAt l) l.length) H (fun q hq => list1_digs hs1 hl hq hb (fun q hq => dig_reads hs1 hl1 hq) (dig_rds l).inn) st).use ?_
  clear H
  rintro v w ⟨V14, x14, a14, c14, i14, hV14, rfl, H, s14⟩
  replace hs1 := hs1.up hV14
  replace hb7 := hV14.cell hb7
  replace hsub := hsub.trans hV14
  replace tr := tr.step s14
  replace st := s14.st st (list_rds (dig_rds l) l.length).inn
  try replace hs7 := hs7.trans hV14
  try replace hs8 := hs8.trans hV14
  ((repeat ((conv => whnf); first | refine an ?_ | ((first | refine H.nwD ?_ | refine H.nw ?_); clear H; intro w _ H) | refine H.ce ?_ | refine H.db ?_ | refine ea ?_ | (refine H.st ?_; (conv => whnf); clear H; intro w H) | refine condT fun _ => ?_ | refine condF fun _ => ?_ | refine condNT fun _ => ?_ | refine condNF fun _ => ?_ | refine H.da (hc1 _ _ (by rfl)) ?_ | refine H.datw hc1 (by rfl) ?_ | refine H.datl hc1 (by rfl) ?_ | refine H.lw ?_ | refine H.ll ?_)); (conv => whnf))
  ((first | refine draw_vcX (id := 7) tabOk mixed (Sav [b4]) (fun _ _ _ => Sav.trans) [1] [0] [0, 1, 2, 3, 4] (by kernel_rfl) ?_ | refine draw_vcX (id := 8) tabOk mixed (Sav [b4]) (fun _ _ _ => Sav.trans) [1] [0] [0, 1, 2, 3, 4] (by kernel_rfl) ?_ | refine draw_vcX (id := 11) tabOk mixed (Sav [b4]) (fun _ _ _ => Sav.trans) [1] [0] [0, 1, 2, 3, 4, 5] (by kernel_rfl) ?_ | refine draw_vcX (id := 12) tabOk mixed (Sav [b4]) (fun _ _ _ => Sav.trans) [9] [1, 4, 5, 8] [0, 1, 2, 3, 4, 5, 6, 7, 8, 9, 10, 11] (by kernel_rfl) ?_); intro w hdw; replace H := Rel.ext H hdw.ext)
  ((repeat ((conv => whnf); first | refine an ?_ | refine H.ce ?_ | refine H.db ?_ | refine ea ?_ | fail | refine condT fun _ => ?_ | refine condF fun _ => ?_ | refine condNT fun _ => ?_ | refine condNF fun _ => ?_ | refine H.da (hc1 _ _ (by rfl)) ?_ | refine H.datw hc1 (by rfl) ?_ | refine H.datl hc1 (by rfl) ?_ | refine H.lw ?_ | refine H.ll ?_)); (conv => whnf))
  (refine And.intro (fun w1 hsv => ?_) ?_; focus (obtain ⟨_, H1⟩ := Rel.savAt H (i := 3) rfl rfl hsv; clear H; have H := H1; clear H1; ((repeat ((conv => whnf); first | refine an ?_ | ((first | refine H.nwD ?_ | refine H.nw ?_); clear H; intro w _ H) | refine H.ce ?_ | refine H.db ?_ | refine ea ?_ | (refine H.st ?_; (conv => whnf); clear H; intro w H) | refine condT fun _ => ?_ | refine condF fun _ => ?_ | refine condNT fun _ => ?_ | refine condNF fun _ => ?_ | refine H.da (hc1 _ _ (by rfl)) ?_ | refine H.datw hc1 (by rfl) ?_ | refine H.datl hc1 (by rfl) ?_ | refine H.lw ?_ | refine H.ll ?_)); (conv => whnf)); try exact ⟨rfl, rfl⟩))
  ((repeat ((conv => whnf); first | refine an ?_ | refine H.ce ?_ | refine H.db ?_ | refine ea ?_ | fail | refine condT fun _ => ?_ | refine condF fun _ => ?_ | refine condNT fun _ => ?_ | refine condNF fun _ => ?_ | refine H.da (hc1 _ _ (by rfl)) ?_ | refine H.datw hc1 (by rfl) ?_ | refine H.datl hc1 (by rfl) ?_ | refine H.lw ?_ | refine H.ll ?_)); (conv => whnf))
  (refine And.intro (fun w1 hsv => ?_) ?_; focus (obtain ⟨_, H1⟩ := Rel.savAt H (i := 3) rfl rfl hsv; clear H; have H := H1; clear H1; ((repeat ((conv => whnf); first | refine an ?_ | ((first | refine H.nwD ?_ | refine H.nw ?_); clear H; intro w _ H) | refine H.ce ?_ | refine H.db ?_ | refine ea ?_ | (refine H.st ?_; (conv => whnf); clear H; intro w H) | refine condT fun _ => ?_ | refine condF fun _ => ?_ | refine condNT fun _ => ?_ | refine condNF fun _ => ?_ | refine H.da (hc1 _ _ (by rfl)) ?_ | refine H.datw hc1 (by rfl) ?_ | refine H.datl hc1 (by rfl) ?_ | refine H.lw ?_ | refine H.ll ?_)); (conv => whnf)); try exact ⟨rfl, rfl⟩))
  ((repeat ((conv => whnf); first | refine an ?_ | refine H.ce ?_ | refine H.db ?_ | refine ea ?_ | fail | refine condT fun _ => ?_ | refine condF fun _ => ?_ | refine condNT fun _ => ?_ | refine condNF fun _ => ?_ | refine H.da (hc1 _ _ (by rfl)) ?_ | refine H.datw hc1 (by rfl) ?_ | refine H.datl hc1 (by rfl) ?_ | refine H.lw ?_ | refine H.ll ?_)); (conv => whnf))
  (refine And.intro (fun w1 hsv => ?_) ?_; focus (obtain ⟨_, H1⟩ := Rel.savAt H (i := 3) rfl rfl hsv; clear H; have H := H1; clear H1; ((repeat ((conv => whnf); first | refine an ?_ | ((first | refine H.nwD ?_ | refine H.nw ?_); clear H; intro w _ H) | refine H.ce ?_ | refine H.db ?_ | refine ea ?_ | (refine H.st ?_; (conv => whnf); clear H; intro w H) | refine condT fun _ => ?_ | refine condF fun _ => ?_ | refine condNT fun _ => ?_ | refine condNF fun _ => ?_ | refine H.da (hc1 _ _ (by rfl)) ?_ | refine H.datw hc1 (by rfl) ?_ | refine H.datl hc1 (by rfl) ?_ | refine H.lw ?_ | refine H.ll ?_)); (conv => whnf)); try exact ⟨rfl, rfl⟩))
  ((repeat ((conv => whnf); first | refine an ?_ | refine H.ce ?_ | refine H.db ?_ | refine ea ?_ | fail | refine condT fun _ => ?_ | refine condF fun _ => ?_ | refine condNT fun _ => ?_ | refine condNF fun _ => ?_ | refine H.da (hc1 _ _ (by rfl)) ?_ | refine H.datw hc1 (by rfl) ?_ | refine H.datl hc1 (by rfl) ?_ | refine H.lw ?_ | refine H.ll ?_)); (conv => whnf))
  (refine And.intro (fun w1 hsv => ?_) ?_; focus (obtain ⟨_, H1⟩ := Rel.savAt H (i := 3) rfl rfl hsv; clear H; have H := H1; clear H1; ((repeat ((conv => whnf); first | refine an ?_ | ((first | refine H.nwD ?_ | refine H.nw ?_); clear H; intro w _ H) | refine H.ce ?_ | refine H.db ?_ | refine ea ?_ | (refine H.st ?_; (conv => whnf); clear H; intro w H) | refine condT fun _ => ?_ | refine condF fun _ => ?_ | refine condNT fun _ => ?_ | refine condNF fun _ => ?_ | refine H.da (hc1 _ _ (by rfl)) ?_ | refine H.datw hc1 (by rfl) ?_ | refine H.datl hc1 (by rfl) ?_ | refine H.lw ?_ | refine H.ll ?_)); (conv => whnf)); try exact ⟨rfl, rfl⟩))
  ((repeat ((conv => whnf); first | refine an ?_ | refine H.ce ?_ | refine H.db ?_ | refine ea ?_ | fail | refine condT fun _ => ?_ | refine condF fun _ => ?_ | refine condNT fun _ => ?_ | refine condNF fun _ => ?_ | refine H.da (hc1 _ _ (by rfl)) ?_ | refine H.datw hc1 (by rfl) ?_ | refine H.datl hc1 (by rfl) ?_ | refine H.lw ?_ | refine H.ll ?_)); (conv => whnf))
  (refine Rel.storeXAt H (i := 3) rfl ?_; (conv => whnf); clear H; intro w H)
  ((repeat ((conv => whnf); first | refine an ?_ | ((first | refine H.nwD ?_ | refine H.nw ?_); clear H; intro w _ H) | refine H.ce ?_ | refine H.db ?_ | refine ea ?_ | (refine H.st ?_; (conv => whnf); clear H; intro w H) | refine condT fun _ => ?_ | refine condF fun _ => ?_ | refine condNT fun _ => ?_ | refine condNF fun _ => ?_ | refine H.da (hc1 _ _ (by rfl)) ?_ | refine H.datw hc1 (by rfl) ?_ | refine H.datl hc1 (by rfl) ?_ | refine H.lw ?_ | refine H.ll ?_)); (conv => whnf))
  have tr : Tr (entG l p) _ _ _ _ := tr
  have e : entAt l p = (entG l p).map entOf := rfl
  rw [e]
  clear e
  generalize entG l p = g at tr ⊢
  replace tr := tr.out
  cases g with
  | bad c i => exact ⟨V14, (⟨x1, x2, x3, x4, x5, x6, [], [], x9, x10, x11, x12, x13, []⟩, ⟨x7, x8, x14⟩), a14, c14, i14, hsub, H.sx, rfl, tr⟩
  | ok t q =>
    obtain ⟨e1, e2, e3, f⟩ := tr
    obtain ⟨⟨⟨⟨⟨⟨⟨⟨⟨⟨⟨⟨⟨⟨_, f1⟩, f2⟩, f3⟩, f4⟩, f5⟩, f6⟩, f7⟩, f8⟩, f9⟩, f10⟩, f11⟩, f12⟩, f13⟩, f14⟩ := f
    simp only [eqR] at f1 f2 f3 f4 f5 f6 f9 f10 f11 f12 f13
    subst f1 f2 f3 f4 f5 f6 f9 f10 f11 f12 f13
    exact ⟨V14, (entOf t, ⟨x7, x8, x14⟩), a14, c14, i14, hsub, H.sx, rfl, e1, e2, e3, rfl, f7.eqs.up hs7, f8.eqs.up hs8, f14.eqs⟩
end Go.Proofs.YtlhgmigoncmcaaaGreat
namespace Go.Proofs.YtlhgmigoncmcaaaGreat
open Go Go.RowKit

theorem RL.ents {V : World} {r : Sl} {ys : List Ent} (h : RL entP (fun V (p : Ent × EntH) e => p.1 = e ∧ EntOk V p.1 p.2) V r ys) : Ents V r ys := by
  obtain ⟨xs, h1, h2⟩ := h
  have hl := h2.len
  refine ⟨xs, List.ext_getElem (by simpa using hl) fun k g1 g2 => ?_, h1, fun p hp => ?_⟩
  · simp only [List.length_map] at g1
    rw [List.getElem_map]
    exact (h2.all k _ _ (List.getElem?_eq_getElem g1) (List.getElem?_eq_getElem g2)).1
  · obtain ⟨k, hk, rfl⟩ := List.getElem_of_mem hp
    exact (h2.all k _ _ (List.getElem?_eq_getElem hk) (List.getElem?_eq_getElem (by omega))).2
/-- what a catalogue's bytes are decoded to -/
def decE (l : List UInt8) : Option (List Ent) := match listAt l (entAt l) 60 0 with
  | .bad _ _ => none
  | .ok es q => if q = l.length ∧ (catFault es).1 = 0 then some es else none
def decCode (l : List UInt8) : Int × Int := if 200000 < l.length then (3, -1) else match decE l with
  | none => (16, -1)
  | some _ => (0, 0)
set_option maxRecDepth 100000 in
theorem decode_spec {V W : World} (hV : Sub V W) {s : Sl} {l : List UInt8} (hs : Byt V s l) : Ret Tryz.prog 7 [s.v].toArray W (CatOr W V (decCode l).1 (decCode l).2 ((decE l).getD [])) := by
  have H := Rel.start hV
  have hlen := hs.len
  refine cal_of_vc tabOk Tryz.func7 rfl (by kernel_rfl) 40 rfl (by simp) [0, 2, 3, 4, 5, 6, 7, 10, 35] ?_
  ((repeat ((conv => whnf); first | refine an ?_ | refine H.ce ?_ | refine H.db ?_ | refine ea ?_ | (refine H.st ?_; (conv => whnf); clear H; intro w H) | refine condT fun _ => ?_ | refine condF fun _ => ?_ | refine condNT fun _ => ?_ | refine condNF fun _ => ?_ | refine H.da (hc1 _ _ (by rfl)) ?_ | refine H.datw hc1 (by rfl) ?_ | refine H.datl hc1 (by rfl) ?_ | refine H.lw ?_ | refine H.ll ?_)); (conv => whnf))
  ((first | refine Rel.nwD H ?_ | refine Rel.nw H ?_); clear H; intro w b2 H)
  ((repeat ((conv => whnf); first | refine an ?_ | refine H.ce ?_ | refine H.db ?_ | refine ea ?_ | (refine H.st ?_; (conv => whnf); clear H; intro w H) | refine condT fun _ => ?_ | refine condF fun _ => ?_ | refine condNT fun _ => ?_ | refine condNF fun _ => ?_ | refine H.da (hc1 _ _ (by rfl)) ?_ | refine H.datw hc1 (by rfl) ?_ | refine H.datl hc1 (by rfl) ?_ | refine H.lw ?_ | refine H.ll ?_)); (conv => whnf))
  ((first | refine Rel.nwD H ?_ | refine Rel.nw H ?_); clear H; intro w b3 H)
  by_cases hl : 200000 < l.length
  · rw [show decCode l = (3, -1) by rw [decCode, if_pos hl]]
    ((repeat ((conv => whnf); first | refine an ?_ | ((first | refine H.nwD ?_ | refine H.nw ?_); clear H; intro w _ H) | refine H.ce ?_ | refine H.db ?_ | refine ea ?_ | (refine H.st ?_; (conv => whnf); clear H; intro w H) | refine condT fun _ => ?_ | refine condF fun _ => ?_ | refine condNT fun _ => ?_ | refine condNF fun _ => ?_ | refine H.da (hc1 _ _ (by rfl)) ?_ | refine H.datw hc1 (by rfl) ?_ | refine H.datl hc1 (by rfl) ?_ | refine H.lw ?_ | refine H.ll ?_)); (conv => whnf))
    refine (fault_cat H.data 3 (-1)).use ?_
    rintro v w ⟨rfl, K⟩
    (have hKb := K.base; replace H := Rel.call H K)
    simp only [List.nil_append] at H
    ((repeat ((conv => whnf); first | refine an ?_ | ((first | refine H.nwD ?_ | refine H.nw ?_); clear H; intro w _ H) | refine H.ce ?_ | refine H.db ?_ | refine ea ?_ | (refine H.st ?_; (conv => whnf); clear H; intro w H) | refine condT fun _ => ?_ | refine condF fun _ => ?_ | refine condNT fun _ => ?_ | refine condNF fun _ => ?_ | refine H.da (hc1 _ _ (by rfl)) ?_ | refine H.datw hc1 (by rfl) ?_ | refine H.datl hc1 (by rfl) ?_ | refine H.lw ?_ | refine H.ll ?_)); (conv => whnf))
    exact ⟨V, Sub.refl _, H.sx, .inl ⟨by decide, rfl⟩⟩
  ((repeat ((conv => whnf); first | refine an ?_ | ((first | refine H.nwD ?_ | refine H.nw ?_); clear H; intro w _ H) | refine H.ce ?_ | refine H.db ?_ | refine ea ?_ | (refine H.st ?_; (conv => whnf); clear H; intro w H) | refine condT fun _ => ?_ | refine condF fun _ => ?_ | refine condNT fun _ => ?_ | refine condNF fun _ => ?_ | refine H.da (hc1 _ _ (by rfl)) ?_ | refine H.datw hc1 (by rfl) ?_ | refine H.datl hc1 (by rfl) ?_ | refine H.lw ?_ | refine H.ll ?_)); (conv => whnf))
  refine (readSlice_ents (m := 60) (p := 0) H.data hs (by omega) (by omega) (by constructor <;> omega) (fun q hq => entry_reads hs (by omega) hq) (ent_rds l).inn).use ?_
  rintro v w ⟨V2, x, n, c, i, hV2, K, rfl, hres⟩
  (have hKb := K.base; replace H := Rel.call H K)
  simp only [List.nil_append] at H
  ((repeat ((conv => whnf); first | refine an ?_ | refine H.ce ?_ | refine H.db ?_ | refine ea ?_ | (refine H.st ?_; (conv => whnf); clear H; intro w H) | refine condT fun _ => ?_ | refine condF fun _ => ?_ | refine condNT fun _ => ?_ | refine condNF fun _ => ?_ | refine H.da (hc1 _ _ (by rfl)) ?_ | refine H.datw hc1 (by rfl) ?_ | refine H.datl hc1 (by rfl) ?_ | refine H.lw ?_ | refine H.ll ?_)); (conv => whnf))
  ((first | refine Rel.nwD H ?_ | refine Rel.nw H ?_); clear H; intro w b6 H)
  ((repeat ((conv => whnf); first | refine an ?_ | refine H.ce ?_ | refine H.db ?_ | refine ea ?_ | (refine H.st ?_; (conv => whnf); clear H; intro w H) | refine condT fun _ => ?_ | refine condF fun _ => ?_ | refine condNT fun _ => ?_ | refine condNF fun _ => ?_ | refine H.da (hc1 _ _ (by rfl)) ?_ | refine H.datw hc1 (by rfl) ?_ | refine H.datl hc1 (by rfl) ?_ | refine H.lw ?_ | refine H.ll ?_)); (conv => whnf))
  ((first | refine Rel.nwD H ?_ | refine Rel.nw H ?_); clear H; intro w b7 H)
  cases ho : listAt l (entAt l) 60 0 with
  | bad c' i' =>
    rw [show decCode l = (16, -1) by rw [decCode, if_neg hl, decE, ho]]
    rw [ho] at hres
    obtain ⟨rfl, rfl, hc0⟩ := hres
    ((repeat ((conv => whnf); first | refine an ?_ | ((first | refine H.nwD ?_ | refine H.nw ?_); clear H; intro w _ H) | refine H.ce ?_ | refine H.db ?_ | refine ea ?_ | (refine H.st ?_; (conv => whnf); clear H; intro w H) | refine condT fun _ => ?_ | refine condF fun _ => ?_ | refine condNT fun _ => ?_ | refine condNF fun _ => ?_ | refine H.da (hc1 _ _ (by rfl)) ?_ | refine H.datw hc1 (by rfl) ?_ | refine H.datl hc1 (by rfl) ?_ | refine H.lw ?_ | refine H.ll ?_)); (conv => whnf))
    refine (fault_cat H.data 16 (-1)).use ?_
    rintro v w ⟨rfl, K⟩
    (have hKb := K.base; replace H := Rel.call H K)
    simp only [List.nil_append] at H
    ((repeat ((conv => whnf); first | refine an ?_ | ((first | refine H.nwD ?_ | refine H.nw ?_); clear H; intro w _ H) | refine H.ce ?_ | refine H.db ?_ | refine ea ?_ | (refine H.st ?_; (conv => whnf); clear H; intro w H) | refine condT fun _ => ?_ | refine condF fun _ => ?_ | refine condNT fun _ => ?_ | refine condNF fun _ => ?_ | refine H.da (hc1 _ _ (by rfl)) ?_ | refine H.datw hc1 (by rfl) ?_ | refine H.datl hc1 (by rfl) ?_ | refine H.lw ?_ | refine H.ll ?_)); (conv => whnf))
    exact ⟨V2, hV2, H.sx, .inl ⟨by decide, rfl⟩⟩
  | ok es q =>
    rw [ho] at hres
    obtain ⟨rfl, rfl, rfl, hr⟩ := hres
    have hE := hr.ents
    have h60 := list_len ho (by decide)
    by_cases hq : q = l.length
    rotate_left
    · rw [show decCode l = (16, -1) by rw [decCode, if_neg hl, decE, ho]; simp [hq]]
      ((repeat ((conv => whnf); first | refine an ?_ | ((first | refine H.nwD ?_ | refine H.nw ?_); clear H; intro w _ H) | refine H.ce ?_ | refine H.db ?_ | refine ea ?_ | (refine H.st ?_; (conv => whnf); clear H; intro w H) | refine condT fun _ => ?_ | refine condF fun _ => ?_ | refine condNT fun _ => ?_ | refine condNF fun _ => ?_ | refine H.da (hc1 _ _ (by rfl)) ?_ | refine H.datw hc1 (by rfl) ?_ | refine H.datl hc1 (by rfl) ?_ | refine H.lw ?_ | refine H.ll ?_)); (conv => whnf))
      refine (fault_cat H.data 16 (-1)).use ?_
      rintro v w ⟨rfl, K⟩
      (have hKb := K.base; replace H := Rel.call H K)
      simp only [List.nil_append] at H
      ((repeat ((conv => whnf); first | refine an ?_ | ((first | refine H.nwD ?_ | refine H.nw ?_); clear H; intro w _ H) | refine H.ce ?_ | refine H.db ?_ | refine ea ?_ | (refine H.st ?_; (conv => whnf); clear H; intro w H) | refine condT fun _ => ?_ | refine condF fun _ => ?_ | refine condNT fun _ => ?_ | refine condNF fun _ => ?_ | refine H.da (hc1 _ _ (by rfl)) ?_ | refine H.datw hc1 (by rfl) ?_ | refine H.datl hc1 (by rfl) ?_ | refine H.lw ?_ | refine H.ll ?_)); (conv => whnf))
      exact ⟨V2, hV2, H.sx, .inl ⟨by decide, rfl⟩⟩
    ((repeat ((conv => whnf); first | refine an ?_ | ((first | refine H.nwD ?_ | refine H.nw ?_); clear H; intro w _ H) | refine H.ce ?_ | refine H.db ?_ | refine ea ?_ | (refine H.st ?_; (conv => whnf); clear H; intro w H) | refine condT fun _ => ?_ | refine condF fun _ => ?_ | refine condNT fun _ => ?_ | refine condNF fun _ => ?_ | refine H.da (hc1 _ _ (by rfl)) ?_ | refine H.datw hc1 (by rfl) ?_ | refine H.datl hc1 (by rfl) ?_ | refine H.lw ?_ | refine H.ll ?_)); (conv => whnf))
    refine (validate_spec H.data hE (by omega)).use ?_
    rintro v w ⟨rfl, V3, hV3, K⟩
    (have hKb := K.base; replace H := Rel.call H K)
    simp only [List.nil_append] at H
    by_cases hf : (catFault es).1 = 0
    · rw [show decCode l = (0, 0) by rw [decCode, if_neg hl, decE, ho]; simp [hq, hf], show (decE l).getD [] = es by rw [decE, ho]; simp [hq, hf]]
      obtain ⟨hc0, _⟩ := catFault_zero hf
      rw [hc0]
      ((repeat ((conv => whnf); first | refine an ?_ | ((first | refine H.nwD ?_ | refine H.nw ?_); clear H; intro w _ H) | refine H.ce ?_ | refine H.db ?_ | refine ea ?_ | (refine H.st ?_; (conv => whnf); clear H; intro w H) | refine condT fun _ => ?_ | refine condF fun _ => ?_ | refine condNT fun _ => ?_ | refine condNF fun _ => ?_ | refine H.da (hc1 _ _ (by rfl)) ?_ | refine H.datw hc1 (by rfl) ?_ | refine H.datl hc1 (by rfl) ?_ | refine H.lw ?_ | refine H.ll ?_)); (conv => whnf))
      exact ⟨V3, hV2.trans hV3, H.sx, .inr ⟨rfl, x, rfl, hE.up hV3⟩⟩
    · rw [show decCode l = (16, -1) by rw [decCode, if_neg hl, decE, ho]; simp [hf]]
      ((repeat ((conv => whnf); first | refine an ?_ | ((first | refine H.nwD ?_ | refine H.nw ?_); clear H; intro w _ H) | refine H.ce ?_ | refine H.db ?_ | refine ea ?_ | (refine H.st ?_; (conv => whnf); clear H; intro w H) | refine condT fun _ => ?_ | refine condF fun _ => ?_ | refine condNT fun _ => ?_ | refine condNF fun _ => ?_ | refine H.da (hc1 _ _ (by rfl)) ?_ | refine H.datw hc1 (by rfl) ?_ | refine H.datl hc1 (by rfl) ?_ | refine H.lw ?_ | refine H.ll ?_)); (conv => whnf))
      refine (fault_cat H.data 16 (-1)).use ?_
      rintro v w ⟨rfl, K⟩
      (have hKb := K.base; replace H := Rel.call H K)
      simp only [List.nil_append] at H
      ((repeat ((conv => whnf); first | refine an ?_ | ((first | refine H.nwD ?_ | refine H.nw ?_); clear H; intro w _ H) | refine H.ce ?_ | refine H.db ?_ | refine ea ?_ | (refine H.st ?_; (conv => whnf); clear H; intro w H) | refine condT fun _ => ?_ | refine condF fun _ => ?_ | refine condNT fun _ => ?_ | refine condNF fun _ => ?_ | refine H.da (hc1 _ _ (by rfl)) ?_ | refine H.datw hc1 (by rfl) ?_ | refine H.datl hc1 (by rfl) ?_ | refine H.lw ?_ | refine H.ll ?_)); (conv => whnf))
      exact ⟨V3, hV2.trans hV3, H.sx, .inl ⟨by decide, rfl⟩⟩
end Go.Proofs.YtlhgmigoncmcaaaGreat
