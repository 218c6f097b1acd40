/-
  The reference's encoding of a catalogue.
-/
import Derived.Test.YtlhgmigoncmcaaaGreatDecP
namespace Go.Proofs.YtlhgmigoncmcaaaGreat
open Go Go.RowKit

abbrev bytA (o : List UInt8) (e : Ent) : List UInt8 := o ++ putC e.name ++ putN e.ver ++ putN e.kind ++ putN e.day ++ putN e.size ++ digL e.sum ++ putN e.sources.length
abbrev bytB (o : List UInt8) (e : Ent) : List UInt8 := bytA o e ++ e.sources.flatMap putRef ++ putN e.groups.length
abbrev bytC' (o : List UInt8) (e : Ent) : List UInt8 := bytB o e ++ e.groups.flatMap putC ++ putN e.emb ++ putN e.need ++ putN e.keep ++ putN e.csize ++ digL e.csum ++ putN e.pieces.length
theorem byt_putE (o : List UInt8) (e : Ent) : bytC' o e ++ e.pieces.flatMap digL = o ++ putE e := by simp [putE, putL]
/-- lengths of an entry's parts -/
structure Lens (e : Ent) : Prop where
  a : (putC e.name).length ≤ 1010
  n1 : (putN e.ver).length ≤ 10
  n2 : (putN e.kind).length ≤ 10
  n3 : (putN e.day).length ≤ 10
  n4 : (putN e.size).length ≤ 10
  n5 : (putN e.emb).length ≤ 10
  n6 : (putN e.need).length ≤ 10
  n7 : (putN e.keep).length ≤ 10
  n8 : (putN e.csize).length ≤ 10
  l1 : (putN e.sources.length).length ≤ 10
  l2 : (putN e.groups.length).length ≤ 10
  l3 : (putN e.pieces.length).length ≤ 10
  s1 : ∀ r ∈ e.sources, (putRef r).length ≤ 1020
  s2 : ∀ g ∈ e.groups, (putC g).length ≤ 1010
theorem Tame.lenOf {e : Ent} (h : Tame e) : Lens e := by
  have hN := h.num
  have c1 := h.so
  have c2 := h.gr
  have c3 := h.pi
  have p : ∀ {n : Int}, I64 n → (putN n).length ≤ 10 := fun h => putN_len h.1 h.2
  refine ⟨?_, p hN.ver, p hN.kind, p hN.day, p hN.size, p hN.emb, p hN.need, p hN.keep, p hN.csize, p (by constructor <;> omega), p (by constructor <;> omega), p (by constructor <;> omega), fun r hr => ?_, fun g hg => ?_⟩
  · have := h.name
    have := putC_len (b := e.name) (by omega)
    omega
  · have h1 := h.sn r hr
    have h3 := p (hN.srcs r hr)
    have h4 := putC_len (b := r.name) (by omega)
    rw [putRef, List.length_append]
    omega
  · have h1 := h.gn g hg
    have h4 := putC_len (b := g) (by omega)
    omega
set_option maxRecDepth 100000 in
set_option maxHeartbeats 1000000 in
theorem catalogueBytes_ref {V W : World} (hV : Sub V W) {s : Sl} {l : List Ent} (hs : Ents V s l) (hl : l.length ≤ 60) (ht : ∀ e ∈ l, Tame e) : Ret Tryz.prog 9 [catV s].toArray W fun v w' => ∃ r : Sl, v = r.v ∧ Rel W V [.row r 5 1 ((putL putE l).flatMap byC)] V w' := by
  have H := Rel.start hV
  have hlen := hs.len
  have hl0 := putN_len (n := l.length) (by omega) (by omega)
  refine cal_of_vc tabOk Tryz.func9 rfl (by kernel_rfl) 159 rfl (by simp) [0, 1, 2, 3, 4, 5, 6, 7, 8, 17, 65, 97, 147] ?_
  ((repeat ((conv => whnf); first | refine an ?_ | refine H.ce ?_ | refine H.db ?_ | refine ea ?_ | (refine H.st ?_; (conv => whnf); clear H; intro w H) | refine condT fun _ => ?_ | refine condF fun _ => ?_ | refine condNT fun _ => ?_ | refine condNF fun _ => ?_ | refine H.da (hc1 _ _ (by rfl)) ?_ | refine H.datw hc1 (by rfl) ?_ | refine H.datl hc1 (by rfl) ?_ | refine H.lw ?_ | refine H.ll ?_)); (conv => whnf))
  ((first | refine Rel.nwD H ?_ | refine Rel.nw H ?_); clear H; intro w b1 H)
  ((repeat ((conv => whnf); first | refine an ?_ | ((first | refine H.nwD ?_ | refine H.nw ?_); clear H; intro w _ H) | refine H.ce ?_ | refine H.db ?_ | refine ea ?_ | (refine H.st ?_; (conv => whnf); clear H; intro w H) | refine condT fun _ => ?_ | refine condF fun _ => ?_ | refine condNT fun _ => ?_ | refine condNF fun _ => ?_ | refine H.da (hc1 _ _ (by rfl)) ?_ | refine H.datw hc1 (by rfl) ?_ | refine H.datl hc1 (by rfl) ?_ | refine H.lw ?_ | refine H.ll ?_)); (conv => whnf))
  rw [hlen]
  refine (put_ref (n := l.length) H.data (by constructor <;> omega)).use ?_
  rintro v w ⟨r0, rfl, K⟩
  (have hKb := K.base; replace H := Rel.call H K)
  simp only [List.cons_append, List.nil_append] at H
  ((repeat ((conv => whnf); first | refine an ?_ | ((first | refine H.nwD ?_ | refine H.nw ?_); clear H; intro w _ H) | refine H.ce ?_ | refine H.db ?_ | refine ea ?_ | (refine H.st ?_; (conv => whnf); clear H; intro w H) | refine condT fun _ => ?_ | refine condF fun _ => ?_ | refine condNT fun _ => ?_ | refine condNF fun _ => ?_ | refine H.da (hc1 _ _ (by rfl)) ?_ | refine H.datw hc1 (by rfl) ?_ | refine H.datl hc1 (by rfl) ?_ | refine H.lw ?_ | refine H.ll ?_)); (conv => whnf))
  refine loop_inv (S := Nat × Sl) tabOk [0, 1, 2] (fun k => [(3, k.2.v), (4, iv k.1)]) (fun k w' => k.1 ≤ l.length ∧ ((l.take k.1).flatMap putE).length ≤ k.1 * 20000 ∧ Rel W V [.row k.2 5 1 ((putN l.length ++ (l.take k.1).flatMap putE).flatMap byC), .blk b1 [s.v] 24] V w') (fun k _ => l.length - k.1) (0, r0) ?_
  (conv => whnf)
  refine ⟨(by repeat (first | exact trivial | refine ⟨rfl, ?_⟩)), ⟨by omega, by simp, by simpa using H⟩, ?_⟩
  clear H
  rintro ⟨k, r⟩ w ⟨hk, hkl, H⟩
  dsimp only at hk hkl H
  by_cases hlt : k < l.length
  rotate_left
  · ((repeat ((conv => whnf); first | refine an ?_ | ((first | refine H.nwD ?_ | refine H.nw ?_); clear H; intro w _ H) | refine H.ce ?_ | refine H.db ?_ | refine ea ?_ | (refine H.st ?_; (conv => whnf); clear H; intro w H) | refine condT fun _ => ?_ | refine condF fun _ => ?_ | refine condNT fun _ => ?_ | refine condNF fun _ => ?_ | refine H.da (hc1 _ _ (by rfl)) ?_ | refine H.datw hc1 (by rfl) ?_ | refine H.datl hc1 (by rfl) ?_ | refine H.lw ?_ | refine H.ll ?_)); (conv => whnf))
    rw [List.take_of_length_le (by omega)] at H
    exact ⟨r, rfl, H.sx⟩
  obtain ⟨hp, eh, hok, hc1⟩ := hs.get hlt
  have he := List.getElem_mem hlt
  have hn1 : ((l.take (k + 1)).flatMap putE) = (l.take k).flatMap putE ++ putE l[k] := by
    rw [List.take_succ_eq_append_getElem hlt]
    simp only [List.flatMap_append, List.flatMap_cons, List.flatMap_nil, List.append_nil]
  obtain ⟨o, ho⟩ : ∃ o, o = putN l.length ++ (l.take k).flatMap putE := ⟨_, rfl⟩
  have hol : o.length ≤ 10 + k * 20000 := by rw [ho, List.length_append]; omega
  rw [← ho] at H
  have hn2 : putN l.length ++ (l.take (k + 1)).flatMap putE = o ++ putE l[k] := by rw [hn1, ho, List.append_assoc]
  have hT := ht _ he
  generalize l[k] = e at *
  have hN := hT.num
  have hL := hT.lenOf
  obtain ⟨z1, z2, z3, z4, z5, z6, z7, z8, z9, z10, z11, z12, z13, z14⟩ := hL
  have d1 := digL_len e.sum
  have d2 := digL_len e.csum
  have q1 := hT.so
  have q2 := hT.gr
  have q3 := hT.pi
  have q4 := hT.name
  have g1 := hok.so.len
  have g2 := hok.gr.len
  have g3 := hok.pi.len
  ((repeat ((conv => whnf); first | refine an ?_ | refine H.ce ?_ | refine H.db ?_ | refine ea ?_ | (refine H.st ?_; (conv => whnf); clear H; intro w H) | refine condT fun _ => ?_ | refine condF fun _ => ?_ | refine condNT fun _ => ?_ | refine condNF fun _ => ?_ | refine H.da (hc1 _ _ (by rfl)) ?_ | refine H.datw hc1 (by rfl) ?_ | refine H.datl hc1 (by rfl) ?_ | refine H.lw ?_ | refine H.ll ?_)); (conv => whnf))
  ((first | refine Rel.nwD H ?_ | refine Rel.nw H ?_); clear H; intro w b5 H)
  ((repeat ((conv => whnf); first | refine an ?_ | ((first | refine H.nwD ?_ | refine H.nw ?_); clear H; intro w _ H) | refine H.ce ?_ | refine H.db ?_ | refine ea ?_ | (refine H.st ?_; (conv => whnf); clear H; intro w H) | refine condT fun _ => ?_ | refine condF fun _ => ?_ | refine condNT fun _ => ?_ | refine condNF fun _ => ?_ | refine H.da (hc1 _ _ (by rfl)) ?_ | refine H.datw hc1 (by rfl) ?_ | refine H.datl hc1 (by rfl) ?_ | refine H.lw ?_ | refine H.ll ?_)); (conv => whnf))
  refine Rel.convSB Tryz.underlying9 Tryz.underlying26 Tryz.underlying5 H e.name ?_
  clear H
  intro V1 s1 w he hV1 hs1 H
  ((repeat ((conv => whnf); first | refine an ?_ | ((first | refine H.nwD ?_ | refine H.nw ?_); clear H; intro w _ H) | refine H.ce ?_ | refine H.db ?_ | refine ea ?_ | (refine H.st ?_; (conv => whnf); clear H; intro w H) | refine condT fun _ => ?_ | refine condF fun _ => ?_ | refine condNT fun _ => ?_ | refine condNF fun _ => ?_ | refine H.da (hc1 _ _ (by rfl)) ?_ | refine H.datw hc1 (by rfl) ?_ | refine H.datl hc1 (by rfl) ?_ | refine H.lw ?_ | refine H.ll ?_)); (conv => whnf))
  refine (putChunk_ref H.data hs1 (by omega)).use ?_
  rintro v w ⟨r1, rfl, K⟩
  (have hKb := K.base; replace H := Rel.call H K)
  simp only [List.cons_append, List.nil_append] at H
  replace H := H.back
  ((repeat ((conv => whnf); first | refine an ?_ | ((first | refine H.nwD ?_ | refine H.nw ?_); clear H; intro w _ H) | refine H.ce ?_ | refine H.db ?_ | refine ea ?_ | (refine H.st ?_; (conv => whnf); clear H; intro w H) | refine condT fun _ => ?_ | refine condF fun _ => ?_ | refine condNT fun _ => ?_ | refine condNF fun _ => ?_ | refine H.da (hc1 _ _ (by rfl)) ?_ | refine H.datw hc1 (by rfl) ?_ | refine H.datl hc1 (by rfl) ?_ | refine H.lw ?_ | refine H.ll ?_)); (conv => whnf))
  refine Rel.appB H (i := 1) rfl (by (try simp only [List.length_append]); omega) ?_
  clear H
  intro r w H
  ((repeat ((conv => whnf); first | refine an ?_ | ((first | refine H.nwD ?_ | refine H.nw ?_); clear H; intro w _ H) | refine H.ce ?_ | refine H.db ?_ | refine ea ?_ | (refine H.st ?_; (conv => whnf); clear H; intro w H) | refine condT fun _ => ?_ | refine condF fun _ => ?_ | refine condNT fun _ => ?_ | refine condNF fun _ => ?_ | refine H.da (hc1 _ _ (by rfl)) ?_ | refine H.datw hc1 (by rfl) ?_ | refine H.datl hc1 (by rfl) ?_ | refine H.lw ?_ | refine H.ll ?_)); (conv => whnf))
  refine (put_ref (n := e.ver) H.data (by first | exact hN.ver | constructor <;> omega)).use ?_
  rintro v w ⟨r1, rfl, K⟩
  (have hKb := K.base; replace H := Rel.call H K)
  simp only [List.cons_append, List.nil_append] at H
  ((repeat ((conv => whnf); first | refine an ?_ | ((first | refine H.nwD ?_ | refine H.nw ?_); clear H; intro w _ H) | refine H.ce ?_ | refine H.db ?_ | refine ea ?_ | (refine H.st ?_; (conv => whnf); clear H; intro w H) | refine condT fun _ => ?_ | refine condF fun _ => ?_ | refine condNT fun _ => ?_ | refine condNF fun _ => ?_ | refine H.da (hc1 _ _ (by rfl)) ?_ | refine H.datw hc1 (by rfl) ?_ | refine H.datl hc1 (by rfl) ?_ | refine H.lw ?_ | refine H.ll ?_)); (conv => whnf))
  refine Rel.appB H (i := 1) rfl (by (try simp only [List.length_append]); omega) ?_
  clear H
  intro r w H
  ((repeat ((conv => whnf); first | refine an ?_ | ((first | refine H.nwD ?_ | refine H.nw ?_); clear H; intro w _ H) | refine H.ce ?_ | refine H.db ?_ | refine ea ?_ | (refine H.st ?_; (conv => whnf); clear H; intro w H) | refine condT fun _ => ?_ | refine condF fun _ => ?_ | refine condNT fun _ => ?_ | refine condNF fun _ => ?_ | refine H.da (hc1 _ _ (by rfl)) ?_ | refine H.datw hc1 (by rfl) ?_ | refine H.datl hc1 (by rfl) ?_ | refine H.lw ?_ | refine H.ll ?_)); (conv => whnf))
  refine (put_ref (n := e.kind) H.data (by first | exact hN.kind | constructor <;> omega)).use ?_
  rintro v w ⟨r1, rfl, K⟩
  (have hKb := K.base; replace H := Rel.call H K)
  simp only [List.cons_append, List.nil_append] at H
  ((repeat ((conv => whnf); first | refine an ?_ | ((first | refine H.nwD ?_ | refine H.nw ?_); clear H; intro w _ H) | refine H.ce ?_ | refine H.db ?_ | refine ea ?_ | (refine H.st ?_; (conv => whnf); clear H; intro w H) | refine condT fun _ => ?_ | refine condF fun _ => ?_ | refine condNT fun _ => ?_ | refine condNF fun _ => ?_ | refine H.da (hc1 _ _ (by rfl)) ?_ | refine H.datw hc1 (by rfl) ?_ | refine H.datl hc1 (by rfl) ?_ | refine H.lw ?_ | refine H.ll ?_)); (conv => whnf))
  refine Rel.appB H (i := 1) rfl (by (try simp only [List.length_append]); omega) ?_
  clear H
  intro r w H
  ((repeat ((conv => whnf); first | refine an ?_ | ((first | refine H.nwD ?_ | refine H.nw ?_); clear H; intro w _ H) | refine H.ce ?_ | refine H.db ?_ | refine ea ?_ | (refine H.st ?_; (conv => whnf); clear H; intro w H) | refine condT fun _ => ?_ | refine condF fun _ => ?_ | refine condNT fun _ => ?_ | refine condNF fun _ => ?_ | refine H.da (hc1 _ _ (by rfl)) ?_ | refine H.datw hc1 (by rfl) ?_ | refine H.datl hc1 (by rfl) ?_ | refine H.lw ?_ | refine H.ll ?_)); (conv => whnf))
  refine (put_ref (n := e.day) H.data (by first | exact hN.day | constructor <;> omega)).use ?_
  rintro v w ⟨r1, rfl, K⟩
  (have hKb := K.base; replace H := Rel.call H K)
  simp only [List.cons_append, List.nil_append] at H
  ((repeat ((conv => whnf); first | refine an ?_ | ((first | refine H.nwD ?_ | refine H.nw ?_); clear H; intro w _ H) | refine H.ce ?_ | refine H.db ?_ | refine ea ?_ | (refine H.st ?_; (conv => whnf); clear H; intro w H) | refine condT fun _ => ?_ | refine condF fun _ => ?_ | refine condNT fun _ => ?_ | refine condNF fun _ => ?_ | refine H.da (hc1 _ _ (by rfl)) ?_ | refine H.datw hc1 (by rfl) ?_ | refine H.datl hc1 (by rfl) ?_ | refine H.lw ?_ | refine H.ll ?_)); (conv => whnf))
  refine Rel.appB H (i := 1) rfl (by (try simp only [List.length_append]); omega) ?_
  clear H
  intro r w H
  ((repeat ((conv => whnf); first | refine an ?_ | ((first | refine H.nwD ?_ | refine H.nw ?_); clear H; intro w _ H) | refine H.ce ?_ | refine H.db ?_ | refine ea ?_ | (refine H.st ?_; (conv => whnf); clear H; intro w H) | refine condT fun _ => ?_ | refine condF fun _ => ?_ | refine condNT fun _ => ?_ | refine condNF fun _ => ?_ | refine H.da (hc1 _ _ (by rfl)) ?_ | refine H.datw hc1 (by rfl) ?_ | refine H.datl hc1 (by rfl) ?_ | refine H.lw ?_ | refine H.ll ?_)); (conv => whnf))
  refine (put_ref (n := e.size) H.data (by first | exact hN.size | constructor <;> omega)).use ?_
  rintro v w ⟨r1, rfl, K⟩
  (have hKb := K.base; replace H := Rel.call H K)
  simp only [List.cons_append, List.nil_append] at H
  ((repeat ((conv => whnf); first | refine an ?_ | ((first | refine H.nwD ?_ | refine H.nw ?_); clear H; intro w _ H) | refine H.ce ?_ | refine H.db ?_ | refine ea ?_ | (refine H.st ?_; (conv => whnf); clear H; intro w H) | refine condT fun _ => ?_ | refine condF fun _ => ?_ | refine condNT fun _ => ?_ | refine condNF fun _ => ?_ | refine H.da (hc1 _ _ (by rfl)) ?_ | refine H.datw hc1 (by rfl) ?_ | refine H.datl hc1 (by rfl) ?_ | refine H.lw ?_ | refine H.ll ?_)); (conv => whnf))
  refine Rel.appB H (i := 1) rfl (by (try simp only [List.length_append]); omega) ?_
  clear H
  intro r w H
  ((repeat ((conv => whnf); first | refine an ?_ | ((first | refine H.nwD ?_ | refine H.nw ?_); clear H; intro w _ H) | refine H.ce ?_ | refine H.db ?_ | refine ea ?_ | (refine H.st ?_; (conv => whnf); clear H; intro w H) | refine condT fun _ => ?_ | refine condF fun _ => ?_ | refine condNT fun _ => ?_ | refine condNF fun _ => ?_ | refine H.da (hc1 _ _ (by rfl)) ?_ | refine H.datw hc1 (by rfl) ?_ | refine H.datl hc1 (by rfl) ?_ | refine H.lw ?_ | refine H.ll ?_)); (conv => whnf))
  have hx : Cells w (some ⟨b5, 5, none⟩) ((digL e.sum).map bv) := Rel.partAt H (i := 0) (n := 32) rfl rfl
  refine Rel.appC (x := ⟨some ⟨b5, 5, none⟩, 32, 32⟩) (ys := digL e.sum) H (i := 1) rfl hx rfl (by (try simp only [List.length_append]); omega) ?_
  clear H
  intro r w H
  ((repeat ((conv => whnf); first | refine an ?_ | ((first | refine H.nwD ?_ | refine H.nw ?_); clear H; intro w _ H) | refine H.ce ?_ | refine H.db ?_ | refine ea ?_ | (refine H.st ?_; (conv => whnf); clear H; intro w H) | refine condT fun _ => ?_ | refine condF fun _ => ?_ | refine condNT fun _ => ?_ | refine condNF fun _ => ?_ | refine H.da (hc1 _ _ (by rfl)) ?_ | refine H.datw hc1 (by rfl) ?_ | refine H.datl hc1 (by rfl) ?_ | refine H.lw ?_ | refine H.ll ?_)); (conv => whnf))
  rw [g1]
  refine (put_ref (n := e.sources.length) H.data (by first | exact hN.ver | constructor <;> omega)).use ?_
  rintro v w ⟨r1, rfl, K⟩
  (have hKb := K.base; replace H := Rel.call H K)
  simp only [List.cons_append, List.nil_append] at H
  ((repeat ((conv => whnf); first | refine an ?_ | ((first | refine H.nwD ?_ | refine H.nw ?_); clear H; intro w _ H) | refine H.ce ?_ | refine H.db ?_ | refine ea ?_ | (refine H.st ?_; (conv => whnf); clear H; intro w H) | refine condT fun _ => ?_ | refine condF fun _ => ?_ | refine condNT fun _ => ?_ | refine condNF fun _ => ?_ | refine H.da (hc1 _ _ (by rfl)) ?_ | refine H.datw hc1 (by rfl) ?_ | refine H.datl hc1 (by rfl) ?_ | refine H.lw ?_ | refine H.ll ?_)); (conv => whnf))
  refine Rel.appB H (i := 1) rfl (by (try simp only [List.length_append]); omega) ?_
  clear H
  intro r w H
  ((repeat ((conv => whnf); first | refine an ?_ | ((first | refine H.nwD ?_ | refine H.nw ?_); clear H; intro w _ H) | refine H.ce ?_ | refine H.db ?_ | refine ea ?_ | (refine H.st ?_; (conv => whnf); clear H; intro w H) | refine condT fun _ => ?_ | refine condF fun _ => ?_ | refine condNT fun _ => ?_ | refine condNF fun _ => ?_ | refine H.da (hc1 _ _ (by rfl)) ?_ | refine H.datw hc1 (by rfl) ?_ | refine H.datl hc1 (by rfl) ?_ | refine H.lw ?_ | refine H.ll ?_)); (conv => whnf))
  refine SemC.cut 2 (fun r : Sl => [(0, catV s), (2, .slice none 0 0), (1, .pointer (some ⟨b1, 0, none⟩)), (3, r.v), (4, iv k), (5, .pointer (some ⟨b5, 0, none⟩))]) (fun r w' => Rel W V [.blk b5 (entC e eh) 61, .row r 5 1 ((bytA o e ++ e.sources.flatMap putRef).flatMap byC), .blk b1 [s.v] 24] V w') ?_ ?_
  · refine loop_inv (S := Nat × Sl) tabOk [0, 1, 2, 4, 5, 7, 8, 17, 97, 147] (fun q => [(3, q.2.v), (6, iv q.1)]) (fun q w' => q.1 ≤ e.sources.length ∧ ((e.sources.take q.1).flatMap putRef).length ≤ q.1 * 1020 ∧ Rel W V [.blk b5 (entC e eh) 61, .row q.2 5 1 ((bytA o e ++ (e.sources.take q.1).flatMap putRef).flatMap byC), .blk b1 [s.v] 24] V w') (fun q _ => e.sources.length - q.1) (0, r) ?_
    (conv => whnf)
    refine ⟨(by repeat (first | exact trivial | refine ⟨rfl, ?_⟩)), ⟨by omega, by simp, by simp only [List.take_zero, List.flatMap_nil, List.append_nil]; exact H⟩, ?_⟩
    clear H
    rintro ⟨j, r⟩ w ⟨hj, hjl, H⟩
    dsimp only at hj hjl H
    by_cases hjt : j < e.sources.length
    rotate_left
    · ((repeat ((conv => whnf); first | refine an ?_ | ((first | refine H.nwD ?_ | refine H.nw ?_); clear H; intro w _ H) | refine H.ce ?_ | refine H.db ?_ | refine ea ?_ | (refine H.st ?_; (conv => whnf); clear H; intro w H) | refine condT fun _ => ?_ | refine condF fun _ => ?_ | refine condNT fun _ => ?_ | refine condNF fun _ => ?_ | refine H.da (hc1 _ _ (by rfl)) ?_ | refine H.datw hc1 (by rfl) ?_ | refine H.datl hc1 (by rfl) ?_ | refine H.lw ?_ | refine H.ll ?_)); (conv => whnf))
      rw [List.take_of_length_le (by omega)] at H
      exact ⟨r, (by repeat (first | exact trivial | refine ⟨rfl, ?_⟩)), H⟩
    obtain ⟨hp1, hq1, hq2⟩ := Refs.get hok.so hjt
    have m1 := z13 _ (List.getElem_mem hjt)
    have m2 := hT.sn _ (List.getElem_mem hjt)
    have m3 := hN.srcs _ (List.getElem_mem hjt)
    have m4 : (putRef e.sources[j]).length = (putC e.sources[j].name).length + (putN e.sources[j].ver).length := by rw [putRef, List.length_append]
    have hn3 : (e.sources.take (j + 1)).flatMap putRef = (e.sources.take j).flatMap putRef ++ (putC e.sources[j].name ++ putN e.sources[j].ver) := by
      rw [List.take_succ_eq_append_getElem hjt]
      simp only [List.flatMap_append, List.flatMap_cons, List.flatMap_nil, List.append_nil, putRef]
    ((repeat ((conv => whnf); first | refine an ?_ | ((first | refine H.nwD ?_ | refine H.nw ?_); clear H; intro w _ H) | refine H.ce ?_ | refine H.db ?_ | refine ea ?_ | (refine H.st ?_; (conv => whnf); clear H; intro w H) | refine condT fun _ => ?_ | refine condF fun _ => ?_ | refine condNT fun _ => ?_ | refine condNF fun _ => ?_ | refine H.da (hc1 _ _ (by rfl)) ?_ | refine H.datw hc1 (by rfl) ?_ | refine H.datl hc1 (by rfl) ?_ | refine H.lw ?_ | refine H.ll ?_)); (conv => whnf))
    refine Rel.convSB Tryz.underlying9 Tryz.underlying26 Tryz.underlying5 H e.sources[j].name ?_
    clear H
    intro V1 s1 w he hV1 hs1 H
    ((repeat ((conv => whnf); first | refine an ?_ | ((first | refine H.nwD ?_ | refine H.nw ?_); clear H; intro w _ H) | refine H.ce ?_ | refine H.db ?_ | refine ea ?_ | (refine H.st ?_; (conv => whnf); clear H; intro w H) | refine condT fun _ => ?_ | refine condF fun _ => ?_ | refine condNT fun _ => ?_ | refine condNF fun _ => ?_ | refine H.da (hc1 _ _ (by rfl)) ?_ | refine H.datw hc1 (by rfl) ?_ | refine H.datl hc1 (by rfl) ?_ | refine H.lw ?_ | refine H.ll ?_)); (conv => whnf))
    refine (putChunk_ref H.data hs1 (by omega)).use ?_
    rintro v w ⟨r1, rfl, K⟩
    (have hKb := K.base; replace H := Rel.call H K)
    simp only [List.cons_append, List.nil_append] at H
    replace H := H.back
    ((repeat ((conv => whnf); first | refine an ?_ | ((first | refine H.nwD ?_ | refine H.nw ?_); clear H; intro w _ H) | refine H.ce ?_ | refine H.db ?_ | refine ea ?_ | (refine H.st ?_; (conv => whnf); clear H; intro w H) | refine condT fun _ => ?_ | refine condF fun _ => ?_ | refine condNT fun _ => ?_ | refine condNF fun _ => ?_ | refine H.da (hc1 _ _ (by rfl)) ?_ | refine H.datw hc1 (by rfl) ?_ | refine H.datl hc1 (by rfl) ?_ | refine H.lw ?_ | refine H.ll ?_)); (conv => whnf))
    refine Rel.appB H (i := 1) rfl (by (try simp only [List.length_append]); omega) ?_
    clear H
    intro r w H
    ((repeat ((conv => whnf); first | refine an ?_ | ((first | refine H.nwD ?_ | refine H.nw ?_); clear H; intro w _ H) | refine H.ce ?_ | refine H.db ?_ | refine ea ?_ | (refine H.st ?_; (conv => whnf); clear H; intro w H) | refine condT fun _ => ?_ | refine condF fun _ => ?_ | refine condNT fun _ => ?_ | refine condNF fun _ => ?_ | refine H.da (hc1 _ _ (by rfl)) ?_ | refine H.datw hc1 (by rfl) ?_ | refine H.datl hc1 (by rfl) ?_ | refine H.lw ?_ | refine H.ll ?_)); (conv => whnf))
    refine (put_ref (n := e.sources[j].ver) H.data (by first | exact m3 | constructor <;> omega)).use ?_
    rintro v w ⟨r1, rfl, K⟩
    (have hKb := K.base; replace H := Rel.call H K)
    simp only [List.cons_append, List.nil_append] at H
    ((repeat ((conv => whnf); first | refine an ?_ | ((first | refine H.nwD ?_ | refine H.nw ?_); clear H; intro w _ H) | refine H.ce ?_ | refine H.db ?_ | refine ea ?_ | (refine H.st ?_; (conv => whnf); clear H; intro w H) | refine condT fun _ => ?_ | refine condF fun _ => ?_ | refine condNT fun _ => ?_ | refine condNF fun _ => ?_ | refine H.da (hc1 _ _ (by rfl)) ?_ | refine H.datw hc1 (by rfl) ?_ | refine H.datl hc1 (by rfl) ?_ | refine H.lw ?_ | refine H.ll ?_)); (conv => whnf))
    refine Rel.appB H (i := 1) rfl (by (try simp only [List.length_append]); omega) ?_
    clear H
    intro r w H
    ((repeat ((conv => whnf); first | refine an ?_ | ((first | refine H.nwD ?_ | refine H.nw ?_); clear H; intro w _ H) | refine H.ce ?_ | refine H.db ?_ | refine ea ?_ | (refine H.st ?_; (conv => whnf); clear H; intro w H) | refine condT fun _ => ?_ | refine condF fun _ => ?_ | refine condNT fun _ => ?_ | refine condNF fun _ => ?_ | refine H.da (hc1 _ _ (by rfl)) ?_ | refine H.datw hc1 (by rfl) ?_ | refine H.datl hc1 (by rfl) ?_ | refine H.lw ?_ | refine H.ll ?_)); (conv => whnf))
    refine ⟨(by repeat (first | exact trivial | refine ⟨rfl, ?_⟩)), (j + 1, r), (by repeat (first | exact trivial | refine ⟨rfl, ?_⟩)), ⟨by omega, by dsimp only; rw [hn3]; simp only [List.length_append]; omega, ?_⟩, by dsimp only; omega⟩
    dsimp only
    rw [hn3]
    simp only [List.append_assoc] at H ⊢
    exact H
  clear H
  intro r w H
  have w1 := flat_len_le z13
  ((repeat ((conv => whnf); first | refine an ?_ | ((first | refine H.nwD ?_ | refine H.nw ?_); clear H; intro w _ H) | refine H.ce ?_ | refine H.db ?_ | refine ea ?_ | (refine H.st ?_; (conv => whnf); clear H; intro w H) | refine condT fun _ => ?_ | refine condF fun _ => ?_ | refine condNT fun _ => ?_ | refine condNF fun _ => ?_ | refine H.da (hc1 _ _ (by rfl)) ?_ | refine H.datw hc1 (by rfl) ?_ | refine H.datl hc1 (by rfl) ?_ | refine H.lw ?_ | refine H.ll ?_)); (conv => whnf))
  rw [g2]
  refine (put_ref (n := e.groups.length) H.data (by first | exact hN.ver | constructor <;> omega)).use ?_
  rintro v w ⟨r1, rfl, K⟩
  (have hKb := K.base; replace H := Rel.call H K)
  simp only [List.cons_append, List.nil_append] at H
  ((repeat ((conv => whnf); first | refine an ?_ | ((first | refine H.nwD ?_ | refine H.nw ?_); clear H; intro w _ H) | refine H.ce ?_ | refine H.db ?_ | refine ea ?_ | (refine H.st ?_; (conv => whnf); clear H; intro w H) | refine condT fun _ => ?_ | refine condF fun _ => ?_ | refine condNT fun _ => ?_ | refine condNF fun _ => ?_ | refine H.da (hc1 _ _ (by rfl)) ?_ | refine H.datw hc1 (by rfl) ?_ | refine H.datl hc1 (by rfl) ?_ | refine H.lw ?_ | refine H.ll ?_)); (conv => whnf))
  refine Rel.appB H (i := 1) rfl (by (try simp only [List.length_append]); omega) ?_
  clear H
  intro r w H
  ((repeat ((conv => whnf); first | refine an ?_ | ((first | refine H.nwD ?_ | refine H.nw ?_); clear H; intro w _ H) | refine H.ce ?_ | refine H.db ?_ | refine ea ?_ | (refine H.st ?_; (conv => whnf); clear H; intro w H) | refine condT fun _ => ?_ | refine condF fun _ => ?_ | refine condNT fun _ => ?_ | refine condNF fun _ => ?_ | refine H.da (hc1 _ _ (by rfl)) ?_ | refine H.datw hc1 (by rfl) ?_ | refine H.datl hc1 (by rfl) ?_ | refine H.lw ?_ | refine H.ll ?_)); (conv => whnf))
  refine SemC.cut 4 (fun r : Sl => [(0, catV s), (2, .slice none 0 0), (1, .pointer (some ⟨b1, 0, none⟩)), (3, r.v), (4, iv k), (5, .pointer (some ⟨b5, 0, none⟩))]) (fun r w' => Rel W V [.blk b5 (entC e eh) 61, .row r 5 1 ((bytB o e ++ e.groups.flatMap putC).flatMap byC), .blk b1 [s.v] 24] V w') ?_ ?_
  · refine loop_inv (S := Nat × Sl) tabOk [0, 1, 2, 4, 5, 6, 8, 17, 65, 147] (fun q => [(3, q.2.v), (7, iv q.1)]) (fun q w' => q.1 ≤ e.groups.length ∧ ((e.groups.take q.1).flatMap putC).length ≤ q.1 * 1010 ∧ Rel W V [.blk b5 (entC e eh) 61, .row q.2 5 1 ((bytB o e ++ (e.groups.take q.1).flatMap putC).flatMap byC), .blk b1 [s.v] 24] V w') (fun q _ => e.groups.length - q.1) (0, r) ?_
    (conv => whnf)
    refine ⟨(by repeat (first | exact trivial | refine ⟨rfl, ?_⟩)), ⟨by omega, by simp, by simp only [List.take_zero, List.flatMap_nil, List.append_nil]; exact H⟩, ?_⟩
    clear H
    rintro ⟨j, r⟩ w ⟨hj, hjl, H⟩
    dsimp only at hj hjl H
    by_cases hjt : j < e.groups.length
    rotate_left
    · ((repeat ((conv => whnf); first | refine an ?_ | ((first | refine H.nwD ?_ | refine H.nw ?_); clear H; intro w _ H) | refine H.ce ?_ | refine H.db ?_ | refine ea ?_ | (refine H.st ?_; (conv => whnf); clear H; intro w H) | refine condT fun _ => ?_ | refine condF fun _ => ?_ | refine condNT fun _ => ?_ | refine condNF fun _ => ?_ | refine H.da (hc1 _ _ (by rfl)) ?_ | refine H.datw hc1 (by rfl) ?_ | refine H.datl hc1 (by rfl) ?_ | refine H.lw ?_ | refine H.ll ?_)); (conv => whnf))
      rw [List.take_of_length_le (by omega)] at H
      exact ⟨r, (by repeat (first | exact trivial | refine ⟨rfl, ?_⟩)), H⟩
    obtain ⟨hp1, hq1⟩ := hok.gr.get1 (g := str) (fun _ => rfl) hjt
    have m1 := z14 _ (List.getElem_mem hjt)
    have m2 := hT.gn _ (List.getElem_mem hjt)
    have hn3 : (e.groups.take (j + 1)).flatMap putC = (e.groups.take j).flatMap putC ++ putC e.groups[j] := by
      rw [List.take_succ_eq_append_getElem hjt]
      simp only [List.flatMap_append, List.flatMap_cons, List.flatMap_nil, List.append_nil]
    ((repeat ((conv => whnf); first | refine an ?_ | ((first | refine H.nwD ?_ | refine H.nw ?_); clear H; intro w _ H) | refine H.ce ?_ | refine H.db ?_ | refine ea ?_ | (refine H.st ?_; (conv => whnf); clear H; intro w H) | refine condT fun _ => ?_ | refine condF fun _ => ?_ | refine condNT fun _ => ?_ | refine condNF fun _ => ?_ | refine H.da (hc1 _ _ (by rfl)) ?_ | refine H.datw hc1 (by rfl) ?_ | refine H.datl hc1 (by rfl) ?_ | refine H.lw ?_ | refine H.ll ?_)); (conv => whnf))
    refine Rel.convSB Tryz.underlying9 Tryz.underlying26 Tryz.underlying5 H e.groups[j] ?_
    clear H
    intro V1 s1 w he hV1 hs1 H
    ((repeat ((conv => whnf); first | refine an ?_ | ((first | refine H.nwD ?_ | refine H.nw ?_); clear H; intro w _ H) | refine H.ce ?_ | refine H.db ?_ | refine ea ?_ | (refine H.st ?_; (conv => whnf); clear H; intro w H) | refine condT fun _ => ?_ | refine condF fun _ => ?_ | refine condNT fun _ => ?_ | refine condNF fun _ => ?_ | refine H.da (hc1 _ _ (by rfl)) ?_ | refine H.datw hc1 (by rfl) ?_ | refine H.datl hc1 (by rfl) ?_ | refine H.lw ?_ | refine H.ll ?_)); (conv => whnf))
    refine (putChunk_ref H.data hs1 (by omega)).use ?_
    rintro v w ⟨r1, rfl, K⟩
    (have hKb := K.base; replace H := Rel.call H K)
    simp only [List.cons_append, List.nil_append] at H
    replace H := H.back
    ((repeat ((conv => whnf); first | refine an ?_ | ((first | refine H.nwD ?_ | refine H.nw ?_); clear H; intro w _ H) | refine H.ce ?_ | refine H.db ?_ | refine ea ?_ | (refine H.st ?_; (conv => whnf); clear H; intro w H) | refine condT fun _ => ?_ | refine condF fun _ => ?_ | refine condNT fun _ => ?_ | refine condNF fun _ => ?_ | refine H.da (hc1 _ _ (by rfl)) ?_ | refine H.datw hc1 (by rfl) ?_ | refine H.datl hc1 (by rfl) ?_ | refine H.lw ?_ | refine H.ll ?_)); (conv => whnf))
    refine Rel.appB H (i := 1) rfl (by (try simp only [List.length_append]); omega) ?_
    clear H
    intro r w H
    ((repeat ((conv => whnf); first | refine an ?_ | ((first | refine H.nwD ?_ | refine H.nw ?_); clear H; intro w _ H) | refine H.ce ?_ | refine H.db ?_ | refine ea ?_ | (refine H.st ?_; (conv => whnf); clear H; intro w H) | refine condT fun _ => ?_ | refine condF fun _ => ?_ | refine condNT fun _ => ?_ | refine condNF fun _ => ?_ | refine H.da (hc1 _ _ (by rfl)) ?_ | refine H.datw hc1 (by rfl) ?_ | refine H.datl hc1 (by rfl) ?_ | refine H.lw ?_ | refine H.ll ?_)); (conv => whnf))
    refine ⟨(by repeat (first | exact trivial | refine ⟨rfl, ?_⟩)), (j + 1, r), (by repeat (first | exact trivial | refine ⟨rfl, ?_⟩)), ⟨by omega, by dsimp only; rw [hn3]; simp only [List.length_append]; omega, ?_⟩, by dsimp only; omega⟩
    dsimp only
    rw [hn3]
    simp only [List.append_assoc] at H ⊢
    exact H
  clear H
  intro r w H
  have w2 := flat_len_le z14
  ((repeat ((conv => whnf); first | refine an ?_ | ((first | refine H.nwD ?_ | refine H.nw ?_); clear H; intro w _ H) | refine H.ce ?_ | refine H.db ?_ | refine ea ?_ | (refine H.st ?_; (conv => whnf); clear H; intro w H) | refine condT fun _ => ?_ | refine condF fun _ => ?_ | refine condNT fun _ => ?_ | refine condNF fun _ => ?_ | refine H.da (hc1 _ _ (by rfl)) ?_ | refine H.datw hc1 (by rfl) ?_ | refine H.datl hc1 (by rfl) ?_ | refine H.lw ?_ | refine H.ll ?_)); (conv => whnf))
  refine (put_ref (n := e.emb) H.data (by first | exact hN.emb | constructor <;> omega)).use ?_
  rintro v w ⟨r1, rfl, K⟩
  (have hKb := K.base; replace H := Rel.call H K)
  simp only [List.cons_append, List.nil_append] at H
  ((repeat ((conv => whnf); first | refine an ?_ | ((first | refine H.nwD ?_ | refine H.nw ?_); clear H; intro w _ H) | refine H.ce ?_ | refine H.db ?_ | refine ea ?_ | (refine H.st ?_; (conv => whnf); clear H; intro w H) | refine condT fun _ => ?_ | refine condF fun _ => ?_ | refine condNT fun _ => ?_ | refine condNF fun _ => ?_ | refine H.da (hc1 _ _ (by rfl)) ?_ | refine H.datw hc1 (by rfl) ?_ | refine H.datl hc1 (by rfl) ?_ | refine H.lw ?_ | refine H.ll ?_)); (conv => whnf))
  refine Rel.appB H (i := 1) rfl (by (try simp only [List.length_append]); omega) ?_
  clear H
  intro r w H
  ((repeat ((conv => whnf); first | refine an ?_ | ((first | refine H.nwD ?_ | refine H.nw ?_); clear H; intro w _ H) | refine H.ce ?_ | refine H.db ?_ | refine ea ?_ | (refine H.st ?_; (conv => whnf); clear H; intro w H) | refine condT fun _ => ?_ | refine condF fun _ => ?_ | refine condNT fun _ => ?_ | refine condNF fun _ => ?_ | refine H.da (hc1 _ _ (by rfl)) ?_ | refine H.datw hc1 (by rfl) ?_ | refine H.datl hc1 (by rfl) ?_ | refine H.lw ?_ | refine H.ll ?_)); (conv => whnf))
  refine (put_ref (n := e.need) H.data (by first | exact hN.need | constructor <;> omega)).use ?_
  rintro v w ⟨r1, rfl, K⟩
  (have hKb := K.base; replace H := Rel.call H K)
  simp only [List.cons_append, List.nil_append] at H
  ((repeat ((conv => whnf); first | refine an ?_ | ((first | refine H.nwD ?_ | refine H.nw ?_); clear H; intro w _ H) | refine H.ce ?_ | refine H.db ?_ | refine ea ?_ | (refine H.st ?_; (conv => whnf); clear H; intro w H) | refine condT fun _ => ?_ | refine condF fun _ => ?_ | refine condNT fun _ => ?_ | refine condNF fun _ => ?_ | refine H.da (hc1 _ _ (by rfl)) ?_ | refine H.datw hc1 (by rfl) ?_ | refine H.datl hc1 (by rfl) ?_ | refine H.lw ?_ | refine H.ll ?_)); (conv => whnf))
  refine Rel.appB H (i := 1) rfl (by (try simp only [List.length_append]); omega) ?_
  clear H
  intro r w H
  ((repeat ((conv => whnf); first | refine an ?_ | ((first | refine H.nwD ?_ | refine H.nw ?_); clear H; intro w _ H) | refine H.ce ?_ | refine H.db ?_ | refine ea ?_ | (refine H.st ?_; (conv => whnf); clear H; intro w H) | refine condT fun _ => ?_ | refine condF fun _ => ?_ | refine condNT fun _ => ?_ | refine condNF fun _ => ?_ | refine H.da (hc1 _ _ (by rfl)) ?_ | refine H.datw hc1 (by rfl) ?_ | refine H.datl hc1 (by rfl) ?_ | refine H.lw ?_ | refine H.ll ?_)); (conv => whnf))
  refine (put_ref (n := e.keep) H.data (by first | exact hN.keep | constructor <;> omega)).use ?_
  rintro v w ⟨r1, rfl, K⟩
  (have hKb := K.base; replace H := Rel.call H K)
  simp only [List.cons_append, List.nil_append] at H
  ((repeat ((conv => whnf); first | refine an ?_ | ((first | refine H.nwD ?_ | refine H.nw ?_); clear H; intro w _ H) | refine H.ce ?_ | refine H.db ?_ | refine ea ?_ | (refine H.st ?_; (conv => whnf); clear H; intro w H) | refine condT fun _ => ?_ | refine condF fun _ => ?_ | refine condNT fun _ => ?_ | refine condNF fun _ => ?_ | refine H.da (hc1 _ _ (by rfl)) ?_ | refine H.datw hc1 (by rfl) ?_ | refine H.datl hc1 (by rfl) ?_ | refine H.lw ?_ | refine H.ll ?_)); (conv => whnf))
  refine Rel.appB H (i := 1) rfl (by (try simp only [List.length_append]); omega) ?_
  clear H
  intro r w H
  ((repeat ((conv => whnf); first | refine an ?_ | ((first | refine H.nwD ?_ | refine H.nw ?_); clear H; intro w _ H) | refine H.ce ?_ | refine H.db ?_ | refine ea ?_ | (refine H.st ?_; (conv => whnf); clear H; intro w H) | refine condT fun _ => ?_ | refine condF fun _ => ?_ | refine condNT fun _ => ?_ | refine condNF fun _ => ?_ | refine H.da (hc1 _ _ (by rfl)) ?_ | refine H.datw hc1 (by rfl) ?_ | refine H.datl hc1 (by rfl) ?_ | refine H.lw ?_ | refine H.ll ?_)); (conv => whnf))
  refine (put_ref (n := e.csize) H.data (by first | exact hN.csize | constructor <;> omega)).use ?_
  rintro v w ⟨r1, rfl, K⟩
  (have hKb := K.base; replace H := Rel.call H K)
  simp only [List.cons_append, List.nil_append] at H
  ((repeat ((conv => whnf); first | refine an ?_ | ((first | refine H.nwD ?_ | refine H.nw ?_); clear H; intro w _ H) | refine H.ce ?_ | refine H.db ?_ | refine ea ?_ | (refine H.st ?_; (conv => whnf); clear H; intro w H) | refine condT fun _ => ?_ | refine condF fun _ => ?_ | refine condNT fun _ => ?_ | refine condNF fun _ => ?_ | refine H.da (hc1 _ _ (by rfl)) ?_ | refine H.datw hc1 (by rfl) ?_ | refine H.datl hc1 (by rfl) ?_ | refine H.lw ?_ | refine H.ll ?_)); (conv => whnf))
  refine Rel.appB H (i := 1) rfl (by (try simp only [List.length_append]); omega) ?_
  clear H
  intro r w H
  ((repeat ((conv => whnf); first | refine an ?_ | ((first | refine H.nwD ?_ | refine H.nw ?_); clear H; intro w _ H) | refine H.ce ?_ | refine H.db ?_ | refine ea ?_ | (refine H.st ?_; (conv => whnf); clear H; intro w H) | refine condT fun _ => ?_ | refine condF fun _ => ?_ | refine condNT fun _ => ?_ | refine condNF fun _ => ?_ | refine H.da (hc1 _ _ (by rfl)) ?_ | refine H.datw hc1 (by rfl) ?_ | refine H.datl hc1 (by rfl) ?_ | refine H.lw ?_ | refine H.ll ?_)); (conv => whnf))
  have hx : Cells w (some ⟨b5, 43, none⟩) ((digL e.csum).map bv) := Rel.partAt H (i := 0) (n := 32) rfl rfl
  refine Rel.appC (x := ⟨some ⟨b5, 43, none⟩, 32, 32⟩) (ys := digL e.csum) H (i := 1) rfl hx rfl (by (try simp only [List.length_append]); omega) ?_
  clear H
  intro r w H
  ((repeat ((conv => whnf); first | refine an ?_ | ((first | refine H.nwD ?_ | refine H.nw ?_); clear H; intro w _ H) | refine H.ce ?_ | refine H.db ?_ | refine ea ?_ | (refine H.st ?_; (conv => whnf); clear H; intro w H) | refine condT fun _ => ?_ | refine condF fun _ => ?_ | refine condNT fun _ => ?_ | refine condNF fun _ => ?_ | refine H.da (hc1 _ _ (by rfl)) ?_ | refine H.datw hc1 (by rfl) ?_ | refine H.datl hc1 (by rfl) ?_ | refine H.lw ?_ | refine H.ll ?_)); (conv => whnf))
  rw [g3]
  refine (put_ref (n := e.pieces.length) H.data (by first | exact hN.ver | constructor <;> omega)).use ?_
  rintro v w ⟨r1, rfl, K⟩
  (have hKb := K.base; replace H := Rel.call H K)
  simp only [List.cons_append, List.nil_append] at H
  ((repeat ((conv => whnf); first | refine an ?_ | ((first | refine H.nwD ?_ | refine H.nw ?_); clear H; intro w _ H) | refine H.ce ?_ | refine H.db ?_ | refine ea ?_ | (refine H.st ?_; (conv => whnf); clear H; intro w H) | refine condT fun _ => ?_ | refine condF fun _ => ?_ | refine condNT fun _ => ?_ | refine condNF fun _ => ?_ | refine H.da (hc1 _ _ (by rfl)) ?_ | refine H.datw hc1 (by rfl) ?_ | refine H.datl hc1 (by rfl) ?_ | refine H.lw ?_ | refine H.ll ?_)); (conv => whnf))
  refine Rel.appB H (i := 1) rfl (by (try simp only [List.length_append]); omega) ?_
  clear H
  intro r w H
  ((repeat ((conv => whnf); first | refine an ?_ | ((first | refine H.nwD ?_ | refine H.nw ?_); clear H; intro w _ H) | refine H.ce ?_ | refine H.db ?_ | refine ea ?_ | (refine H.st ?_; (conv => whnf); clear H; intro w H) | refine condT fun _ => ?_ | refine condF fun _ => ?_ | refine condNT fun _ => ?_ | refine condNF fun _ => ?_ | refine H.da (hc1 _ _ (by rfl)) ?_ | refine H.datw hc1 (by rfl) ?_ | refine H.datl hc1 (by rfl) ?_ | refine H.lw ?_ | refine H.ll ?_)); (conv => whnf))
  refine SemC.cut 6 (fun r : Sl => [(0, catV s), (2, .slice none 0 0), (1, .pointer (some ⟨b1, 0, none⟩)), (3, r.v), (4, iv k), (5, .pointer (some ⟨b5, 0, none⟩))]) (fun r w' => Rel W V [.blk b5 (entC e eh) 61, .row r 5 1 ((bytC' o e ++ e.pieces.flatMap digL).flatMap byC), .blk b1 [s.v] 24] V w') ?_ ?_
  · refine loop_inv (S := Nat × Sl) tabOk [0, 1, 2, 4, 5, 6, 7, 17, 65, 97] (fun q => [(3, q.2.v), (8, iv q.1)]) (fun q w' => q.1 ≤ e.pieces.length ∧ ((e.pieces.take q.1).flatMap digL).length ≤ q.1 * 32 ∧ Rel W V [.blk b5 (entC e eh) 61, .row q.2 5 1 ((bytC' o e ++ (e.pieces.take q.1).flatMap digL).flatMap byC), .blk b1 [s.v] 24] V w') (fun q _ => e.pieces.length - q.1) (0, r) ?_
    (conv => whnf)
    refine ⟨(by repeat (first | exact trivial | refine ⟨rfl, ?_⟩)), ⟨by omega, by simp, by simp only [List.take_zero, List.flatMap_nil, List.append_nil]; exact H⟩, ?_⟩
    clear H
    rintro ⟨j, r⟩ w ⟨hj, hjl, H⟩
    dsimp only at hj hjl H
    by_cases hjt : j < e.pieces.length
    rotate_left
    · ((repeat ((conv => whnf); first | refine an ?_ | ((first | refine H.nwD ?_ | refine H.nw ?_); clear H; intro w _ H) | refine H.ce ?_ | refine H.db ?_ | refine ea ?_ | (refine H.st ?_; (conv => whnf); clear H; intro w H) | refine condT fun _ => ?_ | refine condF fun _ => ?_ | refine condNT fun _ => ?_ | refine condNF fun _ => ?_ | refine H.da (hc1 _ _ (by rfl)) ?_ | refine H.datw hc1 (by rfl) ?_ | refine H.datl hc1 (by rfl) ?_ | refine H.lw ?_ | refine H.ll ?_)); (conv => whnf))
      rw [List.take_of_length_le (by omega)] at H
      exact ⟨r, (by repeat (first | exact trivial | refine ⟨rfl, ?_⟩)), H⟩
    obtain ⟨hp1, hq1⟩ := hok.pi.get (n := 32) (fun _ => rfl) (by omega) hjt
    have hn3 : (e.pieces.take (j + 1)).flatMap digL = (e.pieces.take j).flatMap digL ++ digL e.pieces[j] := by
      rw [List.take_succ_eq_append_getElem hjt]
      simp only [List.flatMap_append, List.flatMap_cons, List.flatMap_nil, List.append_nil]
    have d3 := digL_len e.pieces[j]
    ((repeat ((conv => whnf); first | refine an ?_ | ((first | refine H.nwD ?_ | refine H.nw ?_); clear H; intro w _ H) | refine H.ce ?_ | refine H.db ?_ | refine ea ?_ | (refine H.st ?_; (conv => whnf); clear H; intro w H) | refine condT fun _ => ?_ | refine condF fun _ => ?_ | refine condNT fun _ => ?_ | refine condNF fun _ => ?_ | refine H.da (hc1 _ _ (by rfl)) ?_ | refine H.datw hc1 (by rfl) ?_ | refine H.datl hc1 (by rfl) ?_ | refine H.lw ?_ | refine H.ll ?_)); (conv => whnf))
    have hxb : Byt V ⟨some ⟨ablk eh.pi.a, aoff eh.pi.a + j * 32, none⟩, 32, 32⟩ (digL e.pieces[j]) := ⟨by rw [digL_len], Nat.le_refl _, fun _ => rfl, fun i v hi => hq1 i v (by rw [byC_map] at hi; exact hi)⟩
    refine Rel.appD (x := ⟨some ⟨ablk eh.pi.a, aoff eh.pi.a + j * 32, none⟩, 32, 32⟩) (ys := digL e.pieces[j]) H (i := 1) rfl hxb (by (try simp only [List.length_append]); omega) ?_
    clear H
    intro r w H
    ((repeat ((conv => whnf); first | refine an ?_ | ((first | refine H.nwD ?_ | refine H.nw ?_); clear H; intro w _ H) | refine H.ce ?_ | refine H.db ?_ | refine ea ?_ | (refine H.st ?_; (conv => whnf); clear H; intro w H) | refine condT fun _ => ?_ | refine condF fun _ => ?_ | refine condNT fun _ => ?_ | refine condNF fun _ => ?_ | refine H.da (hc1 _ _ (by rfl)) ?_ | refine H.datw hc1 (by rfl) ?_ | refine H.datl hc1 (by rfl) ?_ | refine H.lw ?_ | refine H.ll ?_)); (conv => whnf))
    refine ⟨(by repeat (first | exact trivial | refine ⟨rfl, ?_⟩)), (j + 1, r), (by repeat (first | exact trivial | refine ⟨rfl, ?_⟩)), ⟨by omega, by dsimp only; rw [hn3]; simp only [List.length_append]; omega, ?_⟩, by dsimp only; omega⟩
    dsimp only
    rw [hn3]
    simp only [List.append_assoc] at H ⊢
    exact H
  clear H
  intro r w H
  have w3 := flat_digs e.pieces
  ((repeat ((conv => whnf); first | refine an ?_ | ((first | refine H.nwD ?_ | refine H.nw ?_); clear H; intro w _ H) | refine H.ce ?_ | refine H.db ?_ | refine ea ?_ | (refine H.st ?_; (conv => whnf); clear H; intro w H) | refine condT fun _ => ?_ | refine condF fun _ => ?_ | refine condNT fun _ => ?_ | refine condNF fun _ => ?_ | refine H.da (hc1 _ _ (by rfl)) ?_ | refine H.datw hc1 (by rfl) ?_ | refine H.datl hc1 (by rfl) ?_ | refine H.lw ?_ | refine H.ll ?_)); (conv => whnf))
  refine ⟨(by repeat (first | exact trivial | refine ⟨rfl, ?_⟩)), (k + 1, r), (by repeat (first | exact trivial | refine ⟨rfl, ?_⟩)), ⟨by omega, ?_, ?_⟩, by dsimp only; omega⟩
  · dsimp only
    rw [hn1]
    simp only [List.length_append, putE, putL]
    omega
  · dsimp only
    rw [hn2, ← byt_putE]
    exact H.sx
end Go.Proofs.YtlhgmigoncmcaaaGreat
