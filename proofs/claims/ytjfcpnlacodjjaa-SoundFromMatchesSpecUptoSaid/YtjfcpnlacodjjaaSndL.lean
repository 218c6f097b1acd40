/-
  Sound files: write.
-/
import Derived.Test.YtjfcpnlacodjjaaSndK
namespace Go.Proofs.Ytjfcpnlacodjjaa
open Go Go.RowKit

abbrev magicB : List UInt8 := [83, 78, 68, 49]
theorem Pw.drop {α β : Type} {R : World → β → α → Prop} {V : World} {x : β} {y : α} {xs : List β} {ys : List α} (h : Pw R V (x :: xs) (y :: ys)) : R V x y ∧ Pw R V xs ys :=
  ⟨h.all 0 x y rfl rfl, by have := h.len; simpa using this, fun k a b h1 h2 => h.all (k + 1) a b (by simpa using h1) (by simpa using h2)⟩
theorem Pw.cons_inv {α β : Type} {R : World → β → α → Prop} {V : World} {y : α} {xs : List β} {ys : List α} (h : Pw R V xs (y :: ys)) : ∃ x t, xs = x :: t ∧ R V x y ∧ Pw R V t ys := by
  cases xs with
  | nil => have := h.len; simp at this
  | cons x t => exact ⟨x, t, rfl, h.drop.1, h.drop.2⟩
theorem SlF.tail {α : Type} {f : α → List Value} {n : Nat} {V : World} {s : Sl} {x : α} {l : List α} (h : SlF f V s (x :: l)) (hf : ∀ x, (f x).length = n) : SlF f V ⟨subA s.a 1 s.cap n, s.len - 1, s.cap - 1⟩ l := by
  have hl := h.len
  have := h.sub hf (a := 1) (b := s.len) (by simp at hl; omega) (by omega)
  rw [hl, List.take_of_length_le (by simp), List.drop_one, List.tail_cons] at this
  rw [← hl] at this
  exact this
theorem putChk_cells (c : UInt8) (n : Nat) (hl : n ≤ 65535) : [bv c, Value.int .u8 (wr .u8 ((n : Int) / 2 ^ min (Int.toNat 8) IntKind.i64.bits)), Value.int .u8 (wr .u8 (n : Int))] = [c, UInt8.ofNat (n / 256), UInt8.ofNat (n % 256)].flatMap byC := by
  have e0 : (2 : Int) ^ min (Int.toNat 8) IntKind.i64.bits = 256 := by decide
  have e1 : wr .u8 ((n : Int) / 256) = ((n / 256 : Nat) : Int) := by show ((n : Int) / 256) % 256 = _; omega
  have e2 : wr .u8 (n : Int) = ((n % 256 : Nat) : Int) := by show (n : Int) % 256 = _; omega
  simp only [e0, e1, e2, List.flatMap_cons, List.flatMap_nil, byC, bv, List.cons_append, List.nil_append]
  rw [toNat_ofNat_lt (by omega), toNat_ofNat_lt (by omega)]
theorem putChk_next {cs : List Chk} {i : Nat} {c : Chk} (h : cs[i]? = some c) : magicB ++ (cs.take (i + 1)).flatMap putChk = (magicB ++ (cs.take i).flatMap putChk ++ [c.1, UInt8.ofNat (c.2.length / 256), UInt8.ofNat (c.2.length % 256)]) ++ c.2 := by
  obtain ⟨h1, h2⟩ := List.getElem?_eq_some_iff.1 h
  rw [List.take_succ_eq_append_getElem h1, h2]
  simp [putChk]
theorem flat_putChk_le {l : List Chk} (h : ∀ c ∈ l, c.2.length ≤ 1000) : (l.flatMap putChk).length ≤ l.length * 1003 := by
  induction l with
  | nil => simp
  | cons c l ih =>
    have h1 := h c (by simp)
    have h2 := ih fun x hx => h x (by simp [hx])
    simp only [List.flatMap_cons, List.length_append, putChk_len, List.length_cons]
    omega
def bigChk (cs : List Chk) : Prop := ∃ c ∈ cs, 1000 < c.2.length
instance (cs : List Chk) : Decidable (bigChk cs) := by unfold bigChk; infer_instance
/-- what write returns -/
structure WrR (W V : World) (rate ch coding : Nat) (l : List Int) (ns : List Note) (q : Value) (w' : World) : Prop where
  ex : ∃ (V' : World) (r : Sl), Sub V V' ∧ Rel W V [] V' w' ∧ ((bigChk (weave (ns.length + 2) 0 ns (sndOwn rate ch coding l)) ∧ q = .tuple #[.slice none 0 0, .bool false]) ∨
    (¬ bigChk (weave (ns.length + 2) 0 ns (sndOwn rate ch coding l)) ∧ q = .tuple #[r.v, .bool true] ∧ Byt V' r (sndWrite rate ch coding l ns)))
structure WSt where
  i : Nat
  t8 : Sl
  ps : List NtP
  nr : List Note
  t6 : Sl
  hs : List ChkH
  o : List Chk
structure WInv (V : World) (cs : List Chk) (N : Nat) (k : WSt) : Prop where
  le : k.i ≤ N
  ws : WS (N - k.i) k.i k.nr k.o
  wv : weave (N - k.i) k.i k.nr k.o = cs.drop k.i
  n1 : SlF ntC V k.t8 k.ps
  n2 : Pw NtR V k.ps k.nr
  o1 : SlF chkC V k.t6 k.hs
  o2 : Pw ChkAt V k.hs k.o
  ok : ∀ c ∈ cs.take k.i, c.2.length ≤ 1000
theorem take_ok {cs : List Chk} {i : Nat} {c : Chk} (h : ∀ c ∈ cs.take i, c.2.length ≤ 1000) (hc : cs[i]? = some c) (hl : c.2.length ≤ 1000) : ∀ c ∈ cs.take (i + 1), c.2.length ≤ 1000 := by
  obtain ⟨h1, h2⟩ := List.getElem?_eq_some_iff.1 hc
  intro d hd
  rw [List.take_succ_eq_append_getElem h1] at hd
  rcases List.mem_append.1 hd with hd | hd
  · exact h d hd
  · rw [List.mem_singleton.1 hd, h2]; exact hl
theorem WInv.step {V : World} {cs : List Chk} {N : Nat} {k : WSt} (h : WInv V cs N k) (hN : cs.length = N) (hlt : k.i < N) :
    (∃ p pt m r, k.ps = p :: pt ∧ k.nr = m :: r ∧ p.1 = m ∧ Byt V p.2 m.2.2 ∧ m.1 = (k.i : Int) ∧ cs[k.i]? = some m.2 ∧ (m.2.2.length ≤ 1000 → WInv V cs N ⟨k.i + 1, ⟨subA k.t8.a 1 k.t8.cap 3, k.t8.len - 1, k.t8.cap - 1⟩, pt, r, k.t6, k.hs, k.o⟩)) ∨
    (∃ x xt c r, k.hs = x :: xt ∧ k.o = c :: r ∧ ChkAt V x c ∧ (∀ m t, k.nr = m :: t → m.1 ≠ (k.i : Int)) ∧ cs[k.i]? = some c ∧ (c.2.length ≤ 1000 → WInv V cs N ⟨k.i + 1, k.t8, k.ps, k.nr, ⟨subA k.t6.a 1 k.t6.cap 2, k.t6.len - 1, k.t6.cap - 1⟩, xt, r⟩)) := by
  obtain ⟨n, hn⟩ : ∃ n, N - k.i = n + 1 := ⟨N - k.i - 1, by omega⟩
  have hn' : N - (k.i + 1) = n := by omega
  have hws := h.ws
  have hwv := h.wv
  rw [hn] at hws hwv
  have hat : ∀ (c : Chk) (t : List Chk), c :: t = cs.drop k.i → cs[k.i]? = some c ∧ t = cs.drop (k.i + 1) := by
    intro c t e
    rw [List.drop_eq_getElem_cons (by omega)] at e
    injection e with e1 e2
    exact ⟨by rw [List.getElem?_eq_getElem (by omega), e1], e2⟩
  rcases weave_step hws with ⟨m, r, e1, e2, e3, e4⟩ | ⟨c, r, e1, e2, e3, e4⟩
  · left
    have n2 := h.n2
    rw [e1] at n2
    obtain ⟨p, pt, f1, f2, f3⟩ := n2.cons_inv
    rw [e3] at hwv
    obtain ⟨g1, g2⟩ := hat _ _ hwv
    have n1 := h.n1
    rw [f1] at n1
    refine ⟨p, pt, m, r, f1, e1, f2.1, by rw [← f2.1]; exact f2.2, e2, g1, fun hl => ⟨by dsimp only; omega, by dsimp only; rw [hn']; exact e4, by dsimp only; rw [hn']; exact g2, n1.tail (fun _ => rfl), f3, h.o1, h.o2, take_ok h.ok g1 hl⟩⟩
  · right
    have o2 := h.o2
    rw [e1] at o2
    obtain ⟨x, xt, f1, f2, f3⟩ := o2.cons_inv
    rw [e3] at hwv
    obtain ⟨g1, g2⟩ := hat _ _ hwv
    have o1 := h.o1
    rw [f1] at o1
    refine ⟨x, xt, c, r, f1, e1, f2, e2, g1, fun hl => ⟨by dsimp only; omega, by dsimp only; rw [hn']; exact e4, by dsimp only; rw [hn']; exact g2, h.n1, h.n2, o1.tail (fun _ => rfl), f3, take_ok h.ok g1 hl⟩⟩
abbrev frmW (rate ch coding : Nat) : List Value := [.int .u8 (wr .u8 ((rate : Int) / 2 ^ min (Int.toNat 8) IntKind.i64.bits)), .int .u8 (wr .u8 (rate : Int)), .int .u8 (wr .u8 (ch : Int)), .int .u8 (wr .u8 (coding : Int))]
theorem frm_cells {rate ch coding : Nat} (h1 : rate ≤ 65535) (h2 : ch < 256) (h3 : coding < 256) : frmW rate ch coding = (frmB rate ch coding).flatMap byC := by
  have e0 : (2 : Int) ^ min (Int.toNat 8) IntKind.i64.bits = 256 := by decide
  have e1 : wr .u8 ((rate : Int) / 256) = ((rate / 256 : Nat) : Int) := by show ((rate : Int) / 256) % 256 = _; omega
  have e2 : wr .u8 (rate : Int) = ((rate % 256 : Nat) : Int) := by show (rate : Int) % 256 = _; omega
  have e3 : wr .u8 (ch : Int) = (ch : Int) := by show (ch : Int) % 256 = _; omega
  have e4 : wr .u8 (coding : Int) = (coding : Int) := by show (coding : Int) % 256 = _; omega
  simp only [frmW, frmB, e0, e1, e2, e3, e4, List.flatMap_cons, List.flatMap_nil, byC, bv, List.cons_append, List.nil_append]
  rw [toNat_ofNat_lt (by omega), toNat_ofNat_lt (by omega), toNat_ofNat_lt (by omega), toNat_ofNat_lt (by omega)]
section
variable {V W : World}
set_option maxRecDepth 100000 in
set_option maxHeartbeats 1000000 in
theorem write_spec (hV : Sub V W) {rate ch coding : Nat} {smp : List Int} {ns : List Note} {rs rn : Sl} (hra : rate ≤ 65535) (hc : coding < 4) (hch : 1 ≤ ch ∧ ch ≤ 2) (hs : SlF itC V rs smp) (hl : smp.length ≤ 1000000) (hb : ∀ x ∈ smp, -32768 ≤ x ∧ x ≤ 32767) (hn : Nts V rn ns) (hnl : ns.length ≤ 1000) (hno : notesOk ns.length (-1) ns = true) :
    Ret Try.prog 65 [.agg (filC rate ch coding rs rn).toArray].toArray W (WrR W V rate ch coding smp ns) := by
  have H := Rel.start hV
  refine cal_of_vc tabOk Try.func65 rfl (by kernel_rfl) 93 rfl (by simp) [0, 1, 2, 3, 4, 5, 6, 7, 8, 9, 10, 42, 43, 44, 56, 71] ?_
  ((repeat ((conv => whnf); first | refine an ?_ | refine H.ce ?_ | refine H.db ?_ | refine ea ?_ | refine ol ?_ | (refine H.st ?_; (conv => whnf); clear H; intro w H) | refine cT ?_ | refine cF ?_ | refine cN ?_ | refine cM ?_ | refine H.da (hc2 _ _ (by rfl)) ?_ | refine H.datw hc2 (by rfl) ?_ | refine H.datl hc2 (by rfl) ?_ | refine H.lw ?_ | refine H.ll ?_)); (conv => whnf))
  ((first | refine Rel.nwD H ?_ | refine Rel.nw H ?_); clear H; intro w b1 H)
  ((repeat ((conv => whnf); first | refine an ?_ | refine H.ce ?_ | refine H.db ?_ | refine ea ?_ | refine ol ?_ | (refine H.st ?_; (conv => whnf); clear H; intro w H) | refine cT ?_ | refine cF ?_ | refine cN ?_ | refine cM ?_ | refine H.da (hc2 _ _ (by rfl)) ?_ | refine H.datw hc2 (by rfl) ?_ | refine H.datl hc2 (by rfl) ?_ | refine H.lw ?_ | refine H.ll ?_)); (conv => whnf))
  ((first | refine Rel.nwD H ?_ | refine Rel.nw H ?_); clear H; intro w b4 H)
  ((repeat ((conv => whnf); first | refine an ?_ | ((first | refine H.nwD ?_ | refine H.nw ?_); clear H; intro w _ H) | refine H.ce ?_ | refine H.db ?_ | refine ea ?_ | refine ol ?_ | (refine H.st ?_; (conv => whnf); clear H; intro w H) | refine cT ?_ | refine cF ?_ | refine cN ?_ | refine cM ?_ | refine H.da (hc2 _ _ (by rfl)) ?_ | refine H.datw hc2 (by rfl) ?_ | refine H.datl hc2 (by rfl) ?_ | refine H.lw ?_ | refine H.ll ?_)); (conv => whnf))
  have H0 : Rel W V [.blk b4 (fmtC rate ch coding) 64, .blk b1 (filC rate ch coding rs rn) 67] V w := H
  obtain ⟨V1, hV1, H, hb4⟩ := H0.freezeBlk
  clear H0
  obtain ⟨V2, hV2, H, hb1⟩ := H.freezeBlk
  replace hb4 := hb4.cells.sub' hV2
  have f0 := hb4.2 0 _ rfl
  have f1 := hb4.2 1 _ rfl
  have f2 := hb4.2 2 _ rfl
  have f3 := hb1.cel (i := 3) rfl
  have f4 := hb1.cel (i := 4) rfl
  refine SemC.cutN (fun q : Nat × Nat × Sl => [(1, .pointer (some ⟨b1, 0, none⟩)), (2, .slice none 0 0), (3, .bool false), (6, .slice (some ⟨q.2.1, 0, none⟩) 2 2)])
    (fun q w' => Rel W V [.blk q.2.1 [.int .u8 70, .slice (some ⟨q.1, 0, none⟩) 4 4, .int .u8 68, q.2.2.v] 118, .row q.2.2 5 1 ((sndBytes smp coding ch).flatMap byC), .blk q.1 (frmW rate ch coding) 5] V2 w') ?_ ?_
  · ((first | refine draw_vcTX (id := 3) tabOk mixed (Kv V2) Kv.trans [13, 19, 20] [1, 3, 5, 6, 8, 9, 11, 12, 16, 18] [0, 1, 2, 3, 4, 5, 6, 7, 8, 9, 10, 11, 12, 15, 16, 17, 18, 13, 14, 19, 20, 21, 22] [(13, []), (19, []), (20, [19]), (21, [13, 19, 20])] (by kernel_rfl) ?_ | refine draw_vcTX (id := 11) tabOk mixed (Kv V2) Kv.trans [] [] [0, 1, 2, 3, 4, 5, 6, 7] [(6, [])] (by kernel_rfl) ?_ | refine draw_vcTX (id := 12) tabOk mixed (Kv V2) Kv.trans [] [] [0, 1, 2, 3, 4, 5, 6] [(5, [])] (by kernel_rfl) ?_ | refine draw_vcTX (id := 15) tabOk mixed (Kv V2) Kv.trans [12, 13] [15] [0, 1, 2, 3, 4, 5, 6, 7, 8, 9, 10, 11, 14, 15, 12, 13, 16, 17] [(12, []), (13, [12]), (16, [12, 13])] (by kernel_rfl) ?_); intro w hdw; replace H := Rel.ext H hdw.ext)
    repeat' (((repeat ((conv => whnf); first | refine an ?_ | refine H.ce ?_ | refine H.db ?_ | refine ea ?_ | refine ol ?_ | (refine H.st ?_; (conv => whnf); clear H; intro w H) | refine cT ?_ | refine cF ?_ | refine cN ?_ | refine cM ?_ | refine H.da (hc2 _ _ (by rfl)) ?_ | refine H.datw hc2 (by rfl) ?_ | refine H.datl hc2 (by rfl) ?_ | refine H.lw ?_ | refine H.ll ?_)); (conv => whnf)); first | (first | refine Kv.go H ?_ | refine Kv.go2 H (by assumption) ?_ | (refine And.intro (fun w1 hkp => ?_) ?_; focus ((first | have H := Kv.in H hkp | have H := Kv.in2 H (by assumption) hkp); ((repeat ((conv => whnf); first | refine an ?_ | refine H.ce ?_ | refine H.db ?_ | refine ea ?_ | refine ol ?_ | fail | refine cT ?_ | refine cF ?_ | refine cN ?_ | refine cM ?_ | refine H.da (hc2 _ _ (by rfl)) ?_ | refine H.datw hc2 (by rfl) ?_ | refine H.datl hc2 (by rfl) ?_ | refine H.lw ?_ | refine H.ll ?_)); (conv => whnf)); all_goals (first | exact ⟨rfl, rfl⟩ | exact rfl))) | refine And.intro ?_ ?_ | ((first | refine Rel.nwD H ?_ | refine Rel.nw H ?_); clear H; intro w _ H)) | (refine (encode_spec (rate := rate) H.data hc hch ((hs.up hV1).up hV2) hl hb).use ?_; rintro v w ⟨r, rfl, K⟩; (have hKb := K.base; replace H := Rel.call H K); simp only [List.cons_append, List.nil_append] at H))
    all_goals
      ((repeat ((conv => whnf); first | refine an ?_ | ((first | refine H.nwD ?_ | refine H.nw ?_); clear H; intro w _ H) | refine H.ce ?_ | refine H.db ?_ | refine ea ?_ | refine ol ?_ | (refine H.st ?_; (conv => whnf); clear H; intro w H) | refine cT ?_ | refine cF ?_ | refine cN ?_ | refine cM ?_ | refine H.da (hc2 _ _ (by rfl)) ?_ | refine H.datw hc2 (by rfl) ?_ | refine H.datl hc2 (by rfl) ?_ | refine H.lw ?_ | refine H.ll ?_)); (conv => whnf))
      exact ⟨(_, _, _), (by repeat (first | exact trivial | refine ⟨rfl, ?_⟩)), H.pick⟩
  clear H
  rintro ⟨bf, bc, re⟩ w H
  dsimp only at H
  obtain ⟨V3, hV3, H, hbc⟩ := H.freezeBlk
  obtain ⟨V4, hV4, H, hre⟩ := Rel.freezeF H (fun _ => rfl) (by decide)
  replace H := H.blkEq (frm_cells hra (by omega) (by omega))
  obtain ⟨V5, hV5, H, hbf⟩ := H.freezeBlk
  have hown : SlF chkC V5 ⟨some ⟨bc, 0, none⟩, 2, 2⟩ [(70, ⟨some ⟨bf, 0, none⟩, 4, 4⟩), (68, re)] := ⟨rfl, Nat.le_refl _, (hbc.cells.sub' hV4).sub' hV5⟩
  have hfb : Byt V5 ⟨some ⟨bf, 0, none⟩, 4, 4⟩ (frmB rate ch coding) := ⟨rfl, Nat.le_refl _, hbf.cells⟩
  have hpo : Pw ChkAt V5 [(70, ⟨some ⟨bf, 0, none⟩, 4, 4⟩), (68, re)] (sndOwn rate ch coding smp) := ⟨rfl, fun k x y hx hy => by
    match k, hx, hy with
    | 0, hx, hy => cases hx; cases hy; exact ⟨rfl, hfb⟩
    | 1, hx, hy => cases hx; cases hy; exact ⟨rfl, hre.up hV5⟩
    | k + 2, hx, hy => simp at hx⟩
  ((repeat ((conv => whnf); first | refine an ?_ | refine H.ce ?_ | refine H.db ?_ | refine ea ?_ | refine ol ?_ | (refine H.st ?_; (conv => whnf); clear H; intro w H) | refine cT ?_ | refine cF ?_ | refine cN ?_ | refine cM ?_ | refine H.da (hc2 _ _ (by rfl)) ?_ | refine H.datw hc2 (by rfl) ?_ | refine H.datl hc2 (by rfl) ?_ | refine H.lw ?_ | refine H.ll ?_)); (conv => whnf))
  ((first | refine Rel.nwD H ?_ | refine Rel.nw H ?_); clear H; intro w bm H)
  ((repeat ((conv => whnf); first | refine an ?_ | refine H.ce ?_ | refine H.db ?_ | refine ea ?_ | refine ol ?_ | (refine H.st ?_; (conv => whnf); clear H; intro w H) | refine cT ?_ | refine cF ?_ | refine cN ?_ | refine cM ?_ | refine H.da (hc2 _ _ (by rfl)) ?_ | refine H.datw hc2 (by rfl) ?_ | refine H.datl hc2 (by rfl) ?_ | refine H.lw ?_ | refine H.ll ?_)); (conv => whnf))
  refine Rel.convBB (l := magicB) Try.underlying22 Try.underlying5 H rfl ?_
  clear H
  intro V6 w hV6 hm H
  have hV26 := ((hV3.trans hV4).trans hV5).trans hV6
  replace f3 := hV26.cell f3
  replace f4 := hV26.cell f4
  obtain ⟨ps, hps, hpw⟩ := (((hn.up hV1).up hV2).up hV26)
  replace hown := hown.up hV6
  replace hpo := hpo.up ChkAt.up hV6
  have hplen := hpw.len
  have hrnl := hps.len
  obtain ⟨cs, hcs⟩ : ∃ cs, cs = weave (ns.length + 2) 0 ns (sndOwn rate ch coding smp) := ⟨_, rfl⟩
  have hcl : cs.length = ns.length + 2 := by rw [hcs, weave_len]
  have hwr : sndWrite rate ch coding smp ns = magicB ++ (cs.flatMap putChk ++ [0]) := by rw [hcs]; rfl
  ((repeat ((conv => whnf); first | refine an ?_ | ((first | refine H.nwD ?_ | refine H.nw ?_); clear H; intro w _ H) | refine H.ce ?_ | refine H.db ?_ | refine ea ?_ | refine ol ?_ | (refine H.st ?_; (conv => whnf); clear H; intro w H) | refine cT ?_ | refine cF ?_ | refine cN ?_ | refine cM ?_ | refine H.da (hc2 _ _ (by rfl)) ?_ | refine H.datw hc2 (by rfl) ?_ | refine H.datl hc2 (by rfl) ?_ | refine H.lw ?_ | refine H.ll ?_)); (conv => whnf))
  refine loop_inv (S := WSt × Sl) tabOk [0, 1, 4, 5, 42] (fun k => [(6, k.1.t6.v), (7, k.2.v), (8, k.1.t8.v), (43, iv k.1.i)]) (fun k w' => WInv V6 cs (ns.length + 2) k.1 ∧ ((k.1.i = 0 ∧ k.2 = ⟨some ⟨bm, 0, none⟩, 4, 4⟩ ∧ Rel W V [] V6 w') ∨ (0 < k.1.i ∧ Rel W V [.row k.2 5 1 ((magicB ++ (cs.take k.1.i).flatMap putChk).flatMap byC)] V6 w'))) (fun k _ => ns.length + 2 - k.1.i) (⟨0, rn, ps, ns, ⟨some ⟨bc, 0, none⟩, 2, 2⟩, [(70, ⟨some ⟨bf, 0, none⟩, 4, 4⟩), (68, re)], sndOwn rate ch coding smp⟩, ⟨some ⟨bm, 0, none⟩, 4, 4⟩) ?_
  (conv => whnf)
  refine ⟨(by repeat (first | exact trivial | refine ⟨rfl, ?_⟩)), ⟨⟨by dsimp only; omega, WS.start hno rfl, by rw [hcs]; rfl, hps, hpw, hown, hpo, by simp⟩, .inl ⟨rfl, rfl, H⟩⟩, ?_⟩
  clear H
  rintro ⟨k, out⟩ w ⟨hI, hout⟩
  dsimp only at hI hout ⊢
  have hki := hI.le
  have hsz := flat_putChk_le hI.ok
  have hsz2 : (cs.take k.i).length ≤ 1002 := by rw [List.length_take]; omega
  have hsz3 := Nat.mul_le_mul_right 1003 hsz2
  by_cases hlt : k.i < ns.length + 2
  rotate_left
  · rcases hout with ⟨h0, _⟩ | ⟨_, H⟩
    · omega
    have hnb : ¬ bigChk cs := by
      rintro ⟨c, hc, hc2⟩
      have := hI.ok c (by rw [List.take_of_length_le (by omega)]; exact hc)
      omega
    rw [List.take_of_length_le (by omega)] at H hsz
    ((repeat ((conv => whnf); first | refine an ?_ | ((first | refine H.nwD ?_ | refine H.nw ?_); clear H; intro w _ H) | refine H.ce ?_ | refine H.db ?_ | refine ea ?_ | refine ol ?_ | (refine H.st ?_; (conv => whnf); clear H; intro w H) | refine cT ?_ | refine cF ?_ | refine cN ?_ | refine cM ?_ | refine H.da (hc2 _ _ (by rfl)) ?_ | refine H.datw hc2 (by rfl) ?_ | refine H.datl hc2 (by rfl) ?_ | refine H.lw ?_ | refine H.ll ?_)); (conv => whnf))
    refine Rel.app1_0 (f := byC) (l := magicB ++ cs.flatMap putChk) (x := 0) tabOk rfl rfl rfl rfl rfl (by decide) (fun _ => rfl) (List.all_eq_true.1 rfl) H (by simp only [List.length_append, List.length_cons, List.length_nil]; omega) (by simp only [List.length_append, List.length_cons, List.length_nil]; omega) ?_
    clear H
    intro r w H
    ((repeat ((conv => whnf); first | refine an ?_ | ((first | refine H.nwD ?_ | refine H.nw ?_); clear H; intro w _ H) | refine H.ce ?_ | refine H.db ?_ | refine ea ?_ | refine ol ?_ | (refine H.st ?_; (conv => whnf); clear H; intro w H) | refine cT ?_ | refine cF ?_ | refine cN ?_ | refine cM ?_ | refine H.da (hc2 _ _ (by rfl)) ?_ | refine H.datw hc2 (by rfl) ?_ | refine H.datl hc2 (by rfl) ?_ | refine H.lw ?_ | refine H.ll ?_)); (conv => whnf))
    obtain ⟨V7, hV7, H, hr⟩ := Rel.freezeF H (fun _ => rfl) (by decide)
    exact ⟨V7, r, ((hV1.trans hV2).trans hV26).trans hV7, H.sx, .inr ⟨by rw [← hcs]; exact hnb, rfl, by rw [hwr, ← List.append_assoc]; exact hr⟩⟩
  rcases hI.step hcl hlt with ⟨p, pt, m, r, e1, e2, e3, e4, e5, e6, e7⟩ | ⟨x, xt, c, r, e1, e2, e3, e4, e5, e6⟩
  · have n1 := hI.n1
    rw [e1] at n1
    have hnl1 := n1.len
    simp only [List.length_cons] at hnl1
    obtain ⟨hp, q1, q2, q3⟩ := n1.at3 (g := fun p : NtP => bv p.1.2.1) (g' := fun p : NtP => p.2.v) (g'' := fun p : NtP => iv p.1.1) (fun _ => rfl) (i := 0) (by simp)
    simp only [List.getElem_cons_zero] at q1 q2 q3
    rw [e3] at q1
    rw [e3, e5] at q3
    have hdl := e4.len
    rcases hout with ⟨h0, rfl, H⟩ | ⟨h0, H⟩
    · ((repeat ((conv => whnf); first | refine an ?_ | refine H.ce ?_ | refine H.db ?_ | refine ea ?_ | refine ol ?_ | (refine H.st ?_; (conv => whnf); clear H; intro w H) | refine cT ?_ | refine cF ?_ | refine cN ?_ | refine cM ?_ | refine H.da (hc2 _ _ (by rfl)) ?_ | refine H.datw hc2 (by rfl) ?_ | refine H.datl hc2 (by rfl) ?_ | refine H.lw ?_ | refine H.ll ?_)); (conv => whnf))
      ((first | refine Rel.nwD H ?_ | refine Rel.nw H ?_); clear H; intro w b10 H)
      ((repeat ((conv => whnf); first | refine an ?_ | ((first | refine H.nwD ?_ | refine H.nw ?_); clear H; intro w _ H) | refine H.ce ?_ | refine H.db ?_ | refine ea ?_ | refine ol ?_ | (refine H.st ?_; (conv => whnf); clear H; intro w H) | refine cT ?_ | refine cF ?_ | refine cN ?_ | refine cM ?_ | refine H.da (hc2 _ _ (by rfl)) ?_ | refine H.datw hc2 (by rfl) ?_ | refine H.datl hc2 (by rfl) ?_ | refine H.lw ?_ | refine H.ll ?_)); (conv => whnf))
      ((first | refine draw_vc (id := 11) tabOk mixed [] [0, 1, 2, 3, 4, 5, 6, 7] (by kernel_rfl) ?_ | refine draw_vc (id := 12) tabOk mixed [] [0, 1, 2, 3, 4, 5, 6] (by kernel_rfl) ?_ | refine draw_vc (id := 15) tabOk mixed [12, 13] [0, 1, 2, 3, 4, 5, 6, 7, 8, 9, 10, 11, 14, 15, 12, 13, 16, 17] (by kernel_rfl) ?_); intro w hdw; replace H := Rel.ext H hdw.ext)
      ((repeat ((conv => whnf); first | refine an ?_ | ((first | refine H.nwD ?_ | refine H.nw ?_); clear H; intro w _ H) | refine H.ce ?_ | refine H.db ?_ | refine ea ?_ | refine ol ?_ | (refine H.st ?_; (conv => whnf); clear H; intro w H) | refine cT ?_ | refine cF ?_ | refine cN ?_ | refine cM ?_ | refine H.da (hc2 _ _ (by rfl)) ?_ | refine H.datw hc2 (by rfl) ?_ | refine H.datl hc2 (by rfl) ?_ | refine H.lw ?_ | refine H.ll ?_)); (conv => whnf))
      by_cases hbig : 1000 < (m.2).2.length
      · ((repeat ((conv => whnf); first | refine an ?_ | ((first | refine H.nwD ?_ | refine H.nw ?_); clear H; intro w _ H) | refine H.ce ?_ | refine H.db ?_ | refine ea ?_ | refine ol ?_ | (refine H.st ?_; (conv => whnf); clear H; intro w H) | refine cT ?_ | refine cF ?_ | refine cN ?_ | refine cM ?_ | refine H.da (hc2 _ _ (by rfl)) ?_ | refine H.datw hc2 (by rfl) ?_ | refine H.datl hc2 (by rfl) ?_ | refine H.lw ?_ | refine H.ll ?_)); (conv => whnf))
        exact ⟨V6, ⟨none, 0, 0⟩, (hV1.trans hV2).trans hV26, H.sx, .inl ⟨by rw [← hcs]; exact ⟨m.2, List.mem_of_getElem? (by assumption), hbig⟩, rfl⟩⟩
      obtain ⟨V7, hV7, H, hb10⟩ := H.freezeBlk
      have y0 := hb10.cel (i := 0) rfl
      have y1 := hb10.cel (i := 1) rfl
      have hdat : Byt V7 (p.2) (m.2).2 := (by assumption : Byt V6 (p.2) (m.2).2).up hV7
      have hnx := putChk_next (cs := cs) (i := k.i) (c := m.2) (by assumption)
      have hml : (magicB ++ (cs.take k.i).flatMap putChk).length ≤ 1100000 := by
        rw [List.length_append]
        simp only [List.length_cons, List.length_nil]
        omega
      ((repeat ((conv => whnf); first | refine an ?_ | ((first | refine H.nwD ?_ | refine H.nw ?_); clear H; intro w _ H) | refine H.ce ?_ | refine H.db ?_ | refine ea ?_ | refine ol ?_ | (refine H.st ?_; (conv => whnf); clear H; intro w H) | refine cT ?_ | refine cF ?_ | refine cN ?_ | refine cM ?_ | refine H.da (hc2 _ _ (by rfl)) ?_ | refine H.datw hc2 (by rfl) ?_ | refine H.datl hc2 (by rfl) ?_ | refine H.lw ?_ | refine H.ll ?_)); (conv => whnf))
      ((first | refine draw_vcTX (id := 3) tabOk mixed (Kv V7) Kv.trans [13, 19, 20] [1, 3, 5, 6, 8, 9, 11, 12, 16, 18] [0, 1, 2, 3, 4, 5, 6, 7, 8, 9, 10, 11, 12, 15, 16, 17, 18, 13, 14, 19, 20, 21, 22] [(13, []), (19, []), (20, [19]), (21, [13, 19, 20])] (by kernel_rfl) ?_ | refine draw_vcTX (id := 11) tabOk mixed (Kv V7) Kv.trans [] [] [0, 1, 2, 3, 4, 5, 6, 7] [(6, [])] (by kernel_rfl) ?_ | refine draw_vcTX (id := 12) tabOk mixed (Kv V7) Kv.trans [] [] [0, 1, 2, 3, 4, 5, 6] [(5, [])] (by kernel_rfl) ?_ | refine draw_vcTX (id := 15) tabOk mixed (Kv V7) Kv.trans [12, 13] [15] [0, 1, 2, 3, 4, 5, 6, 7, 8, 9, 10, 11, 14, 15, 12, 13, 16, 17] [(12, []), (13, [12]), (16, [12, 13])] (by kernel_rfl) ?_); intro w hdw; replace H := Rel.ext H hdw.ext)
      repeat' (((repeat ((conv => whnf); first | refine an ?_ | refine H.ce ?_ | refine H.db ?_ | refine ea ?_ | refine ol ?_ | (refine H.st ?_; (conv => whnf); clear H; intro w H) | refine cT ?_ | refine cF ?_ | refine cN ?_ | refine cM ?_ | refine H.da (hc2 _ _ (by rfl)) ?_ | refine H.datw hc2 (by rfl) ?_ | refine H.datl hc2 (by rfl) ?_ | refine H.lw ?_ | refine H.ll ?_)); (conv => whnf)); (first | refine Kv.go H ?_ | refine Kv.go2 H (by assumption) ?_ | (refine And.intro (fun w1 hkp => ?_) ?_; focus ((first | have H := Kv.in H hkp | have H := Kv.in2 H (by assumption) hkp); ((repeat ((conv => whnf); first | refine an ?_ | refine H.ce ?_ | refine H.db ?_ | refine ea ?_ | refine ol ?_ | fail | refine cT ?_ | refine cF ?_ | refine cN ?_ | refine cM ?_ | refine H.da (hc2 _ _ (by rfl)) ?_ | refine H.datw hc2 (by rfl) ?_ | refine H.datl hc2 (by rfl) ?_ | refine H.lw ?_ | refine H.ll ?_)); (conv => whnf)); all_goals (first | exact ⟨rfl, rfl⟩ | exact rfl))) | refine And.intro ?_ ?_ | ((first | refine Rel.nwD H ?_ | refine Rel.nw H ?_); clear H; intro w _ H)))
      ((repeat ((conv => whnf); first | refine an ?_ | refine H.ce ?_ | refine H.db ?_ | refine ea ?_ | refine ol ?_ | (refine H.st ?_; (conv => whnf); clear H; intro w H) | refine cT ?_ | refine cF ?_ | refine cN ?_ | refine cM ?_ | refine H.da (hc2 _ _ (by rfl)) ?_ | refine H.datw hc2 (by rfl) ?_ | refine H.datl hc2 (by rfl) ?_ | refine H.lw ?_ | refine H.ll ?_)); (conv => whnf))
      replace H := H.blkEq (putChk_cells (m.2.1) (p.2).len (by omega))
      rw [hdl] at H
      have hi0 : cs.take k.i = [] := by rw [h0]; rfl
      refine Rel.appFull (s := ⟨some ⟨bm, 0, none⟩, 4, 4⟩) (x := ⟨some ⟨_, 0, none⟩, 3, 3⟩) (xs := magicB.flatMap byC) (ys := [m.2.1, UInt8.ofNat ((m.2).2.length / 256), UInt8.ofNat ((m.2).2.length % 256)].flatMap byC) tabOk rfl rfl rfl rfl rfl (by decide) H ((hm.up hV7).up H.data).cells rfl rfl H.bk_0.cells rfl (by show 0 < 3; decide) (by show (4 + 3) * 1 ≤ 140737488355328; decide) (by show 4 + 3 ≤ 4611686018427387904; decide) ?_
      clear H
      intro r1 w hxe H _
      rw [← List.flatMap_append] at H
      repeat' (((repeat ((conv => whnf); first | refine an ?_ | refine H.ce ?_ | refine H.db ?_ | refine ea ?_ | refine ol ?_ | (refine H.st ?_; (conv => whnf); clear H; intro w H) | refine cT ?_ | refine cF ?_ | refine cN ?_ | refine cM ?_ | refine H.da (hc2 _ _ (by rfl)) ?_ | refine H.datw hc2 (by rfl) ?_ | refine H.datl hc2 (by rfl) ?_ | refine H.lw ?_ | refine H.ll ?_)); (conv => whnf)); (first | refine Kv.go H ?_ | refine Kv.go2 H (by assumption) ?_ | (refine And.intro (fun w1 hkp => ?_) ?_; focus ((first | have H := Kv.in H hkp | have H := Kv.in2 H (by assumption) hkp); ((repeat ((conv => whnf); first | refine an ?_ | refine H.ce ?_ | refine H.db ?_ | refine ea ?_ | refine ol ?_ | fail | refine cT ?_ | refine cF ?_ | refine cN ?_ | refine cM ?_ | refine H.da (hc2 _ _ (by rfl)) ?_ | refine H.datw hc2 (by rfl) ?_ | refine H.datl hc2 (by rfl) ?_ | refine H.lw ?_ | refine H.ll ?_)); (conv => whnf)); all_goals (first | exact ⟨rfl, rfl⟩ | exact rfl))) | refine And.intro ?_ ?_ | ((first | refine Rel.nwD H ?_ | refine Rel.nw H ?_); clear H; intro w _ H)))
      ((repeat ((conv => whnf); first | refine an ?_ | refine H.ce ?_ | refine H.db ?_ | refine ea ?_ | refine ol ?_ | (refine H.st ?_; (conv => whnf); clear H; intro w H) | refine cT ?_ | refine cF ?_ | refine cN ?_ | refine cM ?_ | refine H.da (hc2 _ _ (by rfl)) ?_ | refine H.datw hc2 (by rfl) ?_ | refine H.datl hc2 (by rfl) ?_ | refine H.lw ?_ | refine H.ll ?_)); (conv => whnf))
      refine Rel.appD H (i := 0) rfl hdat (by simp only [List.length_append, List.length_cons, List.length_nil]; omega) ?_
      clear H
      intro r2 w H
      simp only [List.set_cons_zero] at H
      replace H := H.less ((hV1.trans hV2).trans hV26) hV7
      ((repeat ((conv => whnf); first | refine an ?_ | ((first | refine H.nwD ?_ | refine H.nw ?_); clear H; intro w _ H) | refine H.ce ?_ | refine H.db ?_ | refine ea ?_ | refine ol ?_ | (refine H.st ?_; (conv => whnf); clear H; intro w H) | refine cT ?_ | refine cF ?_ | refine cN ?_ | refine cM ?_ | refine H.da (hc2 _ _ (by rfl)) ?_ | refine H.datw hc2 (by rfl) ?_ | refine H.datl hc2 (by rfl) ?_ | refine H.lw ?_ | refine H.ll ?_)); (conv => whnf))
      rw [show magicB = magicB ++ (cs.take k.i).flatMap putChk by rw [hi0]; rfl, ← hnx] at H
      exact ⟨(by repeat (first | exact trivial | refine ⟨rfl, ?_⟩)), (⟨k.i + 1, ⟨subA k.t8.a 1 k.t8.cap 3, k.t8.len - 1, k.t8.cap - 1⟩, pt, r, k.t6, k.hs, k.o⟩, r2), (by repeat (first | exact trivial | refine ⟨rfl, ?_⟩)), ⟨e7 (by omega), .inr ⟨by dsimp only; omega, H.sx⟩⟩, by dsimp only; omega⟩
    · ((repeat ((conv => whnf); first | refine an ?_ | refine H.ce ?_ | refine H.db ?_ | refine ea ?_ | refine ol ?_ | (refine H.st ?_; (conv => whnf); clear H; intro w H) | refine cT ?_ | refine cF ?_ | refine cN ?_ | refine cM ?_ | refine H.da (hc2 _ _ (by rfl)) ?_ | refine H.datw hc2 (by rfl) ?_ | refine H.datl hc2 (by rfl) ?_ | refine H.lw ?_ | refine H.ll ?_)); (conv => whnf))
      ((first | refine Rel.nwD H ?_ | refine Rel.nw H ?_); clear H; intro w b10 H)
      ((repeat ((conv => whnf); first | refine an ?_ | ((first | refine H.nwD ?_ | refine H.nw ?_); clear H; intro w _ H) | refine H.ce ?_ | refine H.db ?_ | refine ea ?_ | refine ol ?_ | (refine H.st ?_; (conv => whnf); clear H; intro w H) | refine cT ?_ | refine cF ?_ | refine cN ?_ | refine cM ?_ | refine H.da (hc2 _ _ (by rfl)) ?_ | refine H.datw hc2 (by rfl) ?_ | refine H.datl hc2 (by rfl) ?_ | refine H.lw ?_ | refine H.ll ?_)); (conv => whnf))
      ((first | refine draw_vc (id := 11) tabOk mixed [] [0, 1, 2, 3, 4, 5, 6, 7] (by kernel_rfl) ?_ | refine draw_vc (id := 12) tabOk mixed [] [0, 1, 2, 3, 4, 5, 6] (by kernel_rfl) ?_ | refine draw_vc (id := 15) tabOk mixed [12, 13] [0, 1, 2, 3, 4, 5, 6, 7, 8, 9, 10, 11, 14, 15, 12, 13, 16, 17] (by kernel_rfl) ?_); intro w hdw; replace H := Rel.ext H hdw.ext)
      ((repeat ((conv => whnf); first | refine an ?_ | ((first | refine H.nwD ?_ | refine H.nw ?_); clear H; intro w _ H) | refine H.ce ?_ | refine H.db ?_ | refine ea ?_ | refine ol ?_ | (refine H.st ?_; (conv => whnf); clear H; intro w H) | refine cT ?_ | refine cF ?_ | refine cN ?_ | refine cM ?_ | refine H.da (hc2 _ _ (by rfl)) ?_ | refine H.datw hc2 (by rfl) ?_ | refine H.datl hc2 (by rfl) ?_ | refine H.lw ?_ | refine H.ll ?_)); (conv => whnf))
      by_cases hbig : 1000 < (m.2).2.length
      · ((repeat ((conv => whnf); first | refine an ?_ | ((first | refine H.nwD ?_ | refine H.nw ?_); clear H; intro w _ H) | refine H.ce ?_ | refine H.db ?_ | refine ea ?_ | refine ol ?_ | (refine H.st ?_; (conv => whnf); clear H; intro w H) | refine cT ?_ | refine cF ?_ | refine cN ?_ | refine cM ?_ | refine H.da (hc2 _ _ (by rfl)) ?_ | refine H.datw hc2 (by rfl) ?_ | refine H.datl hc2 (by rfl) ?_ | refine H.lw ?_ | refine H.ll ?_)); (conv => whnf))
        exact ⟨V6, ⟨none, 0, 0⟩, (hV1.trans hV2).trans hV26, H.sx, .inl ⟨by rw [← hcs]; exact ⟨m.2, List.mem_of_getElem? (by assumption), hbig⟩, rfl⟩⟩
      obtain ⟨V7, hV7, H, hb10⟩ := H.freezeBlk
      have y0 := hb10.cel (i := 0) rfl
      have y1 := hb10.cel (i := 1) rfl
      have hdat : Byt V7 (p.2) (m.2).2 := (by assumption : Byt V6 (p.2) (m.2).2).up hV7
      have hnx := putChk_next (cs := cs) (i := k.i) (c := m.2) (by assumption)
      have hml : (magicB ++ (cs.take k.i).flatMap putChk).length ≤ 1100000 := by
        rw [List.length_append]
        simp only [List.length_cons, List.length_nil]
        omega
      ((repeat ((conv => whnf); first | refine an ?_ | ((first | refine H.nwD ?_ | refine H.nw ?_); clear H; intro w _ H) | refine H.ce ?_ | refine H.db ?_ | refine ea ?_ | refine ol ?_ | (refine H.st ?_; (conv => whnf); clear H; intro w H) | refine cT ?_ | refine cF ?_ | refine cN ?_ | refine cM ?_ | refine H.da (hc2 _ _ (by rfl)) ?_ | refine H.datw hc2 (by rfl) ?_ | refine H.datl hc2 (by rfl) ?_ | refine H.lw ?_ | refine H.ll ?_)); (conv => whnf))
      ((first | refine draw_vcTX (id := 3) tabOk mixed (Kv V7) Kv.trans [13, 19, 20] [1, 3, 5, 6, 8, 9, 11, 12, 16, 18] [0, 1, 2, 3, 4, 5, 6, 7, 8, 9, 10, 11, 12, 15, 16, 17, 18, 13, 14, 19, 20, 21, 22] [(13, []), (19, []), (20, [19]), (21, [13, 19, 20])] (by kernel_rfl) ?_ | refine draw_vcTX (id := 11) tabOk mixed (Kv V7) Kv.trans [] [] [0, 1, 2, 3, 4, 5, 6, 7] [(6, [])] (by kernel_rfl) ?_ | refine draw_vcTX (id := 12) tabOk mixed (Kv V7) Kv.trans [] [] [0, 1, 2, 3, 4, 5, 6] [(5, [])] (by kernel_rfl) ?_ | refine draw_vcTX (id := 15) tabOk mixed (Kv V7) Kv.trans [12, 13] [15] [0, 1, 2, 3, 4, 5, 6, 7, 8, 9, 10, 11, 14, 15, 12, 13, 16, 17] [(12, []), (13, [12]), (16, [12, 13])] (by kernel_rfl) ?_); intro w hdw; replace H := Rel.ext H hdw.ext)
      repeat' (((repeat ((conv => whnf); first | refine an ?_ | refine H.ce ?_ | refine H.db ?_ | refine ea ?_ | refine ol ?_ | (refine H.st ?_; (conv => whnf); clear H; intro w H) | refine cT ?_ | refine cF ?_ | refine cN ?_ | refine cM ?_ | refine H.da (hc2 _ _ (by rfl)) ?_ | refine H.datw hc2 (by rfl) ?_ | refine H.datl hc2 (by rfl) ?_ | refine H.lw ?_ | refine H.ll ?_)); (conv => whnf)); (first | refine Kv.go H ?_ | refine Kv.go2 H (by assumption) ?_ | (refine And.intro (fun w1 hkp => ?_) ?_; focus ((first | have H := Kv.in H hkp | have H := Kv.in2 H (by assumption) hkp); ((repeat ((conv => whnf); first | refine an ?_ | refine H.ce ?_ | refine H.db ?_ | refine ea ?_ | refine ol ?_ | fail | refine cT ?_ | refine cF ?_ | refine cN ?_ | refine cM ?_ | refine H.da (hc2 _ _ (by rfl)) ?_ | refine H.datw hc2 (by rfl) ?_ | refine H.datl hc2 (by rfl) ?_ | refine H.lw ?_ | refine H.ll ?_)); (conv => whnf)); all_goals (first | exact ⟨rfl, rfl⟩ | exact rfl))) | refine And.intro ?_ ?_ | ((first | refine Rel.nwD H ?_ | refine Rel.nw H ?_); clear H; intro w _ H)))
      ((repeat ((conv => whnf); first | refine an ?_ | refine H.ce ?_ | refine H.db ?_ | refine ea ?_ | refine ol ?_ | (refine H.st ?_; (conv => whnf); clear H; intro w H) | refine cT ?_ | refine cF ?_ | refine cN ?_ | refine cM ?_ | refine H.da (hc2 _ _ (by rfl)) ?_ | refine H.datw hc2 (by rfl) ?_ | refine H.datl hc2 (by rfl) ?_ | refine H.lw ?_ | refine H.ll ?_)); (conv => whnf))
      replace H := H.blkEq (putChk_cells (m.2.1) (p.2).len (by omega))
      rw [hdl] at H
      replace H := H.toRow (n := 3) (e := 5) (sz := 1) rfl (by simp [maxLen])
      refine Rel.appB H (i := 0) rfl (by simp only [List.length_cons, List.length_nil]; omega) ?_
      clear H
      intro r1 w H
      repeat' (((repeat ((conv => whnf); first | refine an ?_ | refine H.ce ?_ | refine H.db ?_ | refine ea ?_ | refine ol ?_ | (refine H.st ?_; (conv => whnf); clear H; intro w H) | refine cT ?_ | refine cF ?_ | refine cN ?_ | refine cM ?_ | refine H.da (hc2 _ _ (by rfl)) ?_ | refine H.datw hc2 (by rfl) ?_ | refine H.datl hc2 (by rfl) ?_ | refine H.lw ?_ | refine H.ll ?_)); (conv => whnf)); (first | refine Kv.go H ?_ | refine Kv.go2 H (by assumption) ?_ | (refine And.intro (fun w1 hkp => ?_) ?_; focus ((first | have H := Kv.in H hkp | have H := Kv.in2 H (by assumption) hkp); ((repeat ((conv => whnf); first | refine an ?_ | refine H.ce ?_ | refine H.db ?_ | refine ea ?_ | refine ol ?_ | fail | refine cT ?_ | refine cF ?_ | refine cN ?_ | refine cM ?_ | refine H.da (hc2 _ _ (by rfl)) ?_ | refine H.datw hc2 (by rfl) ?_ | refine H.datl hc2 (by rfl) ?_ | refine H.lw ?_ | refine H.ll ?_)); (conv => whnf)); all_goals (first | exact ⟨rfl, rfl⟩ | exact rfl))) | refine And.intro ?_ ?_ | ((first | refine Rel.nwD H ?_ | refine Rel.nw H ?_); clear H; intro w _ H)))
      ((repeat ((conv => whnf); first | refine an ?_ | refine H.ce ?_ | refine H.db ?_ | refine ea ?_ | refine ol ?_ | (refine H.st ?_; (conv => whnf); clear H; intro w H) | refine cT ?_ | refine cF ?_ | refine cN ?_ | refine cM ?_ | refine H.da (hc2 _ _ (by rfl)) ?_ | refine H.datw hc2 (by rfl) ?_ | refine H.datl hc2 (by rfl) ?_ | refine H.lw ?_ | refine H.ll ?_)); (conv => whnf))
      refine Rel.appD H (i := 0) rfl hdat (by simp only [List.length_append, List.length_cons, List.length_nil] at hml ⊢; omega) ?_
      clear H
      intro r2 w H
      simp only [List.set_cons_zero] at H
      replace H := H.less ((hV1.trans hV2).trans hV26) hV7
      ((repeat ((conv => whnf); first | refine an ?_ | ((first | refine H.nwD ?_ | refine H.nw ?_); clear H; intro w _ H) | refine H.ce ?_ | refine H.db ?_ | refine ea ?_ | refine ol ?_ | (refine H.st ?_; (conv => whnf); clear H; intro w H) | refine cT ?_ | refine cF ?_ | refine cN ?_ | refine cM ?_ | refine H.da (hc2 _ _ (by rfl)) ?_ | refine H.datw hc2 (by rfl) ?_ | refine H.datl hc2 (by rfl) ?_ | refine H.lw ?_ | refine H.ll ?_)); (conv => whnf))
      rw [← hnx] at H
      exact ⟨(by repeat (first | exact trivial | refine ⟨rfl, ?_⟩)), (⟨k.i + 1, ⟨subA k.t8.a 1 k.t8.cap 3, k.t8.len - 1, k.t8.cap - 1⟩, pt, r, k.t6, k.hs, k.o⟩, r2), (by repeat (first | exact trivial | refine ⟨rfl, ?_⟩)), ⟨e7 (by omega), .inr ⟨by dsimp only; omega, H.sx⟩⟩, by dsimp only; omega⟩
  · have o1 := hI.o1
    rw [e1] at o1
    have hnl1 := o1.len
    simp only [List.length_cons] at hnl1
    obtain ⟨hp, q1, q2⟩ := o1.at2 (g := fun x : ChkH => bv x.1) (g' := fun x : ChkH => x.2.v) (fun _ => rfl) (i := 0) (by simp)
    simp only [List.getElem_cons_zero] at q1 q2
    obtain ⟨hxi, hxd⟩ := e3
    rw [hxi] at q1
    have e4' := hxd
    have hdl := hxd.len
    have n1 := hI.n1
    have n2 := hI.n2
    have hn1l := n1.len
    have hn2l := n2.len
    cases hnr : k.nr with
    | nil =>
      rw [hnr] at hn2l
      simp only [List.length_nil] at hn2l
      rcases hout with ⟨h0, rfl, H⟩ | ⟨h0, H⟩
      · ((repeat ((conv => whnf); first | refine an ?_ | refine H.ce ?_ | refine H.db ?_ | refine ea ?_ | refine ol ?_ | (refine H.st ?_; (conv => whnf); clear H; intro w H) | refine cT ?_ | refine cF ?_ | refine cN ?_ | refine cM ?_ | refine H.da (hc2 _ _ (by rfl)) ?_ | refine H.datw hc2 (by rfl) ?_ | refine H.datl hc2 (by rfl) ?_ | refine H.lw ?_ | refine H.ll ?_)); (conv => whnf))
        ((first | refine Rel.nwD H ?_ | refine Rel.nw H ?_); clear H; intro w b10 H)
        ((repeat ((conv => whnf); first | refine an ?_ | ((first | refine H.nwD ?_ | refine H.nw ?_); clear H; intro w _ H) | refine H.ce ?_ | refine H.db ?_ | refine ea ?_ | refine ol ?_ | (refine H.st ?_; (conv => whnf); clear H; intro w H) | refine cT ?_ | refine cF ?_ | refine cN ?_ | refine cM ?_ | refine H.da (hc2 _ _ (by rfl)) ?_ | refine H.datw hc2 (by rfl) ?_ | refine H.datl hc2 (by rfl) ?_ | refine H.lw ?_ | refine H.ll ?_)); (conv => whnf))
        ((first | refine draw_vc (id := 11) tabOk mixed [] [0, 1, 2, 3, 4, 5, 6, 7] (by kernel_rfl) ?_ | refine draw_vc (id := 12) tabOk mixed [] [0, 1, 2, 3, 4, 5, 6] (by kernel_rfl) ?_ | refine draw_vc (id := 15) tabOk mixed [12, 13] [0, 1, 2, 3, 4, 5, 6, 7, 8, 9, 10, 11, 14, 15, 12, 13, 16, 17] (by kernel_rfl) ?_); intro w hdw; replace H := Rel.ext H hdw.ext)
        ((repeat ((conv => whnf); first | refine an ?_ | ((first | refine H.nwD ?_ | refine H.nw ?_); clear H; intro w _ H) | refine H.ce ?_ | refine H.db ?_ | refine ea ?_ | refine ol ?_ | (refine H.st ?_; (conv => whnf); clear H; intro w H) | refine cT ?_ | refine cF ?_ | refine cN ?_ | refine cM ?_ | refine H.da (hc2 _ _ (by rfl)) ?_ | refine H.datw hc2 (by rfl) ?_ | refine H.datl hc2 (by rfl) ?_ | refine H.lw ?_ | refine H.ll ?_)); (conv => whnf))
        by_cases hbig : 1000 < (c).2.length
        · ((repeat ((conv => whnf); first | refine an ?_ | ((first | refine H.nwD ?_ | refine H.nw ?_); clear H; intro w _ H) | refine H.ce ?_ | refine H.db ?_ | refine ea ?_ | refine ol ?_ | (refine H.st ?_; (conv => whnf); clear H; intro w H) | refine cT ?_ | refine cF ?_ | refine cN ?_ | refine cM ?_ | refine H.da (hc2 _ _ (by rfl)) ?_ | refine H.datw hc2 (by rfl) ?_ | refine H.datl hc2 (by rfl) ?_ | refine H.lw ?_ | refine H.ll ?_)); (conv => whnf))
          exact ⟨V6, ⟨none, 0, 0⟩, (hV1.trans hV2).trans hV26, H.sx, .inl ⟨by rw [← hcs]; exact ⟨c, List.mem_of_getElem? (by assumption), hbig⟩, rfl⟩⟩
        obtain ⟨V7, hV7, H, hb10⟩ := H.freezeBlk
        have y0 := hb10.cel (i := 0) rfl
        have y1 := hb10.cel (i := 1) rfl
        have hdat : Byt V7 (x.2) (c).2 := (by assumption : Byt V6 (x.2) (c).2).up hV7
        have hnx := putChk_next (cs := cs) (i := k.i) (c := c) (by assumption)
        have hml : (magicB ++ (cs.take k.i).flatMap putChk).length ≤ 1100000 := by
          rw [List.length_append]
          simp only [List.length_cons, List.length_nil]
          omega
        ((repeat ((conv => whnf); first | refine an ?_ | ((first | refine H.nwD ?_ | refine H.nw ?_); clear H; intro w _ H) | refine H.ce ?_ | refine H.db ?_ | refine ea ?_ | refine ol ?_ | (refine H.st ?_; (conv => whnf); clear H; intro w H) | refine cT ?_ | refine cF ?_ | refine cN ?_ | refine cM ?_ | refine H.da (hc2 _ _ (by rfl)) ?_ | refine H.datw hc2 (by rfl) ?_ | refine H.datl hc2 (by rfl) ?_ | refine H.lw ?_ | refine H.ll ?_)); (conv => whnf))
        ((first | refine draw_vcTX (id := 3) tabOk mixed (Kv V7) Kv.trans [13, 19, 20] [1, 3, 5, 6, 8, 9, 11, 12, 16, 18] [0, 1, 2, 3, 4, 5, 6, 7, 8, 9, 10, 11, 12, 15, 16, 17, 18, 13, 14, 19, 20, 21, 22] [(13, []), (19, []), (20, [19]), (21, [13, 19, 20])] (by kernel_rfl) ?_ | refine draw_vcTX (id := 11) tabOk mixed (Kv V7) Kv.trans [] [] [0, 1, 2, 3, 4, 5, 6, 7] [(6, [])] (by kernel_rfl) ?_ | refine draw_vcTX (id := 12) tabOk mixed (Kv V7) Kv.trans [] [] [0, 1, 2, 3, 4, 5, 6] [(5, [])] (by kernel_rfl) ?_ | refine draw_vcTX (id := 15) tabOk mixed (Kv V7) Kv.trans [12, 13] [15] [0, 1, 2, 3, 4, 5, 6, 7, 8, 9, 10, 11, 14, 15, 12, 13, 16, 17] [(12, []), (13, [12]), (16, [12, 13])] (by kernel_rfl) ?_); intro w hdw; replace H := Rel.ext H hdw.ext)
        repeat' (((repeat ((conv => whnf); first | refine an ?_ | refine H.ce ?_ | refine H.db ?_ | refine ea ?_ | refine ol ?_ | (refine H.st ?_; (conv => whnf); clear H; intro w H) | refine cT ?_ | refine cF ?_ | refine cN ?_ | refine cM ?_ | refine H.da (hc2 _ _ (by rfl)) ?_ | refine H.datw hc2 (by rfl) ?_ | refine H.datl hc2 (by rfl) ?_ | refine H.lw ?_ | refine H.ll ?_)); (conv => whnf)); (first | refine Kv.go H ?_ | refine Kv.go2 H (by assumption) ?_ | (refine And.intro (fun w1 hkp => ?_) ?_; focus ((first | have H := Kv.in H hkp | have H := Kv.in2 H (by assumption) hkp); ((repeat ((conv => whnf); first | refine an ?_ | refine H.ce ?_ | refine H.db ?_ | refine ea ?_ | refine ol ?_ | fail | refine cT ?_ | refine cF ?_ | refine cN ?_ | refine cM ?_ | refine H.da (hc2 _ _ (by rfl)) ?_ | refine H.datw hc2 (by rfl) ?_ | refine H.datl hc2 (by rfl) ?_ | refine H.lw ?_ | refine H.ll ?_)); (conv => whnf)); all_goals (first | exact ⟨rfl, rfl⟩ | exact rfl))) | refine And.intro ?_ ?_ | ((first | refine Rel.nwD H ?_ | refine Rel.nw H ?_); clear H; intro w _ H)))
        ((repeat ((conv => whnf); first | refine an ?_ | refine H.ce ?_ | refine H.db ?_ | refine ea ?_ | refine ol ?_ | (refine H.st ?_; (conv => whnf); clear H; intro w H) | refine cT ?_ | refine cF ?_ | refine cN ?_ | refine cM ?_ | refine H.da (hc2 _ _ (by rfl)) ?_ | refine H.datw hc2 (by rfl) ?_ | refine H.datl hc2 (by rfl) ?_ | refine H.lw ?_ | refine H.ll ?_)); (conv => whnf))
        replace H := H.blkEq (putChk_cells (c.1) (x.2).len (by omega))
        rw [hdl] at H
        have hi0 : cs.take k.i = [] := by rw [h0]; rfl
        refine Rel.appFull (s := ⟨some ⟨bm, 0, none⟩, 4, 4⟩) (x := ⟨some ⟨_, 0, none⟩, 3, 3⟩) (xs := magicB.flatMap byC) (ys := [c.1, UInt8.ofNat ((c).2.length / 256), UInt8.ofNat ((c).2.length % 256)].flatMap byC) tabOk rfl rfl rfl rfl rfl (by decide) H ((hm.up hV7).up H.data).cells rfl rfl H.bk_0.cells rfl (by show 0 < 3; decide) (by show (4 + 3) * 1 ≤ 140737488355328; decide) (by show 4 + 3 ≤ 4611686018427387904; decide) ?_
        clear H
        intro r1 w hxe H _
        rw [← List.flatMap_append] at H
        repeat' (((repeat ((conv => whnf); first | refine an ?_ | refine H.ce ?_ | refine H.db ?_ | refine ea ?_ | refine ol ?_ | (refine H.st ?_; (conv => whnf); clear H; intro w H) | refine cT ?_ | refine cF ?_ | refine cN ?_ | refine cM ?_ | refine H.da (hc2 _ _ (by rfl)) ?_ | refine H.datw hc2 (by rfl) ?_ | refine H.datl hc2 (by rfl) ?_ | refine H.lw ?_ | refine H.ll ?_)); (conv => whnf)); (first | refine Kv.go H ?_ | refine Kv.go2 H (by assumption) ?_ | (refine And.intro (fun w1 hkp => ?_) ?_; focus ((first | have H := Kv.in H hkp | have H := Kv.in2 H (by assumption) hkp); ((repeat ((conv => whnf); first | refine an ?_ | refine H.ce ?_ | refine H.db ?_ | refine ea ?_ | refine ol ?_ | fail | refine cT ?_ | refine cF ?_ | refine cN ?_ | refine cM ?_ | refine H.da (hc2 _ _ (by rfl)) ?_ | refine H.datw hc2 (by rfl) ?_ | refine H.datl hc2 (by rfl) ?_ | refine H.lw ?_ | refine H.ll ?_)); (conv => whnf)); all_goals (first | exact ⟨rfl, rfl⟩ | exact rfl))) | refine And.intro ?_ ?_ | ((first | refine Rel.nwD H ?_ | refine Rel.nw H ?_); clear H; intro w _ H)))
        ((repeat ((conv => whnf); first | refine an ?_ | refine H.ce ?_ | refine H.db ?_ | refine ea ?_ | refine ol ?_ | (refine H.st ?_; (conv => whnf); clear H; intro w H) | refine cT ?_ | refine cF ?_ | refine cN ?_ | refine cM ?_ | refine H.da (hc2 _ _ (by rfl)) ?_ | refine H.datw hc2 (by rfl) ?_ | refine H.datl hc2 (by rfl) ?_ | refine H.lw ?_ | refine H.ll ?_)); (conv => whnf))
        refine Rel.appD H (i := 0) rfl hdat (by simp only [List.length_append, List.length_cons, List.length_nil]; omega) ?_
        clear H
        intro r2 w H
        simp only [List.set_cons_zero] at H
        replace H := H.less ((hV1.trans hV2).trans hV26) hV7
        ((repeat ((conv => whnf); first | refine an ?_ | ((first | refine H.nwD ?_ | refine H.nw ?_); clear H; intro w _ H) | refine H.ce ?_ | refine H.db ?_ | refine ea ?_ | refine ol ?_ | (refine H.st ?_; (conv => whnf); clear H; intro w H) | refine cT ?_ | refine cF ?_ | refine cN ?_ | refine cM ?_ | refine H.da (hc2 _ _ (by rfl)) ?_ | refine H.datw hc2 (by rfl) ?_ | refine H.datl hc2 (by rfl) ?_ | refine H.lw ?_ | refine H.ll ?_)); (conv => whnf))
        rw [show magicB = magicB ++ (cs.take k.i).flatMap putChk by rw [hi0]; rfl, ← hnx] at H
        exact ⟨(by repeat (first | exact trivial | refine ⟨rfl, ?_⟩)), (⟨k.i + 1, k.t8, k.ps, k.nr, ⟨subA k.t6.a 1 k.t6.cap 2, k.t6.len - 1, k.t6.cap - 1⟩, xt, r⟩, r2), (by repeat (first | exact trivial | refine ⟨rfl, ?_⟩)), ⟨e6 (by omega), .inr ⟨by dsimp only; omega, H.sx⟩⟩, by dsimp only; omega⟩
      · ((repeat ((conv => whnf); first | refine an ?_ | refine H.ce ?_ | refine H.db ?_ | refine ea ?_ | refine ol ?_ | (refine H.st ?_; (conv => whnf); clear H; intro w H) | refine cT ?_ | refine cF ?_ | refine cN ?_ | refine cM ?_ | refine H.da (hc2 _ _ (by rfl)) ?_ | refine H.datw hc2 (by rfl) ?_ | refine H.datl hc2 (by rfl) ?_ | refine H.lw ?_ | refine H.ll ?_)); (conv => whnf))
        ((first | refine Rel.nwD H ?_ | refine Rel.nw H ?_); clear H; intro w b10 H)
        ((repeat ((conv => whnf); first | refine an ?_ | ((first | refine H.nwD ?_ | refine H.nw ?_); clear H; intro w _ H) | refine H.ce ?_ | refine H.db ?_ | refine ea ?_ | refine ol ?_ | (refine H.st ?_; (conv => whnf); clear H; intro w H) | refine cT ?_ | refine cF ?_ | refine cN ?_ | refine cM ?_ | refine H.da (hc2 _ _ (by rfl)) ?_ | refine H.datw hc2 (by rfl) ?_ | refine H.datl hc2 (by rfl) ?_ | refine H.lw ?_ | refine H.ll ?_)); (conv => whnf))
        ((first | refine draw_vc (id := 11) tabOk mixed [] [0, 1, 2, 3, 4, 5, 6, 7] (by kernel_rfl) ?_ | refine draw_vc (id := 12) tabOk mixed [] [0, 1, 2, 3, 4, 5, 6] (by kernel_rfl) ?_ | refine draw_vc (id := 15) tabOk mixed [12, 13] [0, 1, 2, 3, 4, 5, 6, 7, 8, 9, 10, 11, 14, 15, 12, 13, 16, 17] (by kernel_rfl) ?_); intro w hdw; replace H := Rel.ext H hdw.ext)
        ((repeat ((conv => whnf); first | refine an ?_ | ((first | refine H.nwD ?_ | refine H.nw ?_); clear H; intro w _ H) | refine H.ce ?_ | refine H.db ?_ | refine ea ?_ | refine ol ?_ | (refine H.st ?_; (conv => whnf); clear H; intro w H) | refine cT ?_ | refine cF ?_ | refine cN ?_ | refine cM ?_ | refine H.da (hc2 _ _ (by rfl)) ?_ | refine H.datw hc2 (by rfl) ?_ | refine H.datl hc2 (by rfl) ?_ | refine H.lw ?_ | refine H.ll ?_)); (conv => whnf))
        by_cases hbig : 1000 < (c).2.length
        · ((repeat ((conv => whnf); first | refine an ?_ | ((first | refine H.nwD ?_ | refine H.nw ?_); clear H; intro w _ H) | refine H.ce ?_ | refine H.db ?_ | refine ea ?_ | refine ol ?_ | (refine H.st ?_; (conv => whnf); clear H; intro w H) | refine cT ?_ | refine cF ?_ | refine cN ?_ | refine cM ?_ | refine H.da (hc2 _ _ (by rfl)) ?_ | refine H.datw hc2 (by rfl) ?_ | refine H.datl hc2 (by rfl) ?_ | refine H.lw ?_ | refine H.ll ?_)); (conv => whnf))
          exact ⟨V6, ⟨none, 0, 0⟩, (hV1.trans hV2).trans hV26, H.sx, .inl ⟨by rw [← hcs]; exact ⟨c, List.mem_of_getElem? (by assumption), hbig⟩, rfl⟩⟩
        obtain ⟨V7, hV7, H, hb10⟩ := H.freezeBlk
        have y0 := hb10.cel (i := 0) rfl
        have y1 := hb10.cel (i := 1) rfl
        have hdat : Byt V7 (x.2) (c).2 := (by assumption : Byt V6 (x.2) (c).2).up hV7
        have hnx := putChk_next (cs := cs) (i := k.i) (c := c) (by assumption)
        have hml : (magicB ++ (cs.take k.i).flatMap putChk).length ≤ 1100000 := by
          rw [List.length_append]
          simp only [List.length_cons, List.length_nil]
          omega
        ((repeat ((conv => whnf); first | refine an ?_ | ((first | refine H.nwD ?_ | refine H.nw ?_); clear H; intro w _ H) | refine H.ce ?_ | refine H.db ?_ | refine ea ?_ | refine ol ?_ | (refine H.st ?_; (conv => whnf); clear H; intro w H) | refine cT ?_ | refine cF ?_ | refine cN ?_ | refine cM ?_ | refine H.da (hc2 _ _ (by rfl)) ?_ | refine H.datw hc2 (by rfl) ?_ | refine H.datl hc2 (by rfl) ?_ | refine H.lw ?_ | refine H.ll ?_)); (conv => whnf))
        ((first | refine draw_vcTX (id := 3) tabOk mixed (Kv V7) Kv.trans [13, 19, 20] [1, 3, 5, 6, 8, 9, 11, 12, 16, 18] [0, 1, 2, 3, 4, 5, 6, 7, 8, 9, 10, 11, 12, 15, 16, 17, 18, 13, 14, 19, 20, 21, 22] [(13, []), (19, []), (20, [19]), (21, [13, 19, 20])] (by kernel_rfl) ?_ | refine draw_vcTX (id := 11) tabOk mixed (Kv V7) Kv.trans [] [] [0, 1, 2, 3, 4, 5, 6, 7] [(6, [])] (by kernel_rfl) ?_ | refine draw_vcTX (id := 12) tabOk mixed (Kv V7) Kv.trans [] [] [0, 1, 2, 3, 4, 5, 6] [(5, [])] (by kernel_rfl) ?_ | refine draw_vcTX (id := 15) tabOk mixed (Kv V7) Kv.trans [12, 13] [15] [0, 1, 2, 3, 4, 5, 6, 7, 8, 9, 10, 11, 14, 15, 12, 13, 16, 17] [(12, []), (13, [12]), (16, [12, 13])] (by kernel_rfl) ?_); intro w hdw; replace H := Rel.ext H hdw.ext)
        repeat' (((repeat ((conv => whnf); first | refine an ?_ | refine H.ce ?_ | refine H.db ?_ | refine ea ?_ | refine ol ?_ | (refine H.st ?_; (conv => whnf); clear H; intro w H) | refine cT ?_ | refine cF ?_ | refine cN ?_ | refine cM ?_ | refine H.da (hc2 _ _ (by rfl)) ?_ | refine H.datw hc2 (by rfl) ?_ | refine H.datl hc2 (by rfl) ?_ | refine H.lw ?_ | refine H.ll ?_)); (conv => whnf)); (first | refine Kv.go H ?_ | refine Kv.go2 H (by assumption) ?_ | (refine And.intro (fun w1 hkp => ?_) ?_; focus ((first | have H := Kv.in H hkp | have H := Kv.in2 H (by assumption) hkp); ((repeat ((conv => whnf); first | refine an ?_ | refine H.ce ?_ | refine H.db ?_ | refine ea ?_ | refine ol ?_ | fail | refine cT ?_ | refine cF ?_ | refine cN ?_ | refine cM ?_ | refine H.da (hc2 _ _ (by rfl)) ?_ | refine H.datw hc2 (by rfl) ?_ | refine H.datl hc2 (by rfl) ?_ | refine H.lw ?_ | refine H.ll ?_)); (conv => whnf)); all_goals (first | exact ⟨rfl, rfl⟩ | exact rfl))) | refine And.intro ?_ ?_ | ((first | refine Rel.nwD H ?_ | refine Rel.nw H ?_); clear H; intro w _ H)))
        ((repeat ((conv => whnf); first | refine an ?_ | refine H.ce ?_ | refine H.db ?_ | refine ea ?_ | refine ol ?_ | (refine H.st ?_; (conv => whnf); clear H; intro w H) | refine cT ?_ | refine cF ?_ | refine cN ?_ | refine cM ?_ | refine H.da (hc2 _ _ (by rfl)) ?_ | refine H.datw hc2 (by rfl) ?_ | refine H.datl hc2 (by rfl) ?_ | refine H.lw ?_ | refine H.ll ?_)); (conv => whnf))
        replace H := H.blkEq (putChk_cells (c.1) (x.2).len (by omega))
        rw [hdl] at H
        replace H := H.toRow (n := 3) (e := 5) (sz := 1) rfl (by simp [maxLen])
        refine Rel.appB H (i := 0) rfl (by simp only [List.length_cons, List.length_nil]; omega) ?_
        clear H
        intro r1 w H
        repeat' (((repeat ((conv => whnf); first | refine an ?_ | refine H.ce ?_ | refine H.db ?_ | refine ea ?_ | refine ol ?_ | (refine H.st ?_; (conv => whnf); clear H; intro w H) | refine cT ?_ | refine cF ?_ | refine cN ?_ | refine cM ?_ | refine H.da (hc2 _ _ (by rfl)) ?_ | refine H.datw hc2 (by rfl) ?_ | refine H.datl hc2 (by rfl) ?_ | refine H.lw ?_ | refine H.ll ?_)); (conv => whnf)); (first | refine Kv.go H ?_ | refine Kv.go2 H (by assumption) ?_ | (refine And.intro (fun w1 hkp => ?_) ?_; focus ((first | have H := Kv.in H hkp | have H := Kv.in2 H (by assumption) hkp); ((repeat ((conv => whnf); first | refine an ?_ | refine H.ce ?_ | refine H.db ?_ | refine ea ?_ | refine ol ?_ | fail | refine cT ?_ | refine cF ?_ | refine cN ?_ | refine cM ?_ | refine H.da (hc2 _ _ (by rfl)) ?_ | refine H.datw hc2 (by rfl) ?_ | refine H.datl hc2 (by rfl) ?_ | refine H.lw ?_ | refine H.ll ?_)); (conv => whnf)); all_goals (first | exact ⟨rfl, rfl⟩ | exact rfl))) | refine And.intro ?_ ?_ | ((first | refine Rel.nwD H ?_ | refine Rel.nw H ?_); clear H; intro w _ H)))
        ((repeat ((conv => whnf); first | refine an ?_ | refine H.ce ?_ | refine H.db ?_ | refine ea ?_ | refine ol ?_ | (refine H.st ?_; (conv => whnf); clear H; intro w H) | refine cT ?_ | refine cF ?_ | refine cN ?_ | refine cM ?_ | refine H.da (hc2 _ _ (by rfl)) ?_ | refine H.datw hc2 (by rfl) ?_ | refine H.datl hc2 (by rfl) ?_ | refine H.lw ?_ | refine H.ll ?_)); (conv => whnf))
        refine Rel.appD H (i := 0) rfl hdat (by simp only [List.length_append, List.length_cons, List.length_nil] at hml ⊢; omega) ?_
        clear H
        intro r2 w H
        simp only [List.set_cons_zero] at H
        replace H := H.less ((hV1.trans hV2).trans hV26) hV7
        ((repeat ((conv => whnf); first | refine an ?_ | ((first | refine H.nwD ?_ | refine H.nw ?_); clear H; intro w _ H) | refine H.ce ?_ | refine H.db ?_ | refine ea ?_ | refine ol ?_ | (refine H.st ?_; (conv => whnf); clear H; intro w H) | refine cT ?_ | refine cF ?_ | refine cN ?_ | refine cM ?_ | refine H.da (hc2 _ _ (by rfl)) ?_ | refine H.datw hc2 (by rfl) ?_ | refine H.datl hc2 (by rfl) ?_ | refine H.lw ?_ | refine H.ll ?_)); (conv => whnf))
        rw [← hnx] at H
        exact ⟨(by repeat (first | exact trivial | refine ⟨rfl, ?_⟩)), (⟨k.i + 1, k.t8, k.ps, k.nr, ⟨subA k.t6.a 1 k.t6.cap 2, k.t6.len - 1, k.t6.cap - 1⟩, xt, r⟩, r2), (by repeat (first | exact trivial | refine ⟨rfl, ?_⟩)), ⟨e6 (by omega), .inr ⟨by dsimp only; omega, H.sx⟩⟩, by dsimp only; omega⟩
    | cons m t =>
      have hne := e4 m t hnr
      rw [hnr] at n2
      obtain ⟨p, pt, g1, g2, g3⟩ := n2.cons_inv
      rw [g1] at n1 hn1l
      simp only [List.length_cons] at hn1l
      obtain ⟨hp', s1, s2, s3⟩ := n1.at3 (g := fun p : NtP => bv p.1.2.1) (g' := fun p : NtP => p.2.v) (g'' := fun p : NtP => iv p.1.1) (fun _ => rfl) (i := 0) (by simp)
      simp only [List.getElem_cons_zero] at s1 s2 s3
      rw [g2.1] at s3
      rcases hout with ⟨h0, rfl, H⟩ | ⟨h0, H⟩
      · ((repeat ((conv => whnf); first | refine an ?_ | refine H.ce ?_ | refine H.db ?_ | refine ea ?_ | refine ol ?_ | (refine H.st ?_; (conv => whnf); clear H; intro w H) | refine cT ?_ | refine cF ?_ | refine cN ?_ | refine cM ?_ | refine H.da (hc2 _ _ (by rfl)) ?_ | refine H.datw hc2 (by rfl) ?_ | refine H.datl hc2 (by rfl) ?_ | refine H.lw ?_ | refine H.ll ?_)); (conv => whnf))
        ((first | refine Rel.nwD H ?_ | refine Rel.nw H ?_); clear H; intro w b10 H)
        ((repeat ((conv => whnf); first | refine an ?_ | ((first | refine H.nwD ?_ | refine H.nw ?_); clear H; intro w _ H) | refine H.ce ?_ | refine H.db ?_ | refine ea ?_ | refine ol ?_ | (refine H.st ?_; (conv => whnf); clear H; intro w H) | refine cT ?_ | refine cF ?_ | refine cN ?_ | refine cM ?_ | refine H.da (hc2 _ _ (by rfl)) ?_ | refine H.datw hc2 (by rfl) ?_ | refine H.datl hc2 (by rfl) ?_ | refine H.lw ?_ | refine H.ll ?_)); (conv => whnf))
        ((first | refine draw_vc (id := 11) tabOk mixed [] [0, 1, 2, 3, 4, 5, 6, 7] (by kernel_rfl) ?_ | refine draw_vc (id := 12) tabOk mixed [] [0, 1, 2, 3, 4, 5, 6] (by kernel_rfl) ?_ | refine draw_vc (id := 15) tabOk mixed [12, 13] [0, 1, 2, 3, 4, 5, 6, 7, 8, 9, 10, 11, 14, 15, 12, 13, 16, 17] (by kernel_rfl) ?_); intro w hdw; replace H := Rel.ext H hdw.ext)
        ((repeat ((conv => whnf); first | refine an ?_ | ((first | refine H.nwD ?_ | refine H.nw ?_); clear H; intro w _ H) | refine H.ce ?_ | refine H.db ?_ | refine ea ?_ | refine ol ?_ | (refine H.st ?_; (conv => whnf); clear H; intro w H) | refine cT ?_ | refine cF ?_ | refine cN ?_ | refine cM ?_ | refine H.da (hc2 _ _ (by rfl)) ?_ | refine H.datw hc2 (by rfl) ?_ | refine H.datl hc2 (by rfl) ?_ | refine H.lw ?_ | refine H.ll ?_)); (conv => whnf))
        by_cases hbig : 1000 < (c).2.length
        · ((repeat ((conv => whnf); first | refine an ?_ | ((first | refine H.nwD ?_ | refine H.nw ?_); clear H; intro w _ H) | refine H.ce ?_ | refine H.db ?_ | refine ea ?_ | refine ol ?_ | (refine H.st ?_; (conv => whnf); clear H; intro w H) | refine cT ?_ | refine cF ?_ | refine cN ?_ | refine cM ?_ | refine H.da (hc2 _ _ (by rfl)) ?_ | refine H.datw hc2 (by rfl) ?_ | refine H.datl hc2 (by rfl) ?_ | refine H.lw ?_ | refine H.ll ?_)); (conv => whnf))
          exact ⟨V6, ⟨none, 0, 0⟩, (hV1.trans hV2).trans hV26, H.sx, .inl ⟨by rw [← hcs]; exact ⟨c, List.mem_of_getElem? (by assumption), hbig⟩, rfl⟩⟩
        obtain ⟨V7, hV7, H, hb10⟩ := H.freezeBlk
        have y0 := hb10.cel (i := 0) rfl
        have y1 := hb10.cel (i := 1) rfl
        have hdat : Byt V7 (x.2) (c).2 := (by assumption : Byt V6 (x.2) (c).2).up hV7
        have hnx := putChk_next (cs := cs) (i := k.i) (c := c) (by assumption)
        have hml : (magicB ++ (cs.take k.i).flatMap putChk).length ≤ 1100000 := by
          rw [List.length_append]
          simp only [List.length_cons, List.length_nil]
          omega
        ((repeat ((conv => whnf); first | refine an ?_ | ((first | refine H.nwD ?_ | refine H.nw ?_); clear H; intro w _ H) | refine H.ce ?_ | refine H.db ?_ | refine ea ?_ | refine ol ?_ | (refine H.st ?_; (conv => whnf); clear H; intro w H) | refine cT ?_ | refine cF ?_ | refine cN ?_ | refine cM ?_ | refine H.da (hc2 _ _ (by rfl)) ?_ | refine H.datw hc2 (by rfl) ?_ | refine H.datl hc2 (by rfl) ?_ | refine H.lw ?_ | refine H.ll ?_)); (conv => whnf))
        ((first | refine draw_vcTX (id := 3) tabOk mixed (Kv V7) Kv.trans [13, 19, 20] [1, 3, 5, 6, 8, 9, 11, 12, 16, 18] [0, 1, 2, 3, 4, 5, 6, 7, 8, 9, 10, 11, 12, 15, 16, 17, 18, 13, 14, 19, 20, 21, 22] [(13, []), (19, []), (20, [19]), (21, [13, 19, 20])] (by kernel_rfl) ?_ | refine draw_vcTX (id := 11) tabOk mixed (Kv V7) Kv.trans [] [] [0, 1, 2, 3, 4, 5, 6, 7] [(6, [])] (by kernel_rfl) ?_ | refine draw_vcTX (id := 12) tabOk mixed (Kv V7) Kv.trans [] [] [0, 1, 2, 3, 4, 5, 6] [(5, [])] (by kernel_rfl) ?_ | refine draw_vcTX (id := 15) tabOk mixed (Kv V7) Kv.trans [12, 13] [15] [0, 1, 2, 3, 4, 5, 6, 7, 8, 9, 10, 11, 14, 15, 12, 13, 16, 17] [(12, []), (13, [12]), (16, [12, 13])] (by kernel_rfl) ?_); intro w hdw; replace H := Rel.ext H hdw.ext)
        repeat' (((repeat ((conv => whnf); first | refine an ?_ | refine H.ce ?_ | refine H.db ?_ | refine ea ?_ | refine ol ?_ | (refine H.st ?_; (conv => whnf); clear H; intro w H) | refine cT ?_ | refine cF ?_ | refine cN ?_ | refine cM ?_ | refine H.da (hc2 _ _ (by rfl)) ?_ | refine H.datw hc2 (by rfl) ?_ | refine H.datl hc2 (by rfl) ?_ | refine H.lw ?_ | refine H.ll ?_)); (conv => whnf)); (first | refine Kv.go H ?_ | refine Kv.go2 H (by assumption) ?_ | (refine And.intro (fun w1 hkp => ?_) ?_; focus ((first | have H := Kv.in H hkp | have H := Kv.in2 H (by assumption) hkp); ((repeat ((conv => whnf); first | refine an ?_ | refine H.ce ?_ | refine H.db ?_ | refine ea ?_ | refine ol ?_ | fail | refine cT ?_ | refine cF ?_ | refine cN ?_ | refine cM ?_ | refine H.da (hc2 _ _ (by rfl)) ?_ | refine H.datw hc2 (by rfl) ?_ | refine H.datl hc2 (by rfl) ?_ | refine H.lw ?_ | refine H.ll ?_)); (conv => whnf)); all_goals (first | exact ⟨rfl, rfl⟩ | exact rfl))) | refine And.intro ?_ ?_ | ((first | refine Rel.nwD H ?_ | refine Rel.nw H ?_); clear H; intro w _ H)))
        ((repeat ((conv => whnf); first | refine an ?_ | refine H.ce ?_ | refine H.db ?_ | refine ea ?_ | refine ol ?_ | (refine H.st ?_; (conv => whnf); clear H; intro w H) | refine cT ?_ | refine cF ?_ | refine cN ?_ | refine cM ?_ | refine H.da (hc2 _ _ (by rfl)) ?_ | refine H.datw hc2 (by rfl) ?_ | refine H.datl hc2 (by rfl) ?_ | refine H.lw ?_ | refine H.ll ?_)); (conv => whnf))
        replace H := H.blkEq (putChk_cells (c.1) (x.2).len (by omega))
        rw [hdl] at H
        have hi0 : cs.take k.i = [] := by rw [h0]; rfl
        refine Rel.appFull (s := ⟨some ⟨bm, 0, none⟩, 4, 4⟩) (x := ⟨some ⟨_, 0, none⟩, 3, 3⟩) (xs := magicB.flatMap byC) (ys := [c.1, UInt8.ofNat ((c).2.length / 256), UInt8.ofNat ((c).2.length % 256)].flatMap byC) tabOk rfl rfl rfl rfl rfl (by decide) H ((hm.up hV7).up H.data).cells rfl rfl H.bk_0.cells rfl (by show 0 < 3; decide) (by show (4 + 3) * 1 ≤ 140737488355328; decide) (by show 4 + 3 ≤ 4611686018427387904; decide) ?_
        clear H
        intro r1 w hxe H _
        rw [← List.flatMap_append] at H
        repeat' (((repeat ((conv => whnf); first | refine an ?_ | refine H.ce ?_ | refine H.db ?_ | refine ea ?_ | refine ol ?_ | (refine H.st ?_; (conv => whnf); clear H; intro w H) | refine cT ?_ | refine cF ?_ | refine cN ?_ | refine cM ?_ | refine H.da (hc2 _ _ (by rfl)) ?_ | refine H.datw hc2 (by rfl) ?_ | refine H.datl hc2 (by rfl) ?_ | refine H.lw ?_ | refine H.ll ?_)); (conv => whnf)); (first | refine Kv.go H ?_ | refine Kv.go2 H (by assumption) ?_ | (refine And.intro (fun w1 hkp => ?_) ?_; focus ((first | have H := Kv.in H hkp | have H := Kv.in2 H (by assumption) hkp); ((repeat ((conv => whnf); first | refine an ?_ | refine H.ce ?_ | refine H.db ?_ | refine ea ?_ | refine ol ?_ | fail | refine cT ?_ | refine cF ?_ | refine cN ?_ | refine cM ?_ | refine H.da (hc2 _ _ (by rfl)) ?_ | refine H.datw hc2 (by rfl) ?_ | refine H.datl hc2 (by rfl) ?_ | refine H.lw ?_ | refine H.ll ?_)); (conv => whnf)); all_goals (first | exact ⟨rfl, rfl⟩ | exact rfl))) | refine And.intro ?_ ?_ | ((first | refine Rel.nwD H ?_ | refine Rel.nw H ?_); clear H; intro w _ H)))
        ((repeat ((conv => whnf); first | refine an ?_ | refine H.ce ?_ | refine H.db ?_ | refine ea ?_ | refine ol ?_ | (refine H.st ?_; (conv => whnf); clear H; intro w H) | refine cT ?_ | refine cF ?_ | refine cN ?_ | refine cM ?_ | refine H.da (hc2 _ _ (by rfl)) ?_ | refine H.datw hc2 (by rfl) ?_ | refine H.datl hc2 (by rfl) ?_ | refine H.lw ?_ | refine H.ll ?_)); (conv => whnf))
        refine Rel.appD H (i := 0) rfl hdat (by simp only [List.length_append, List.length_cons, List.length_nil]; omega) ?_
        clear H
        intro r2 w H
        simp only [List.set_cons_zero] at H
        replace H := H.less ((hV1.trans hV2).trans hV26) hV7
        ((repeat ((conv => whnf); first | refine an ?_ | ((first | refine H.nwD ?_ | refine H.nw ?_); clear H; intro w _ H) | refine H.ce ?_ | refine H.db ?_ | refine ea ?_ | refine ol ?_ | (refine H.st ?_; (conv => whnf); clear H; intro w H) | refine cT ?_ | refine cF ?_ | refine cN ?_ | refine cM ?_ | refine H.da (hc2 _ _ (by rfl)) ?_ | refine H.datw hc2 (by rfl) ?_ | refine H.datl hc2 (by rfl) ?_ | refine H.lw ?_ | refine H.ll ?_)); (conv => whnf))
        rw [show magicB = magicB ++ (cs.take k.i).flatMap putChk by rw [hi0]; rfl, ← hnx] at H
        exact ⟨(by repeat (first | exact trivial | refine ⟨rfl, ?_⟩)), (⟨k.i + 1, k.t8, k.ps, k.nr, ⟨subA k.t6.a 1 k.t6.cap 2, k.t6.len - 1, k.t6.cap - 1⟩, xt, r⟩, r2), (by repeat (first | exact trivial | refine ⟨rfl, ?_⟩)), ⟨e6 (by omega), .inr ⟨by dsimp only; omega, H.sx⟩⟩, by dsimp only; omega⟩
      · ((repeat ((conv => whnf); first | refine an ?_ | refine H.ce ?_ | refine H.db ?_ | refine ea ?_ | refine ol ?_ | (refine H.st ?_; (conv => whnf); clear H; intro w H) | refine cT ?_ | refine cF ?_ | refine cN ?_ | refine cM ?_ | refine H.da (hc2 _ _ (by rfl)) ?_ | refine H.datw hc2 (by rfl) ?_ | refine H.datl hc2 (by rfl) ?_ | refine H.lw ?_ | refine H.ll ?_)); (conv => whnf))
        ((first | refine Rel.nwD H ?_ | refine Rel.nw H ?_); clear H; intro w b10 H)
        ((repeat ((conv => whnf); first | refine an ?_ | ((first | refine H.nwD ?_ | refine H.nw ?_); clear H; intro w _ H) | refine H.ce ?_ | refine H.db ?_ | refine ea ?_ | refine ol ?_ | (refine H.st ?_; (conv => whnf); clear H; intro w H) | refine cT ?_ | refine cF ?_ | refine cN ?_ | refine cM ?_ | refine H.da (hc2 _ _ (by rfl)) ?_ | refine H.datw hc2 (by rfl) ?_ | refine H.datl hc2 (by rfl) ?_ | refine H.lw ?_ | refine H.ll ?_)); (conv => whnf))
        ((first | refine draw_vc (id := 11) tabOk mixed [] [0, 1, 2, 3, 4, 5, 6, 7] (by kernel_rfl) ?_ | refine draw_vc (id := 12) tabOk mixed [] [0, 1, 2, 3, 4, 5, 6] (by kernel_rfl) ?_ | refine draw_vc (id := 15) tabOk mixed [12, 13] [0, 1, 2, 3, 4, 5, 6, 7, 8, 9, 10, 11, 14, 15, 12, 13, 16, 17] (by kernel_rfl) ?_); intro w hdw; replace H := Rel.ext H hdw.ext)
        ((repeat ((conv => whnf); first | refine an ?_ | ((first | refine H.nwD ?_ | refine H.nw ?_); clear H; intro w _ H) | refine H.ce ?_ | refine H.db ?_ | refine ea ?_ | refine ol ?_ | (refine H.st ?_; (conv => whnf); clear H; intro w H) | refine cT ?_ | refine cF ?_ | refine cN ?_ | refine cM ?_ | refine H.da (hc2 _ _ (by rfl)) ?_ | refine H.datw hc2 (by rfl) ?_ | refine H.datl hc2 (by rfl) ?_ | refine H.lw ?_ | refine H.ll ?_)); (conv => whnf))
        by_cases hbig : 1000 < (c).2.length
        · ((repeat ((conv => whnf); first | refine an ?_ | ((first | refine H.nwD ?_ | refine H.nw ?_); clear H; intro w _ H) | refine H.ce ?_ | refine H.db ?_ | refine ea ?_ | refine ol ?_ | (refine H.st ?_; (conv => whnf); clear H; intro w H) | refine cT ?_ | refine cF ?_ | refine cN ?_ | refine cM ?_ | refine H.da (hc2 _ _ (by rfl)) ?_ | refine H.datw hc2 (by rfl) ?_ | refine H.datl hc2 (by rfl) ?_ | refine H.lw ?_ | refine H.ll ?_)); (conv => whnf))
          exact ⟨V6, ⟨none, 0, 0⟩, (hV1.trans hV2).trans hV26, H.sx, .inl ⟨by rw [← hcs]; exact ⟨c, List.mem_of_getElem? (by assumption), hbig⟩, rfl⟩⟩
        obtain ⟨V7, hV7, H, hb10⟩ := H.freezeBlk
        have y0 := hb10.cel (i := 0) rfl
        have y1 := hb10.cel (i := 1) rfl
        have hdat : Byt V7 (x.2) (c).2 := (by assumption : Byt V6 (x.2) (c).2).up hV7
        have hnx := putChk_next (cs := cs) (i := k.i) (c := c) (by assumption)
        have hml : (magicB ++ (cs.take k.i).flatMap putChk).length ≤ 1100000 := by
          rw [List.length_append]
          simp only [List.length_cons, List.length_nil]
          omega
        ((repeat ((conv => whnf); first | refine an ?_ | ((first | refine H.nwD ?_ | refine H.nw ?_); clear H; intro w _ H) | refine H.ce ?_ | refine H.db ?_ | refine ea ?_ | refine ol ?_ | (refine H.st ?_; (conv => whnf); clear H; intro w H) | refine cT ?_ | refine cF ?_ | refine cN ?_ | refine cM ?_ | refine H.da (hc2 _ _ (by rfl)) ?_ | refine H.datw hc2 (by rfl) ?_ | refine H.datl hc2 (by rfl) ?_ | refine H.lw ?_ | refine H.ll ?_)); (conv => whnf))
        ((first | refine draw_vcTX (id := 3) tabOk mixed (Kv V7) Kv.trans [13, 19, 20] [1, 3, 5, 6, 8, 9, 11, 12, 16, 18] [0, 1, 2, 3, 4, 5, 6, 7, 8, 9, 10, 11, 12, 15, 16, 17, 18, 13, 14, 19, 20, 21, 22] [(13, []), (19, []), (20, [19]), (21, [13, 19, 20])] (by kernel_rfl) ?_ | refine draw_vcTX (id := 11) tabOk mixed (Kv V7) Kv.trans [] [] [0, 1, 2, 3, 4, 5, 6, 7] [(6, [])] (by kernel_rfl) ?_ | refine draw_vcTX (id := 12) tabOk mixed (Kv V7) Kv.trans [] [] [0, 1, 2, 3, 4, 5, 6] [(5, [])] (by kernel_rfl) ?_ | refine draw_vcTX (id := 15) tabOk mixed (Kv V7) Kv.trans [12, 13] [15] [0, 1, 2, 3, 4, 5, 6, 7, 8, 9, 10, 11, 14, 15, 12, 13, 16, 17] [(12, []), (13, [12]), (16, [12, 13])] (by kernel_rfl) ?_); intro w hdw; replace H := Rel.ext H hdw.ext)
        repeat' (((repeat ((conv => whnf); first | refine an ?_ | refine H.ce ?_ | refine H.db ?_ | refine ea ?_ | refine ol ?_ | (refine H.st ?_; (conv => whnf); clear H; intro w H) | refine cT ?_ | refine cF ?_ | refine cN ?_ | refine cM ?_ | refine H.da (hc2 _ _ (by rfl)) ?_ | refine H.datw hc2 (by rfl) ?_ | refine H.datl hc2 (by rfl) ?_ | refine H.lw ?_ | refine H.ll ?_)); (conv => whnf)); (first | refine Kv.go H ?_ | refine Kv.go2 H (by assumption) ?_ | (refine And.intro (fun w1 hkp => ?_) ?_; focus ((first | have H := Kv.in H hkp | have H := Kv.in2 H (by assumption) hkp); ((repeat ((conv => whnf); first | refine an ?_ | refine H.ce ?_ | refine H.db ?_ | refine ea ?_ | refine ol ?_ | fail | refine cT ?_ | refine cF ?_ | refine cN ?_ | refine cM ?_ | refine H.da (hc2 _ _ (by rfl)) ?_ | refine H.datw hc2 (by rfl) ?_ | refine H.datl hc2 (by rfl) ?_ | refine H.lw ?_ | refine H.ll ?_)); (conv => whnf)); all_goals (first | exact ⟨rfl, rfl⟩ | exact rfl))) | refine And.intro ?_ ?_ | ((first | refine Rel.nwD H ?_ | refine Rel.nw H ?_); clear H; intro w _ H)))
        ((repeat ((conv => whnf); first | refine an ?_ | refine H.ce ?_ | refine H.db ?_ | refine ea ?_ | refine ol ?_ | (refine H.st ?_; (conv => whnf); clear H; intro w H) | refine cT ?_ | refine cF ?_ | refine cN ?_ | refine cM ?_ | refine H.da (hc2 _ _ (by rfl)) ?_ | refine H.datw hc2 (by rfl) ?_ | refine H.datl hc2 (by rfl) ?_ | refine H.lw ?_ | refine H.ll ?_)); (conv => whnf))
        replace H := H.blkEq (putChk_cells (c.1) (x.2).len (by omega))
        rw [hdl] at H
        replace H := H.toRow (n := 3) (e := 5) (sz := 1) rfl (by simp [maxLen])
        refine Rel.appB H (i := 0) rfl (by simp only [List.length_cons, List.length_nil]; omega) ?_
        clear H
        intro r1 w H
        repeat' (((repeat ((conv => whnf); first | refine an ?_ | refine H.ce ?_ | refine H.db ?_ | refine ea ?_ | refine ol ?_ | (refine H.st ?_; (conv => whnf); clear H; intro w H) | refine cT ?_ | refine cF ?_ | refine cN ?_ | refine cM ?_ | refine H.da (hc2 _ _ (by rfl)) ?_ | refine H.datw hc2 (by rfl) ?_ | refine H.datl hc2 (by rfl) ?_ | refine H.lw ?_ | refine H.ll ?_)); (conv => whnf)); (first | refine Kv.go H ?_ | refine Kv.go2 H (by assumption) ?_ | (refine And.intro (fun w1 hkp => ?_) ?_; focus ((first | have H := Kv.in H hkp | have H := Kv.in2 H (by assumption) hkp); ((repeat ((conv => whnf); first | refine an ?_ | refine H.ce ?_ | refine H.db ?_ | refine ea ?_ | refine ol ?_ | fail | refine cT ?_ | refine cF ?_ | refine cN ?_ | refine cM ?_ | refine H.da (hc2 _ _ (by rfl)) ?_ | refine H.datw hc2 (by rfl) ?_ | refine H.datl hc2 (by rfl) ?_ | refine H.lw ?_ | refine H.ll ?_)); (conv => whnf)); all_goals (first | exact ⟨rfl, rfl⟩ | exact rfl))) | refine And.intro ?_ ?_ | ((first | refine Rel.nwD H ?_ | refine Rel.nw H ?_); clear H; intro w _ H)))
        ((repeat ((conv => whnf); first | refine an ?_ | refine H.ce ?_ | refine H.db ?_ | refine ea ?_ | refine ol ?_ | (refine H.st ?_; (conv => whnf); clear H; intro w H) | refine cT ?_ | refine cF ?_ | refine cN ?_ | refine cM ?_ | refine H.da (hc2 _ _ (by rfl)) ?_ | refine H.datw hc2 (by rfl) ?_ | refine H.datl hc2 (by rfl) ?_ | refine H.lw ?_ | refine H.ll ?_)); (conv => whnf))
        refine Rel.appD H (i := 0) rfl hdat (by simp only [List.length_append, List.length_cons, List.length_nil] at hml ⊢; omega) ?_
        clear H
        intro r2 w H
        simp only [List.set_cons_zero] at H
        replace H := H.less ((hV1.trans hV2).trans hV26) hV7
        ((repeat ((conv => whnf); first | refine an ?_ | ((first | refine H.nwD ?_ | refine H.nw ?_); clear H; intro w _ H) | refine H.ce ?_ | refine H.db ?_ | refine ea ?_ | refine ol ?_ | (refine H.st ?_; (conv => whnf); clear H; intro w H) | refine cT ?_ | refine cF ?_ | refine cN ?_ | refine cM ?_ | refine H.da (hc2 _ _ (by rfl)) ?_ | refine H.datw hc2 (by rfl) ?_ | refine H.datl hc2 (by rfl) ?_ | refine H.lw ?_ | refine H.ll ?_)); (conv => whnf))
        rw [← hnx] at H
        exact ⟨(by repeat (first | exact trivial | refine ⟨rfl, ?_⟩)), (⟨k.i + 1, k.t8, k.ps, k.nr, ⟨subA k.t6.a 1 k.t6.cap 2, k.t6.len - 1, k.t6.cap - 1⟩, xt, r⟩, r2), (by repeat (first | exact trivial | refine ⟨rfl, ?_⟩)), ⟨e6 (by omega), .inr ⟨by dsimp only; omega, H.sx⟩⟩, by dsimp only; omega⟩
end
end Go.Proofs.Ytjfcpnlacodjjaa
