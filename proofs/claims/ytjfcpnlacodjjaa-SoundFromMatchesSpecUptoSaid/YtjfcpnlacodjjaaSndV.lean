/-
  Sound files, the reference: SoundFile.
-/
import Derived.Test.YtjfcpnlacodjjaaSndU
import Derived.Test.YtjfcpnlacodjjaaSndN
namespace Go.Proofs.Ytjfcpnlacodjjaa
open Go Go.RowKit

structure GSt where
  i : Nat
  t7 : Sl
  h7 : List ChkG
  t8 : Sl
  nr : List Note
  t13 : Sl
  hs : List ChkG
  o : List Chk
structure GInv (V : World) (cs : List Chk) (N : Nat) (k : GSt) : Prop where
  le : k.i ≤ N
  ws : WS (N - k.i) k.i k.nr k.o
  wv : weave (N - k.i) k.i k.nr k.o = cs.drop k.i
  n1 : SlF chkG V k.t7 k.h7
  n2 : Pw ChkAtG V k.h7 (k.nr.map (·.2))
  p1 : SlF itC V k.t8 (k.nr.map (·.1))
  o1 : SlF chkG V k.t13 k.hs
  o2 : Pw ChkAtG V k.hs k.o
  ok : ∀ c ∈ cs.take k.i, c.2.length ≤ 65535
theorem take_okG {cs : List Chk} {i : Nat} {c : Chk} (h : ∀ c ∈ cs.take i, c.2.length ≤ 65535) (hc : cs[i]? = some c) (hl : c.2.length ≤ 65535) : ∀ c ∈ cs.take (i + 1), c.2.length ≤ 65535 := by
  obtain ⟨h1, h2⟩ := List.getElem?_eq_some_iff.1 hc
  intro d hd
  rw [List.take_succ_eq_append_getElem h1] at hd
  rcases List.mem_append.1 hd with hd | hd
  · exact h d hd
  · rw [List.mem_singleton.1 hd, h2]; exact hl
theorem GInv.step {V : World} {cs : List Chk} {N : Nat} {k : GSt} (h : GInv V cs N k) (hN : cs.length = N) (hlt : k.i < N) :
    (∃ x xt m r, k.h7 = x :: xt ∧ k.nr = m :: r ∧ ChkAtG V x m.2 ∧ m.1 = (k.i : Int) ∧ cs[k.i]? = some m.2 ∧ (m.2.2.length ≤ 65535 → GInv V cs N ⟨k.i + 1, ⟨subA k.t7.a 1 k.t7.cap 2, k.t7.len - 1, k.t7.cap - 1⟩, xt, ⟨subA k.t8.a 1 k.t8.cap 1, k.t8.len - 1, k.t8.cap - 1⟩, r, k.t13, k.hs, k.o⟩)) ∨
    (∃ x xt c r, k.hs = x :: xt ∧ k.o = c :: r ∧ ChkAtG V x c ∧ (∀ m t, k.nr = m :: t → m.1 ≠ (k.i : Int)) ∧ cs[k.i]? = some c ∧ (c.2.length ≤ 65535 → GInv V cs N ⟨k.i + 1, k.t7, k.h7, k.t8, k.nr, ⟨subA k.t13.a 1 k.t13.cap 2, k.t13.len - 1, k.t13.cap - 1⟩, xt, r⟩)) := by
  obtain ⟨n, hn⟩ : ∃ n, N - k.i = n + 1 := ⟨N - k.i - 1, by omega⟩
  have hn' : N - (k.i + 1) = n := by omega
  have hws := h.ws
  have hwv := h.wv
  rw [hn] at hws hwv
  have hat : ∀ (c : Chk) (t : List Chk), c :: t = cs.drop k.i → cs[k.i]? = some c ∧ t = cs.drop (k.i + 1) := by
    intro c t e
    rw [List.drop_eq_getElem_cons (by omega)] at e
    injection e with e1 e2
    exact ⟨by rw [List.getElem?_eq_getElem (by omega), e1], e2⟩
  rcases weave_step hws with ⟨m, r, e1, e2, e3, e4⟩ | ⟨c, r, e1, e2, e3, e4⟩
  · left
    have n2 := h.n2
    rw [e1, List.map_cons] at n2
    obtain ⟨p, pt, f1, f2, f3⟩ := n2.cons_inv
    rw [e3] at hwv
    obtain ⟨g1, g2⟩ := hat _ _ hwv
    have n1 := h.n1
    rw [f1] at n1
    have p1 := h.p1
    rw [e1, List.map_cons] at p1
    refine ⟨p, pt, m, r, f1, e1, f2, e2, g1, fun hl => ⟨by dsimp only; omega, by dsimp only; rw [hn']; exact e4, by dsimp only; rw [hn']; exact g2, n1.tail (fun _ => rfl), f3, p1.tail (fun _ => rfl), h.o1, h.o2, take_okG h.ok g1 hl⟩⟩
  · right
    have o2 := h.o2
    rw [e1] at o2
    obtain ⟨x, xt, f1, f2, f3⟩ := o2.cons_inv
    rw [e3] at hwv
    obtain ⟨g1, g2⟩ := hat _ _ hwv
    have o1 := h.o1
    rw [f1] at o1
    refine ⟨x, xt, c, r, f1, e1, f2, e2, g1, fun hl => ⟨by dsimp only; omega, by dsimp only; rw [hn']; exact e4, by dsimp only; rw [hn']; exact g2, h.n1, h.n2, h.p1, o1.tail (fun _ => rfl), f3, take_okG h.ok g1 hl⟩⟩
theorem flat_putChk_leG {l : List Chk} (h : ∀ c ∈ l, c.2.length ≤ 65535) : (l.flatMap putChk).length ≤ l.length * 65538 := by
  induction l with
  | nil => simp
  | cons c l ih =>
    have h1 := h c (by simp)
    have h2 := ih fun x hx => h x (by simp [hx])
    simp only [List.flatMap_cons, List.length_append, putChk_len, List.length_cons]
    omega
theorem chkG_cells (c : UInt8) (n : Nat) (hl : n ≤ 65535) {a b x : Int} (hx : x = wr .u8 ((c.toNat : Nat) : Int)) (ha : a = wr .u8 ((n : Int) / 256)) (hb : b = wr .u8 ((n : Int) % 256)) : [Value.int .u8 x, Value.int .u8 a, Value.int .u8 b] = [c, UInt8.ofNat (n / 256), UInt8.ofNat (n % 256)].flatMap byC := by
  have hc := c.toNat_lt
  have e0 : wr .u8 ((c.toNat : Nat) : Int) = ((c.toNat : Nat) : Int) := by show ((c.toNat : Nat) : Int) % 256 = _; omega
  have e1 : wr .u8 ((n : Int) / 256) = ((n / 256 : Nat) : Int) := by show ((n : Int) / 256) % 256 = _; omega
  have e2 : wr .u8 ((n : Int) % 256) = ((n % 256 : Nat) : Int) := by show ((n : Int) % 256) % 256 = _; omega
  rw [hx, ha, hb, e0, e1, e2]
  simp only [List.flatMap_cons, List.flatMap_nil, byC, bv, List.cons_append, List.nil_append]
  rw [toNat_ofNat_lt (by omega), toNat_ofNat_lt (by omega)]
theorem frmG_cells {rate ch coding : Nat} (h1 : rate ≤ 65535) (h2 : ch < 256) (h3 : coding < 256) : [Value.int .u8 (wr .u8 ((rate : Int) / 256)), Value.int .u8 (wr .u8 ((rate : Int) % 256)), .int .u8 (wr .u8 (ch : Int)), .int .u8 (wr .u8 (coding : Int))] = (frmB rate ch coding).flatMap byC := by
  have e0 : (2 : Int) ^ min (Int.toNat 8) IntKind.i64.bits = 256 := by decide
  have e2 : wr .u8 ((rate : Int) % 256) = wr .u8 (rate : Int) := by show (rate : Int) % 256 % 256 = (rate : Int) % 256; omega
  rw [e2, ← frm_cells h1 h2 h3]
  simp only [frmW, e0]
section
variable {V W : World}
set_option maxRecDepth 100000 in
set_option maxHeartbeats 4000000 in
theorem soundFile_ref (hV : Sub V W) {h : VH} {v : Val} (hv : ValAt V h v) (hB : VB 1048576 v) (hvf : (vfault v).1 = 0) {rate ch : Nat} {sb : List UInt8} (hsh : sndShape v = some (rate, ch, sb)) {s : Sl} {b : List UInt8} (hs : Byt V s b) (hl : b.length ≤ 1099511620000) :
    Ret Try.prog 33 [valV h, s.v].toArray W (FrG W V (sndMake v b)) := by
  have H := Rel.start hV
  have hv0 := hv
  have hpl := hv.plen
  have hlen := hs.len
  obtain ⟨hve, hra, hch, hsd⟩ := sndShape_some hvf hsh
  have hvl : v.parts.length = 3 := by rw [hve]; rfl
  have g0 : v.parts[0] = numV rate := by simp [hve]
  have g1 : v.parts[1] = numV ch := by simp [hve]
  have g2 : v.parts[2] = bytV sb := by simp [hve]
  have hsbl : sb.length ≤ 4000 := by
    have h1 := vfault_zz hvf
    have h2 := enc_sndVal rate ch sb
    rw [← hve] at h2
    have h3 : (enc v).length ≤ 4000 := by
      unfold vfault at h1
      split at h1
      · rename_i e he
        exact absurd (by rw [h1]) (scan_error he)
      · split at h1
        · cases h1
        · omega
    have h4 := congrArg List.length h2
    have h5 := putC_ge sb
    simp only [List.length_append] at h4
    omega
  have hsml : (sndVals sb 1 ch).length ≤ 1000000 := by
    have := sndVals_len_le sb 1 ch
    omega
  obtain ⟨vk, vn, bs, ss, pl⟩ := h
  dsimp only at hpl
  change Ret Try.prog 33 [.agg [iv vk, iv vn, bs.v, ss.v, pl.v].toArray, s.v].toArray W _
  refine cal_of_sem tabOk Try.func33 rfl (by kernel_rfl) 150 rfl (by simp) [0, 1, 2, 4, 5, 6, 7, 8, 9, 10, 11, 12, 13, 14, 15, 16, 17, 18, 19, 20, 23, 32, 75, 87, 97, 106, 131] ?_
  refine SemC.seqGo tabOk ?_
  ((repeat ((conv => whnf); first | refine an ?_ | refine H.ce ?_ | refine H.db ?_ | refine ea ?_ | refine ol ?_ | (refine H.st ?_; (conv => whnf); clear H; intro w H) | refine cT ?_ | refine cF ?_ | refine cN ?_ | refine cM ?_ | refine H.lw ?_ | refine H.ll ?_)); (conv => whnf))
  ((first | refine Rel.nwD H ?_ | refine Rel.nw H ?_); clear H; intro w b2 H)
  ((repeat ((conv => whnf); first | refine an ?_ | ((first | refine H.nwD ?_ | refine H.nw ?_); clear H; intro w _ H) | refine H.ce ?_ | refine H.db ?_ | refine ea ?_ | refine ol ?_ | (refine H.st ?_; (conv => whnf); clear H; intro w H) | refine cT ?_ | refine cF ?_ | refine cN ?_ | refine cM ?_ | refine H.lw ?_ | refine H.ll ?_)); (conv => whnf))
  refine SemC.seqGo tabOk ?_
  ((repeat ((conv => whnf); first | refine an ?_ | ((first | refine H.nwD ?_ | refine H.nw ?_); clear H; intro w _ H) | refine H.ce ?_ | refine H.db ?_ | refine ea ?_ | refine ol ?_ | (refine H.st ?_; (conv => whnf); clear H; intro w H) | refine cT ?_ | refine cF ?_ | refine cN ?_ | refine cM ?_ | refine H.lw ?_ | refine H.ll ?_)); (conv => whnf))
  refine SemC.seqGo tabOk ?_
  ((repeat ((conv => whnf); first | refine an ?_ | ((first | refine H.nwD ?_ | refine H.nw ?_); clear H; intro w _ H) | refine H.ce ?_ | refine H.db ?_ | refine ea ?_ | refine ol ?_ | (refine H.st ?_; (conv => whnf); clear H; intro w H) | refine cT ?_ | refine cF ?_ | refine cN ?_ | refine cM ?_ | refine H.lw ?_ | refine H.ll ?_)); (conv => whnf))
  refine SemC.seqGo tabOk ?_
  ((repeat ((conv => whnf); first | refine an ?_ | ((first | refine H.nwD ?_ | refine H.nw ?_); clear H; intro w _ H) | refine H.ce ?_ | refine H.db ?_ | refine ea ?_ | refine ol ?_ | (refine H.st ?_; (conv => whnf); clear H; intro w H) | refine cT ?_ | refine cF ?_ | refine cN ?_ | refine cM ?_ | refine H.lw ?_ | refine H.ll ?_)); (conv => whnf))
  refine SemC.seqCut tabOk (fun q : Nat × Sl × Sl × List Note × List ChkG => [(0, .agg [iv vk, iv vn, bs.v, ss.v, pl.v].toArray), (1, s.v), (2, .pointer (some ⟨b2, 0, none⟩)), (4, .slice none 0 0), (5, .bool false), (6, iv q.1), (7, q.2.1.v), (8, q.2.2.1.v)])
    (fun q w' => sndRd b = some (q.1, q.2.2.2.1) ∧ ∃ V2, Sub V V2 ∧ SlF chkG V2 q.2.1 q.2.2.2.2 ∧ Pw ChkAtG V2 q.2.2.2.2 (q.2.2.2.1.map (·.2)) ∧ SlF itC V2 q.2.2.1 (q.2.2.2.1.map (·.1)) ∧ Rel W V [.blk b2 [iv vk, iv vn, bs.v, ss.v, pl.v] 27] V2 w') ?_ ?_
  · (conv => whnf)
    by_cases hb0 : b.length = 0
    · have hb : b = [] := List.eq_nil_of_length_eq_zero hb0
      ((repeat ((conv => whnf); first | refine an ?_ | ((first | refine H.nwD ?_ | refine H.nw ?_); clear H; intro w _ H) | refine H.ce ?_ | refine H.db ?_ | refine ea ?_ | refine ol ?_ | (refine H.st ?_; (conv => whnf); clear H; intro w H) | refine cT ?_ | refine cF ?_ | refine cN ?_ | refine cM ?_ | refine H.lw ?_ | refine H.ll ?_)); (conv => whnf))
      exact ⟨(1, ⟨none, 0, 0⟩, ⟨none, 0, 0⟩, [], []), (by repeat (first | exact trivial | refine ⟨rfl, ?_⟩)), by rw [sndRd, if_pos hb], V, Sub.refl _, SlF.nil _ _, Pw.nil, SlF.nil _ _, H⟩
    ((repeat ((conv => whnf); first | refine an ?_ | ((first | refine H.nwD ?_ | refine H.nw ?_); clear H; intro w _ H) | refine H.ce ?_ | refine H.db ?_ | refine ea ?_ | refine ol ?_ | (refine H.st ?_; (conv => whnf); clear H; intro w H) | refine cT ?_ | refine cF ?_ | refine cN ?_ | refine cM ?_ | refine H.lw ?_ | refine H.ll ?_)); (conv => whnf))
    refine (soundNotes_ref H.data hs hl (fun h => hb0 (by rw [h]; rfl))).use ?_
    rintro q w ⟨V2, rn, rp, c, ok, hV2, K, rfl, hres⟩
    (have hKb := K.base; replace H := H.call0 K)
    cases hr : sndRd b with
    | none =>
      rw [hr] at hres
      dsimp only at hres
      subst hres
      have hno : sndMake v b = none := by unfold sndMake; rw [hsh, hr]
      rw [hno]
      ((repeat ((conv => whnf); first | refine an ?_ | ((first | refine H.nwD ?_ | refine H.nw ?_); clear H; intro w _ H) | refine H.ce ?_ | refine H.db ?_ | refine ea ?_ | refine ol ?_ | (refine H.st ?_; (conv => whnf); clear H; intro w H) | refine cT ?_ | refine cF ?_ | refine cN ?_ | refine cM ?_ | refine H.lw ?_ | refine H.ll ?_)); (conv => whnf))
      exact ⟨V2, ⟨none, 0, 0⟩, [], false, hV2, H.sx, rfl, SlF.nil _ _, rfl⟩
    | some x =>
      obtain ⟨c', ns⟩ := x
      rw [hr] at hres
      obtain ⟨rfl, rfl, ⟨os, hns, hnw⟩, hps⟩ := hres
      ((repeat ((conv => whnf); first | refine an ?_ | ((first | refine H.nwD ?_ | refine H.nw ?_); clear H; intro w _ H) | refine H.ce ?_ | refine H.db ?_ | refine ea ?_ | refine ol ?_ | (refine H.st ?_; (conv => whnf); clear H; intro w H) | refine cT ?_ | refine cF ?_ | refine cN ?_ | refine cM ?_ | refine H.lw ?_ | refine H.ll ?_)); (conv => whnf))
      exact ⟨(c', rn, rp, ns, os), (by repeat (first | exact trivial | refine ⟨rfl, ?_⟩)), rfl, V2, hV2, hns, hnw, hps, H.sx⟩
  clear H
  rintro ⟨c, rn, rp, ns, os⟩ w ⟨hr, V2, hV2, hns, hnw, hps, H⟩
  dsimp only at hr hns hnw hps H ⊢
  obtain ⟨c4, n1000, hno, _, _⟩ := sndRd_some hr
  have hmk : sndMake v b = if (sndWrite rate ch c (sndVals sb 1 ch) ns).length ≤ 1000 ∧ sndTo (sndWrite rate ch c (sndVals sb 1 ch) ns) = some (v, b) then some (sndWrite rate ch c (sndVals sb 1 ch) ns) else none := by
    unfold sndMake
    rw [hsh, hr]
  refine SemC.go tabOk ?_
  obtain ⟨O, hO⟩ : ∃ O, O = sndWrite rate ch c (sndVals sb 1 ch) ns := ⟨_, rfl⟩
  rw [← hO] at hmk
  obtain ⟨hp0, x0, hx0, pa0, pa1, pa2, pa3, pa4⟩ := (hv0.up hV2).part5 (i := 0) (by omega)
  obtain ⟨_, x1, hx1, pb0, pb1, pb2, pb3, pb4⟩ := (hv0.up hV2).part5 (i := 1) (by omega)
  obtain ⟨_, x2, hx2, pc0, pc1, pc2, pc3, pc4⟩ := (hv0.up hV2).part5 (i := 2) (by omega)
  have k1 := hx0.num
  have k2 := hx1.num
  have k3 := hx2.bytes
  rw [g0] at k1
  rw [g1] at k2
  rw [g2] at k3
  dsimp only [Val.num, Val.bytes] at k1 k2 k3
  dsimp only at hp0 pa1 pb1 pc2
  rw [k1] at pa1
  rw [k2] at pb1
  ((repeat ((conv => whnf); first | refine an ?_ | ((first | refine H.nwD ?_ | refine H.nw ?_); clear H; intro w _ H) | refine H.ce ?_ | refine H.db ?_ | refine ea ?_ | refine ol ?_ | (refine H.st ?_; (conv => whnf); clear H; intro w H) | refine cT ?_ | refine cF ?_ | refine cN ?_ | refine cM ?_ | refine H.lw ?_ | refine H.ll ?_)); (conv => whnf))
  refine (soundValues_ref (coding := 1) H.data (by omega) hch k3 (by omega)).use ?_
  rintro q w ⟨rv, rfl, K⟩
  (have hKb := K.base; replace H := Rel.call H K)
  simp only [List.cons_append, List.nil_append] at H
  obtain ⟨V3, hV3, H, hrv⟩ := Rel.freezeF H (fun _ => rfl) (by decide)
  ((repeat ((conv => whnf); first | refine an ?_ | refine H.ce ?_ | refine H.db ?_ | refine ea ?_ | refine ol ?_ | (refine H.st ?_; (conv => whnf); clear H; intro w H) | refine cT ?_ | refine cF ?_ | refine cN ?_ | refine cM ?_ | refine H.lw ?_ | refine H.ll ?_)); (conv => whnf))
  ((first | refine Rel.nwD H ?_ | refine Rel.nw H ?_); clear H; intro w b60 H)
  replace H := H.blkEq (frmG_cells (coding := c) hra (by omega) (by omega))
  obtain ⟨V4, hV4, H, hb60⟩ := H.freezeBlk
  ((repeat ((conv => whnf); first | refine an ?_ | ((first | refine H.nwD ?_ | refine H.nw ?_); clear H; intro w _ H) | refine H.ce ?_ | refine H.db ?_ | refine ea ?_ | refine ol ?_ | (refine H.st ?_; (conv => whnf); clear H; intro w H) | refine cT ?_ | refine cF ?_ | refine cN ?_ | refine cM ?_ | refine H.lw ?_ | refine H.ll ?_)); (conv => whnf))
  refine (soundBytes_ref (coding := c) H.data c4 hch (hrv.up hV4) hsml sndVals_range).use ?_
  rintro q w ⟨re, rfl, K⟩
  (have hKb := K.base; replace H := Rel.call H K)
  simp only [List.cons_append, List.nil_append] at H
  obtain ⟨V5, hV5, H, hre⟩ := Rel.freezeF H (fun _ => rfl) (by decide)
  ((repeat ((conv => whnf); first | refine an ?_ | refine H.ce ?_ | refine H.db ?_ | refine ea ?_ | refine ol ?_ | (refine H.st ?_; (conv => whnf); clear H; intro w H) | refine cT ?_ | refine cF ?_ | refine cN ?_ | refine cM ?_ | refine H.lw ?_ | refine H.ll ?_)); (conv => whnf))
  ((first | refine Rel.nwD H ?_ | refine Rel.nw H ?_); clear H; intro w b67 H)
  have H0 : Rel W V [.blk b67 [iv 70, .slice (some ⟨b60, 0, none⟩) 4 4, iv 68, re.v] 78, .blk b2 [iv vk, iv vn, bs.v, ss.v, pl.v] 27] V5 w := H.sx
  obtain ⟨Vb, hVb, H, hb67⟩ := H0.freezeBlk
  clear H0
  obtain ⟨Vc, hVc, H, hb2⟩ := H.freezeBlk
  obtain ⟨Va, hVaE⟩ : ∃ Va, Va = Vc := ⟨_, rfl⟩
  have hVa : Sub V5 Va := by rw [hVaE]; exact hVb.trans hVc
  rw [← hVaE] at H hb2
  replace hb67 := hb67.cells.sub' hVc
  rw [← hVaE] at hb67
  have z0 := hb2.cel (i := 0) rfl
  have z1 := hb2.cel (i := 1) rfl
  have z2 := hb2.cel (i := 2) rfl
  have z3 := hb2.cel (i := 3) rfl
  have z4 := hb2.cel (i := 4) rfl
  have hown : SlF chkG Va ⟨some ⟨b67, 0, none⟩, 2, 2⟩ [(70, ⟨some ⟨b60, 0, none⟩, 4, 4⟩), (68, re)] := ⟨rfl, Nat.le_refl _, hb67⟩
  have hfb : Byt V4 ⟨some ⟨b60, 0, none⟩, 4, 4⟩ (frmB rate ch c) := ⟨rfl, Nat.le_refl _, hb60.cells⟩
  have hpo : Pw ChkAtG Va [(70, ⟨some ⟨b60, 0, none⟩, 4, 4⟩), (68, re)] (sndOwn rate ch c (sndVals sb 1 ch)) := ⟨rfl, fun k x y hx hy => by
    match k, hx, hy with
    | 0, hx, hy => cases hx; cases hy; exact ⟨rfl, (hfb.up hV5).up hVa⟩
    | 1, hx, hy => cases hx; cases hy; exact ⟨rfl, hre.up hVa⟩
    | k + 2, hx, hy => simp at hx⟩
  ((repeat ((conv => whnf); first | refine an ?_ | refine H.ce ?_ | refine H.db ?_ | refine ea ?_ | refine ol ?_ | (refine H.st ?_; (conv => whnf); clear H; intro w H) | refine cT ?_ | refine cF ?_ | refine cN ?_ | refine cM ?_ | refine H.lw ?_ | refine H.ll ?_)); (conv => whnf))
  ((first | refine Rel.nwD H ?_ | refine Rel.nw H ?_); clear H; intro w bm H)
  ((repeat ((conv => whnf); first | refine an ?_ | refine H.ce ?_ | refine H.db ?_ | refine ea ?_ | refine ol ?_ | (refine H.st ?_; (conv => whnf); clear H; intro w H) | refine cT ?_ | refine cF ?_ | refine cN ?_ | refine cM ?_ | refine H.lw ?_ | refine H.ll ?_)); (conv => whnf))
  refine Rel.convBB (l := magicB) Try.underlying22 Try.underlying5 H rfl ?_
  clear H
  intro V6 w hV6 hm H
  have hV26 := (((hV3.trans hV4).trans hV5).trans hVa).trans hV6
  have hVV6 := hV2.trans hV26
  replace hown := hown.up hV6
  replace z0 := hV6.cell z0
  replace z1 := hV6.cell z1
  replace z2 := hV6.cell z2
  replace z3 := hV6.cell z3
  replace z4 := hV6.cell z4
  replace hpo := hpo.up ChkAtG.up hV6
  replace hns := hns.up hV26
  replace hps := hps.up hV26
  replace hnw := hnw.up ChkAtG.up hV26
  have hnl1 := hns.len
  have hnl2 := hnw.len
  rw [List.length_map] at hnl2
  obtain ⟨cs, hcs⟩ : ∃ cs, cs = weave (ns.length + 2) 0 ns (sndOwn rate ch c (sndVals sb 1 ch)) := ⟨_, rfl⟩
  have hcl : cs.length = ns.length + 2 := by rw [hcs, weave_len]
  have hO : O = magicB ++ (cs.flatMap putChk ++ [0]) := by rw [hO, hcs]; rfl
  ((repeat ((conv => whnf); first | refine an ?_ | ((first | refine H.nwD ?_ | refine H.nw ?_); clear H; intro w _ H) | refine H.ce ?_ | refine H.db ?_ | refine ea ?_ | refine ol ?_ | (refine H.st ?_; (conv => whnf); clear H; intro w H) | refine cT ?_ | refine cF ?_ | refine cN ?_ | refine cM ?_ | refine H.lw ?_ | refine H.ll ?_)); (conv => whnf))
  refine loop_inv (S := GSt × Sl) tabOk [0, 1, 2, 6, 9, 10, 11, 12, 15, 18, 19, 20, 23, 32, 131] (fun k => [(7, k.1.t7.v), (8, k.1.t8.v), (13, k.1.t13.v), (14, k.2.v), (16, iv k.1.i)]) (fun k w' => GInv V6 cs (ns.length + 2) k.1 ∧ ((k.1.i = 0 ∧ k.2 = ⟨some ⟨bm, 0, none⟩, 4, 4⟩ ∧ Rel W V [] V6 w') ∨ (0 < k.1.i ∧ Rel W V [.row k.2 5 1 ((magicB ++ (cs.take k.1.i).flatMap putChk).flatMap byC)] V6 w'))) (fun k _ => ns.length + 2 - k.1.i) (⟨0, rn, os, rp, ns, ⟨some ⟨b67, 0, none⟩, 2, 2⟩, [(70, ⟨some ⟨b60, 0, none⟩, 4, 4⟩), (68, re)], sndOwn rate ch c (sndVals sb 1 ch)⟩, ⟨some ⟨bm, 0, none⟩, 4, 4⟩) ?_
  (conv => whnf)
  refine ⟨(by repeat (first | exact trivial | refine ⟨rfl, ?_⟩)), ⟨⟨by dsimp only; omega, WS.start hno rfl, by rw [hcs]; rfl, hns, hnw, hps, hown, hpo, by simp⟩, .inl ⟨rfl, rfl, H⟩⟩, ?_⟩
  clear H
  rintro ⟨k, out⟩ w ⟨hI, hout⟩
  dsimp only at hI hout ⊢
  have hki := hI.le
  have hsz := flat_putChk_leG hI.ok
  have hsz2 : (cs.take k.i).length ≤ 1002 := by rw [List.length_take]; omega
  have hsz3 := Nat.mul_le_mul_right 65538 hsz2
  by_cases hlt : k.i < ns.length + 2
  rotate_left
  · rcases hout with ⟨h0, _⟩ | ⟨_, H⟩
    · omega
    rw [List.take_of_length_le (by omega)] at H hsz
    ((repeat ((conv => whnf); first | refine an ?_ | ((first | refine H.nwD ?_ | refine H.nw ?_); clear H; intro w _ H) | refine H.ce ?_ | refine H.db ?_ | refine ea ?_ | refine ol ?_ | (refine H.st ?_; (conv => whnf); clear H; intro w H) | refine cT ?_ | refine cF ?_ | refine cN ?_ | refine cM ?_ | refine H.lw ?_ | refine H.ll ?_)); (conv => whnf))
    refine Rel.app1_0 (f := byC) (l := magicB ++ cs.flatMap putChk) (x := 0) tabOk rfl rfl rfl rfl rfl (by decide) (fun _ => rfl) (List.all_eq_true.1 rfl) H (by simp only [List.length_append, List.length_cons, List.length_nil]; omega) (by simp only [List.length_append, List.length_cons, List.length_nil]; omega) ?_
    clear H
    intro ro w H
    rw [List.append_assoc, ← hO] at H
    obtain ⟨V7, hV7, H, hro⟩ := Rel.freezeF H (fun _ => rfl) (by decide)
    replace z0 := hV7.cell z0
    replace z1 := hV7.cell z1
    replace z2 := hV7.cell z2
    replace z3 := hV7.cell z3
    replace z4 := hV7.cell z4
    have hrl := hro.len
    have hVV7 := hVV6.trans hV7
    by_cases hO1 : 1000 < O.length
    · have hno : sndMake v b = none := by rw [hmk, if_neg]; intro h; omega
      rw [hno]
      ((repeat ((conv => whnf); first | refine an ?_ | ((first | refine H.nwD ?_ | refine H.nw ?_); clear H; intro w _ H) | refine H.ce ?_ | refine H.db ?_ | refine ea ?_ | refine ol ?_ | (refine H.st ?_; (conv => whnf); clear H; intro w H) | refine cT ?_ | refine cF ?_ | refine cN ?_ | refine cM ?_ | refine H.lw ?_ | refine H.ll ?_)); (conv => whnf))
      exact ⟨V7, ⟨none, 0, 0⟩, [], false, hVV7, H.sx, rfl, SlF.nil _ _, rfl⟩
    ((repeat ((conv => whnf); first | refine an ?_ | ((first | refine H.nwD ?_ | refine H.nw ?_); clear H; intro w _ H) | refine H.ce ?_ | refine H.db ?_ | refine ea ?_ | refine ol ?_ | (refine H.st ?_; (conv => whnf); clear H; intro w H) | refine cT ?_ | refine cF ?_ | refine cN ?_ | refine cM ?_ | refine H.lw ?_ | refine H.ll ?_)); (conv => whnf))
    refine (soundTo_ref H.data hro (by omega)).use ?_
    rintro q w ⟨V8, hh, rr, wv, wr, hV8, K, hvv, hrr, hto⟩
    (have hKb := K.base; replace H := Rel.call H K)
    simp only [List.cons_append, List.nil_append] at H
    have hVV8 := hVV7.trans hV8
    replace z0 := hV8.cell z0
    replace z1 := hV8.cell z1
    replace z2 := hV8.cell z2
    replace z3 := hV8.cell z3
    replace z4 := hV8.cell z4
    cases ht : sndTo O with
    | none =>
      rw [ht] at hto
      dsimp only at hto
      subst hto
      have hno : sndMake v b = none := by rw [hmk, if_neg]; intro h; rw [ht] at h; cases h.2
      rw [hno]
      ((repeat ((conv => whnf); first | refine an ?_ | refine H.ce ?_ | refine H.db ?_ | refine ea ?_ | refine ol ?_ | (refine H.st ?_; (conv => whnf); clear H; intro w H) | refine cT ?_ | refine cF ?_ | refine cN ?_ | refine cM ?_ | refine H.lw ?_ | refine H.ll ?_)); (conv => whnf))
      ((first | refine Rel.nwD H ?_ | refine Rel.nw H ?_); clear H; intro w b18 H)
      ((repeat ((conv => whnf); first | refine an ?_ | ((first | refine H.nwD ?_ | refine H.nw ?_); clear H; intro w _ H) | refine H.ce ?_ | refine H.db ?_ | refine ea ?_ | refine ol ?_ | (refine H.st ?_; (conv => whnf); clear H; intro w H) | refine cT ?_ | refine cF ?_ | refine cN ?_ | refine cM ?_ | refine H.lw ?_ | refine H.ll ?_)); (conv => whnf))
      exact ⟨V8, ro, O, false, hVV8, H.sx, rfl, hro.up hV8, rfl⟩
    | some y =>
      rw [ht] at hto
      obtain ⟨rfl, rfl⟩ := hto
      have hto := sndTo_file ht
      obtain ⟨X, hX, hvfw, hwv, _⟩ := hto
      obtain ⟨m1, m2, m3, m4, m5, m6, m7⟩ := snd_small (by omega) hX
      have hBw : VB 1099511627776 wv := by
        rw [hwv]
        exact (vb_snd (by constructor <;> omega) (by constructor <;> omega) (by rw [sndPcm_len]; omega)).mono (by omega)
      ((repeat ((conv => whnf); first | refine an ?_ | refine H.ce ?_ | refine H.db ?_ | refine ea ?_ | refine ol ?_ | (refine H.st ?_; (conv => whnf); clear H; intro w H) | refine cT ?_ | refine cF ?_ | refine cN ?_ | refine cM ?_ | refine H.lw ?_ | refine H.ll ?_)); (conv => whnf))
      ((first | refine Rel.nwD H ?_ | refine Rel.nw H ?_); clear H; intro w b18 H)
      ((repeat ((conv => whnf); first | refine an ?_ | ((first | refine H.nwD ?_ | refine H.nw ?_); clear H; intro w _ H) | refine H.ce ?_ | refine H.db ?_ | refine ea ?_ | refine ol ?_ | (refine H.st ?_; (conv => whnf); clear H; intro w H) | refine cT ?_ | refine cF ?_ | refine cN ?_ | refine cM ?_ | refine H.lw ?_ | refine H.ll ?_)); (conv => whnf))
      refine (same_value (SizeOf.sizeOf wv + 1) H.data (Nat.lt_succ_self _) hvv (hv0.up hVV8) hBw).use ?_
      rintro q w ⟨r0, rfl, hsame, K⟩
      (have hKb := K.base; replace H := Rel.call H K)
      simp only [List.cons_append, List.nil_append] at H
      cases r0 with
      | false =>
        have hne : ¬ wv = v := fun h => by have := hsame.2 h; cases this
        have hno : sndMake v b = none := by
          rw [hmk, if_neg]
          intro h
          rw [ht] at h
          exact hne (by have := h.2; cases this; rfl)
        rw [hno]
        ((repeat ((conv => whnf); first | refine an ?_ | ((first | refine H.nwD ?_ | refine H.nw ?_); clear H; intro w _ H) | refine H.ce ?_ | refine H.db ?_ | refine ea ?_ | refine ol ?_ | (refine H.st ?_; (conv => whnf); clear H; intro w H) | refine cT ?_ | refine cF ?_ | refine cN ?_ | refine cM ?_ | refine H.lw ?_ | refine H.ll ?_)); (conv => whnf))
        exact ⟨V8, ro, O, false, hVV8, H.sx, rfl, hro.up hV8, rfl⟩
      | true =>
        have hwe := hsame.1 rfl
        ((repeat ((conv => whnf); first | refine an ?_ | ((first | refine H.nwD ?_ | refine H.nw ?_); clear H; intro w _ H) | refine H.ce ?_ | refine H.db ?_ | refine ea ?_ | refine ol ?_ | (refine H.st ?_; (conv => whnf); clear H; intro w H) | refine cT ?_ | refine cF ?_ | refine cN ?_ | refine cM ?_ | refine H.lw ?_ | refine H.ll ?_)); (conv => whnf))
        refine (bytes_ref H.data hrr (hs.up hVV8)).use ?_
        rintro q w ⟨rfl, K⟩
        (have hKb := K.base; replace H := Rel.call H K)
        simp only [List.cons_append, List.nil_append] at H
        ((repeat ((conv => whnf); first | refine an ?_ | ((first | refine H.nwD ?_ | refine H.nw ?_); clear H; intro w _ H) | refine H.ce ?_ | refine H.db ?_ | refine ea ?_ | refine ol ?_ | (refine H.st ?_; (conv => whnf); clear H; intro w H) | refine cT ?_ | refine cF ?_ | refine cN ?_ | refine cM ?_ | refine H.lw ?_ | refine H.ll ?_)); (conv => whnf))
        refine ⟨V8, ro, O, _, hVV8, H.sx, rfl, hro.up hV8, ?_⟩
        rw [hmk, ht, hwe]
        by_cases hwb : wr = b
        · rw [if_pos ⟨by omega, by rw [hwb]⟩]
          exact ⟨decide_eq_true hwb, rfl⟩
        · rw [if_neg (by rintro ⟨_, h⟩; cases h; exact hwb rfl)]
          exact decide_eq_false hwb
  rcases hI.step hcl hlt with ⟨x, xt, m, r, e1, e2, e3, e5, e6, e7⟩ | ⟨x, xt, d, r, e1, e2, e3, e4, e5, e6⟩
  · have n1 := hI.n1
    rw [e1] at n1
    have p1 := hI.p1
    rw [e2, List.map_cons, e5] at p1
    have hnl1 := n1.len
    have hpl1 := p1.len
    simp only [List.length_cons] at hnl1 hpl1
    obtain ⟨hpn, q1, q2⟩ := n1.at2 (g := fun x : ChkG => iv x.1) (g' := fun x : ChkG => x.2.v) (fun _ => rfl) (i := 0) (by simp)
    obtain ⟨hpp, q3⟩ := p1.at1 (g := iv) (fun _ => rfl) (i := 0) (by simp)
    simp only [List.getElem_cons_zero] at q1 q2 q3
    obtain ⟨hxi, hcd⟩ := e3
    rw [hxi] at q1
    have hdl := hcd.len
    rcases hout with ⟨h0, rfl, H⟩ | ⟨h0, H⟩
    · ((repeat ((conv => whnf); first | refine an ?_ | refine H.ce ?_ | refine H.db ?_ | refine ea ?_ | refine ol ?_ | (refine H.st ?_; (conv => whnf); clear H; intro w H) | refine cT ?_ | refine cF ?_ | refine cN ?_ | refine cM ?_ | refine H.lw ?_ | refine H.ll ?_)); (conv => whnf))
      ((first | refine Rel.nwD H ?_ | refine Rel.nw H ?_); clear H; intro w b17 H)
      ((repeat ((conv => whnf); first | refine an ?_ | ((first | refine H.nwD ?_ | refine H.nw ?_); clear H; intro w _ H) | refine H.ce ?_ | refine H.db ?_ | refine ea ?_ | refine ol ?_ | (refine H.st ?_; (conv => whnf); clear H; intro w H) | refine cT ?_ | refine cF ?_ | refine cN ?_ | refine cM ?_ | refine H.lw ?_ | refine H.ll ?_)); (conv => whnf))
      by_cases hbig : 65535 < (m.2).2.length
      · have hno : sndMake v b = none := by
          rw [hmk, if_neg]
          intro h
          have h1 := flat_ge (List.mem_of_getElem? (l := cs) (by assumption) : (m.2) ∈ cs)
          have h2 := congrArg List.length hO
          simp only [List.length_append] at h2
          omega
        rw [hno]
        ((repeat ((conv => whnf); first | refine an ?_ | ((first | refine H.nwD ?_ | refine H.nw ?_); clear H; intro w _ H) | refine H.ce ?_ | refine H.db ?_ | refine ea ?_ | refine ol ?_ | (refine H.st ?_; (conv => whnf); clear H; intro w H) | refine cT ?_ | refine cF ?_ | refine cN ?_ | refine cM ?_ | refine H.lw ?_ | refine H.ll ?_)); (conv => whnf))
        exact ⟨V6, ⟨none, 0, 0⟩, [], false, hVV6, H.sx, rfl, SlF.nil _ _, rfl⟩
      obtain ⟨V7, hV7, H, hb17⟩ := H.freezeBlk
      have y0 := hb17.cel (i := 0) rfl
      have y1 := hb17.cel (i := 1) rfl
      have hdat : Byt V7 (x.2) (m.2).2 := hcd.up hV7
      have hnx := putChk_next (cs := cs) (i := k.i) (c := m.2) (by assumption)
      have hml : (magicB ++ (cs.take k.i).flatMap putChk).length ≤ 70000000 := by
        rw [List.length_append]
        simp only [List.length_cons, List.length_nil]
        omega
      ((repeat ((conv => whnf); first | refine an ?_ | ((first | refine H.nwD ?_ | refine H.nw ?_); clear H; intro w _ H) | refine H.ce ?_ | refine H.db ?_ | refine ea ?_ | refine ol ?_ | (refine H.st ?_; (conv => whnf); clear H; intro w H) | refine cT ?_ | refine cF ?_ | refine cN ?_ | refine cM ?_ | refine H.lw ?_ | refine H.ll ?_)); (conv => whnf))
      ((first | refine draw_vcTX (id := 29) tabOk mixed (Kv V7) Kv.trans [14, 15] [17] [0, 1, 2, 3, 4, 5, 6, 7, 8, 9, 10, 11, 12, 13, 16, 17, 14, 15, 18, 19] [(14, []), (15, [14]), (18, [14, 15])] (by kernel_rfl) ?_); intro w hdw; replace H := Rel.ext H hdw.ext)
      repeat' (((repeat ((conv => whnf); first | refine an ?_ | refine H.ce ?_ | refine H.db ?_ | refine ea ?_ | refine ol ?_ | (refine H.st ?_; (conv => whnf); clear H; intro w H) | refine cT ?_ | refine cF ?_ | refine cN ?_ | refine cM ?_ | refine H.lw ?_ | refine H.ll ?_)); (conv => whnf)); (first | refine Kv.go H ?_ | (refine And.intro (fun w1 hkp => ?_) ?_; focus (have H := Kv.in H hkp; repeat ((conv => whnf); first | refine an ?_ | refine H.ce ?_ | refine H.db ?_ | refine ea ?_ | refine ol ?_ | refine H.lw ?_ | refine H.ll ?_); (conv => whnf); all_goals (first | exact ⟨rfl, rfl⟩ | exact rfl))) | refine And.intro ?_ ?_ | ((first | refine Rel.nwD H ?_ | refine Rel.nw H ?_); clear H; intro w _ H)))
      ((repeat ((conv => whnf); first | refine an ?_ | refine H.ce ?_ | refine H.db ?_ | refine ea ?_ | refine ol ?_ | (refine H.st ?_; (conv => whnf); clear H; intro w H) | refine cT ?_ | refine cF ?_ | refine cN ?_ | refine cM ?_ | refine H.lw ?_ | refine H.ll ?_)); (conv => whnf))
      replace H := H.blkEq (chkG_cells (m.2).1 (x.2).len (by omega) rfl rfl rfl)
      rw [hdl] at H
      have hi0 : cs.take k.i = [] := by rw [h0]; rfl
      refine Rel.appFull (s := ⟨some ⟨bm, 0, none⟩, 4, 4⟩) (x := ⟨some ⟨_, 0, none⟩, 3, 3⟩) (xs := magicB.flatMap byC) (ys := [(m.2).1, UInt8.ofNat ((m.2).2.length / 256), UInt8.ofNat ((m.2).2.length % 256)].flatMap byC) tabOk rfl rfl rfl rfl rfl (by decide) H ((hm.up hV7).up H.data).cells rfl rfl H.bk_0.cells rfl (by show 0 < 3; decide) (by show (4 + 3) * 1 ≤ 140737488355328; decide) (by show 4 + 3 ≤ 4611686018427387904; decide) ?_
      clear H
      intro r1 w hxe H _
      rw [← List.flatMap_append, show magicB = magicB ++ (cs.take k.i).flatMap putChk by rw [hi0]; rfl] at H
      repeat' (((repeat ((conv => whnf); first | refine an ?_ | refine H.ce ?_ | refine H.db ?_ | refine ea ?_ | refine ol ?_ | (refine H.st ?_; (conv => whnf); clear H; intro w H) | refine cT ?_ | refine cF ?_ | refine cN ?_ | refine cM ?_ | refine H.lw ?_ | refine H.ll ?_)); (conv => whnf)); (first | refine Kv.go H ?_ | (refine And.intro (fun w1 hkp => ?_) ?_; focus (have H := Kv.in H hkp; repeat ((conv => whnf); first | refine an ?_ | refine H.ce ?_ | refine H.db ?_ | refine ea ?_ | refine ol ?_ | refine H.lw ?_ | refine H.ll ?_); (conv => whnf); all_goals (first | exact ⟨rfl, rfl⟩ | exact rfl))) | refine And.intro ?_ ?_ | ((first | refine Rel.nwD H ?_ | refine Rel.nw H ?_); clear H; intro w _ H)))
      have H0 : Rel W V [.row r1 5 1 ((magicB ++ (cs.take k.i).flatMap putChk ++ [(m.2).1, UInt8.ofNat ((m.2).2.length / 256), UInt8.ofNat ((m.2).2.length % 256)]).flatMap byC)] V7 w := H.sx
      obtain ⟨V8, hV8, H, hr1⟩ := Rel.freezeF H0 (fun _ => rfl) (by decide)
      clear H0
      ((repeat ((conv => whnf); first | refine an ?_ | refine H.ce ?_ | refine H.db ?_ | refine ea ?_ | refine ol ?_ | (refine H.st ?_; (conv => whnf); clear H; intro w H) | refine cT ?_ | refine cF ?_ | refine cN ?_ | refine cM ?_ | refine H.lw ?_ | refine H.ll ?_)); (conv => whnf))
      refine (join_ref H.data hr1 (hdat.up hV8) (by simp only [List.length_append, List.length_cons, List.length_nil] at hml ⊢; omega)).use ?_
      rintro q w ⟨r2, rfl, K⟩
      (have hKb := K.base; replace H := Rel.call H K)
      rw [← hnx] at H
      have H1 : Rel W V [.row r2 5 1 ((magicB ++ (cs.take (k.i + 1)).flatMap putChk).flatMap byC)] V8 w := H
      clear H
      have H := H1.less hVV6 (hV7.trans hV8)
      clear H1
      ((repeat ((conv => whnf); first | refine an ?_ | ((first | refine H.nwD ?_ | refine H.nw ?_); clear H; intro w _ H) | refine H.ce ?_ | refine H.db ?_ | refine ea ?_ | refine ol ?_ | (refine H.st ?_; (conv => whnf); clear H; intro w H) | refine cT ?_ | refine cF ?_ | refine cN ?_ | refine cM ?_ | refine H.lw ?_ | refine H.ll ?_)); (conv => whnf))
      exact ⟨(by repeat (first | exact trivial | refine ⟨rfl, ?_⟩)), (⟨k.i + 1, ⟨subA k.t7.a 1 k.t7.cap 2, k.t7.len - 1, k.t7.cap - 1⟩, xt, ⟨subA k.t8.a 1 k.t8.cap 1, k.t8.len - 1, k.t8.cap - 1⟩, r, k.t13, k.hs, k.o⟩, r2), (by repeat (first | exact trivial | refine ⟨rfl, ?_⟩)), ⟨e7 (by omega), .inr ⟨by dsimp only; omega, H.sx⟩⟩, by dsimp only; omega⟩
    · ((repeat ((conv => whnf); first | refine an ?_ | refine H.ce ?_ | refine H.db ?_ | refine ea ?_ | refine ol ?_ | (refine H.st ?_; (conv => whnf); clear H; intro w H) | refine cT ?_ | refine cF ?_ | refine cN ?_ | refine cM ?_ | refine H.lw ?_ | refine H.ll ?_)); (conv => whnf))
      ((first | refine Rel.nwD H ?_ | refine Rel.nw H ?_); clear H; intro w b17 H)
      ((repeat ((conv => whnf); first | refine an ?_ | ((first | refine H.nwD ?_ | refine H.nw ?_); clear H; intro w _ H) | refine H.ce ?_ | refine H.db ?_ | refine ea ?_ | refine ol ?_ | (refine H.st ?_; (conv => whnf); clear H; intro w H) | refine cT ?_ | refine cF ?_ | refine cN ?_ | refine cM ?_ | refine H.lw ?_ | refine H.ll ?_)); (conv => whnf))
      by_cases hbig : 65535 < (m.2).2.length
      · have hno : sndMake v b = none := by
          rw [hmk, if_neg]
          intro h
          have h1 := flat_ge (List.mem_of_getElem? (l := cs) (by assumption) : (m.2) ∈ cs)
          have h2 := congrArg List.length hO
          simp only [List.length_append] at h2
          omega
        rw [hno]
        ((repeat ((conv => whnf); first | refine an ?_ | ((first | refine H.nwD ?_ | refine H.nw ?_); clear H; intro w _ H) | refine H.ce ?_ | refine H.db ?_ | refine ea ?_ | refine ol ?_ | (refine H.st ?_; (conv => whnf); clear H; intro w H) | refine cT ?_ | refine cF ?_ | refine cN ?_ | refine cM ?_ | refine H.lw ?_ | refine H.ll ?_)); (conv => whnf))
        exact ⟨V6, ⟨none, 0, 0⟩, [], false, hVV6, H.sx, rfl, SlF.nil _ _, rfl⟩
      obtain ⟨V7, hV7, H, hb17⟩ := H.freezeBlk
      have y0 := hb17.cel (i := 0) rfl
      have y1 := hb17.cel (i := 1) rfl
      have hdat : Byt V7 (x.2) (m.2).2 := hcd.up hV7
      have hnx := putChk_next (cs := cs) (i := k.i) (c := m.2) (by assumption)
      have hml : (magicB ++ (cs.take k.i).flatMap putChk).length ≤ 70000000 := by
        rw [List.length_append]
        simp only [List.length_cons, List.length_nil]
        omega
      ((repeat ((conv => whnf); first | refine an ?_ | ((first | refine H.nwD ?_ | refine H.nw ?_); clear H; intro w _ H) | refine H.ce ?_ | refine H.db ?_ | refine ea ?_ | refine ol ?_ | (refine H.st ?_; (conv => whnf); clear H; intro w H) | refine cT ?_ | refine cF ?_ | refine cN ?_ | refine cM ?_ | refine H.lw ?_ | refine H.ll ?_)); (conv => whnf))
      ((first | refine draw_vcTX (id := 29) tabOk mixed (Kv V7) Kv.trans [14, 15] [17] [0, 1, 2, 3, 4, 5, 6, 7, 8, 9, 10, 11, 12, 13, 16, 17, 14, 15, 18, 19] [(14, []), (15, [14]), (18, [14, 15])] (by kernel_rfl) ?_); intro w hdw; replace H := Rel.ext H hdw.ext)
      repeat' (((repeat ((conv => whnf); first | refine an ?_ | refine H.ce ?_ | refine H.db ?_ | refine ea ?_ | refine ol ?_ | (refine H.st ?_; (conv => whnf); clear H; intro w H) | refine cT ?_ | refine cF ?_ | refine cN ?_ | refine cM ?_ | refine H.lw ?_ | refine H.ll ?_)); (conv => whnf)); (first | refine Kv.go H ?_ | (refine And.intro (fun w1 hkp => ?_) ?_; focus (have H := Kv.in H hkp; repeat ((conv => whnf); first | refine an ?_ | refine H.ce ?_ | refine H.db ?_ | refine ea ?_ | refine ol ?_ | refine H.lw ?_ | refine H.ll ?_); (conv => whnf); all_goals (first | exact ⟨rfl, rfl⟩ | exact rfl))) | refine And.intro ?_ ?_ | ((first | refine Rel.nwD H ?_ | refine Rel.nw H ?_); clear H; intro w _ H)))
      ((repeat ((conv => whnf); first | refine an ?_ | refine H.ce ?_ | refine H.db ?_ | refine ea ?_ | refine ol ?_ | (refine H.st ?_; (conv => whnf); clear H; intro w H) | refine cT ?_ | refine cF ?_ | refine cN ?_ | refine cM ?_ | refine H.lw ?_ | refine H.ll ?_)); (conv => whnf))
      replace H := H.blkEq (chkG_cells (m.2).1 (x.2).len (by omega) rfl rfl rfl)
      rw [hdl] at H
      replace H := H.toRow (n := 3) (e := 5) (sz := 1) rfl (by simp [maxLen])
      refine Rel.appB H (i := 0) rfl (by simp only [List.length_cons, List.length_nil]; omega) ?_
      clear H
      intro r1 w H
      simp only [List.set_cons_zero] at H
      repeat' (((repeat ((conv => whnf); first | refine an ?_ | refine H.ce ?_ | refine H.db ?_ | refine ea ?_ | refine ol ?_ | (refine H.st ?_; (conv => whnf); clear H; intro w H) | refine cT ?_ | refine cF ?_ | refine cN ?_ | refine cM ?_ | refine H.lw ?_ | refine H.ll ?_)); (conv => whnf)); (first | refine Kv.go H ?_ | (refine And.intro (fun w1 hkp => ?_) ?_; focus (have H := Kv.in H hkp; repeat ((conv => whnf); first | refine an ?_ | refine H.ce ?_ | refine H.db ?_ | refine ea ?_ | refine ol ?_ | refine H.lw ?_ | refine H.ll ?_); (conv => whnf); all_goals (first | exact ⟨rfl, rfl⟩ | exact rfl))) | refine And.intro ?_ ?_ | ((first | refine Rel.nwD H ?_ | refine Rel.nw H ?_); clear H; intro w _ H)))
      have H0 : Rel W V [.row r1 5 1 ((magicB ++ (cs.take k.i).flatMap putChk ++ [(m.2).1, UInt8.ofNat ((m.2).2.length / 256), UInt8.ofNat ((m.2).2.length % 256)]).flatMap byC)] V7 w := H.sx
      obtain ⟨V8, hV8, H, hr1⟩ := Rel.freezeF H0 (fun _ => rfl) (by decide)
      clear H0
      ((repeat ((conv => whnf); first | refine an ?_ | refine H.ce ?_ | refine H.db ?_ | refine ea ?_ | refine ol ?_ | (refine H.st ?_; (conv => whnf); clear H; intro w H) | refine cT ?_ | refine cF ?_ | refine cN ?_ | refine cM ?_ | refine H.lw ?_ | refine H.ll ?_)); (conv => whnf))
      refine (join_ref H.data hr1 (hdat.up hV8) (by simp only [List.length_append, List.length_cons, List.length_nil] at hml ⊢; omega)).use ?_
      rintro q w ⟨r2, rfl, K⟩
      (have hKb := K.base; replace H := Rel.call H K)
      rw [← hnx] at H
      have H1 : Rel W V [.row r2 5 1 ((magicB ++ (cs.take (k.i + 1)).flatMap putChk).flatMap byC)] V8 w := H
      clear H
      have H := H1.less hVV6 (hV7.trans hV8)
      clear H1
      ((repeat ((conv => whnf); first | refine an ?_ | ((first | refine H.nwD ?_ | refine H.nw ?_); clear H; intro w _ H) | refine H.ce ?_ | refine H.db ?_ | refine ea ?_ | refine ol ?_ | (refine H.st ?_; (conv => whnf); clear H; intro w H) | refine cT ?_ | refine cF ?_ | refine cN ?_ | refine cM ?_ | refine H.lw ?_ | refine H.ll ?_)); (conv => whnf))
      exact ⟨(by repeat (first | exact trivial | refine ⟨rfl, ?_⟩)), (⟨k.i + 1, ⟨subA k.t7.a 1 k.t7.cap 2, k.t7.len - 1, k.t7.cap - 1⟩, xt, ⟨subA k.t8.a 1 k.t8.cap 1, k.t8.len - 1, k.t8.cap - 1⟩, r, k.t13, k.hs, k.o⟩, r2), (by repeat (first | exact trivial | refine ⟨rfl, ?_⟩)), ⟨e7 (by omega), .inr ⟨by dsimp only; omega, H.sx⟩⟩, by dsimp only; omega⟩
  · have o1 := hI.o1
    rw [e1] at o1
    have hnl1 := o1.len
    simp only [List.length_cons] at hnl1
    obtain ⟨hpn, q1, q2⟩ := o1.at2 (g := fun x : ChkG => iv x.1) (g' := fun x : ChkG => x.2.v) (fun _ => rfl) (i := 0) (by simp)
    simp only [List.getElem_cons_zero] at q1 q2
    obtain ⟨hxi, hcd⟩ := e3
    rw [hxi] at q1
    have hdl := hcd.len
    have p1 := hI.p1
    have hpl1 := p1.len
    rw [List.length_map] at hpl1
    cases hnr : k.nr with
    | nil =>
      rw [hnr] at hpl1
      simp only [List.length_nil] at hpl1
      rcases hout with ⟨h0, rfl, H⟩ | ⟨h0, H⟩
      · ((repeat ((conv => whnf); first | refine an ?_ | refine H.ce ?_ | refine H.db ?_ | refine ea ?_ | refine ol ?_ | (refine H.st ?_; (conv => whnf); clear H; intro w H) | refine cT ?_ | refine cF ?_ | refine cN ?_ | refine cM ?_ | refine H.lw ?_ | refine H.ll ?_)); (conv => whnf))
        ((first | refine Rel.nwD H ?_ | refine Rel.nw H ?_); clear H; intro w b17 H)
        ((repeat ((conv => whnf); first | refine an ?_ | ((first | refine H.nwD ?_ | refine H.nw ?_); clear H; intro w _ H) | refine H.ce ?_ | refine H.db ?_ | refine ea ?_ | refine ol ?_ | (refine H.st ?_; (conv => whnf); clear H; intro w H) | refine cT ?_ | refine cF ?_ | refine cN ?_ | refine cM ?_ | refine H.lw ?_ | refine H.ll ?_)); (conv => whnf))
        by_cases hbig : 65535 < (d).2.length
        · have hno : sndMake v b = none := by
            rw [hmk, if_neg]
            intro h
            have h1 := flat_ge (List.mem_of_getElem? (l := cs) (by assumption) : (d) ∈ cs)
            have h2 := congrArg List.length hO
            simp only [List.length_append] at h2
            omega
          rw [hno]
          ((repeat ((conv => whnf); first | refine an ?_ | ((first | refine H.nwD ?_ | refine H.nw ?_); clear H; intro w _ H) | refine H.ce ?_ | refine H.db ?_ | refine ea ?_ | refine ol ?_ | (refine H.st ?_; (conv => whnf); clear H; intro w H) | refine cT ?_ | refine cF ?_ | refine cN ?_ | refine cM ?_ | refine H.lw ?_ | refine H.ll ?_)); (conv => whnf))
          exact ⟨V6, ⟨none, 0, 0⟩, [], false, hVV6, H.sx, rfl, SlF.nil _ _, rfl⟩
        obtain ⟨V7, hV7, H, hb17⟩ := H.freezeBlk
        have y0 := hb17.cel (i := 0) rfl
        have y1 := hb17.cel (i := 1) rfl
        have hdat : Byt V7 (x.2) (d).2 := hcd.up hV7
        have hnx := putChk_next (cs := cs) (i := k.i) (c := d) (by assumption)
        have hml : (magicB ++ (cs.take k.i).flatMap putChk).length ≤ 70000000 := by
          rw [List.length_append]
          simp only [List.length_cons, List.length_nil]
          omega
        ((repeat ((conv => whnf); first | refine an ?_ | ((first | refine H.nwD ?_ | refine H.nw ?_); clear H; intro w _ H) | refine H.ce ?_ | refine H.db ?_ | refine ea ?_ | refine ol ?_ | (refine H.st ?_; (conv => whnf); clear H; intro w H) | refine cT ?_ | refine cF ?_ | refine cN ?_ | refine cM ?_ | refine H.lw ?_ | refine H.ll ?_)); (conv => whnf))
        ((first | refine draw_vcTX (id := 29) tabOk mixed (Kv V7) Kv.trans [14, 15] [17] [0, 1, 2, 3, 4, 5, 6, 7, 8, 9, 10, 11, 12, 13, 16, 17, 14, 15, 18, 19] [(14, []), (15, [14]), (18, [14, 15])] (by kernel_rfl) ?_); intro w hdw; replace H := Rel.ext H hdw.ext)
        repeat' (((repeat ((conv => whnf); first | refine an ?_ | refine H.ce ?_ | refine H.db ?_ | refine ea ?_ | refine ol ?_ | (refine H.st ?_; (conv => whnf); clear H; intro w H) | refine cT ?_ | refine cF ?_ | refine cN ?_ | refine cM ?_ | refine H.lw ?_ | refine H.ll ?_)); (conv => whnf)); (first | refine Kv.go H ?_ | (refine And.intro (fun w1 hkp => ?_) ?_; focus (have H := Kv.in H hkp; repeat ((conv => whnf); first | refine an ?_ | refine H.ce ?_ | refine H.db ?_ | refine ea ?_ | refine ol ?_ | refine H.lw ?_ | refine H.ll ?_); (conv => whnf); all_goals (first | exact ⟨rfl, rfl⟩ | exact rfl))) | refine And.intro ?_ ?_ | ((first | refine Rel.nwD H ?_ | refine Rel.nw H ?_); clear H; intro w _ H)))
        ((repeat ((conv => whnf); first | refine an ?_ | refine H.ce ?_ | refine H.db ?_ | refine ea ?_ | refine ol ?_ | (refine H.st ?_; (conv => whnf); clear H; intro w H) | refine cT ?_ | refine cF ?_ | refine cN ?_ | refine cM ?_ | refine H.lw ?_ | refine H.ll ?_)); (conv => whnf))
        replace H := H.blkEq (chkG_cells (d).1 (x.2).len (by omega) rfl rfl rfl)
        rw [hdl] at H
        have hi0 : cs.take k.i = [] := by rw [h0]; rfl
        refine Rel.appFull (s := ⟨some ⟨bm, 0, none⟩, 4, 4⟩) (x := ⟨some ⟨_, 0, none⟩, 3, 3⟩) (xs := magicB.flatMap byC) (ys := [(d).1, UInt8.ofNat ((d).2.length / 256), UInt8.ofNat ((d).2.length % 256)].flatMap byC) tabOk rfl rfl rfl rfl rfl (by decide) H ((hm.up hV7).up H.data).cells rfl rfl H.bk_0.cells rfl (by show 0 < 3; decide) (by show (4 + 3) * 1 ≤ 140737488355328; decide) (by show 4 + 3 ≤ 4611686018427387904; decide) ?_
        clear H
        intro r1 w hxe H _
        rw [← List.flatMap_append, show magicB = magicB ++ (cs.take k.i).flatMap putChk by rw [hi0]; rfl] at H
        repeat' (((repeat ((conv => whnf); first | refine an ?_ | refine H.ce ?_ | refine H.db ?_ | refine ea ?_ | refine ol ?_ | (refine H.st ?_; (conv => whnf); clear H; intro w H) | refine cT ?_ | refine cF ?_ | refine cN ?_ | refine cM ?_ | refine H.lw ?_ | refine H.ll ?_)); (conv => whnf)); (first | refine Kv.go H ?_ | (refine And.intro (fun w1 hkp => ?_) ?_; focus (have H := Kv.in H hkp; repeat ((conv => whnf); first | refine an ?_ | refine H.ce ?_ | refine H.db ?_ | refine ea ?_ | refine ol ?_ | refine H.lw ?_ | refine H.ll ?_); (conv => whnf); all_goals (first | exact ⟨rfl, rfl⟩ | exact rfl))) | refine And.intro ?_ ?_ | ((first | refine Rel.nwD H ?_ | refine Rel.nw H ?_); clear H; intro w _ H)))
        have H0 : Rel W V [.row r1 5 1 ((magicB ++ (cs.take k.i).flatMap putChk ++ [(d).1, UInt8.ofNat ((d).2.length / 256), UInt8.ofNat ((d).2.length % 256)]).flatMap byC)] V7 w := H.sx
        obtain ⟨V8, hV8, H, hr1⟩ := Rel.freezeF H0 (fun _ => rfl) (by decide)
        clear H0
        ((repeat ((conv => whnf); first | refine an ?_ | refine H.ce ?_ | refine H.db ?_ | refine ea ?_ | refine ol ?_ | (refine H.st ?_; (conv => whnf); clear H; intro w H) | refine cT ?_ | refine cF ?_ | refine cN ?_ | refine cM ?_ | refine H.lw ?_ | refine H.ll ?_)); (conv => whnf))
        refine (join_ref H.data hr1 (hdat.up hV8) (by simp only [List.length_append, List.length_cons, List.length_nil] at hml ⊢; omega)).use ?_
        rintro q w ⟨r2, rfl, K⟩
        (have hKb := K.base; replace H := Rel.call H K)
        rw [← hnx] at H
        have H1 : Rel W V [.row r2 5 1 ((magicB ++ (cs.take (k.i + 1)).flatMap putChk).flatMap byC)] V8 w := H
        clear H
        have H := H1.less hVV6 (hV7.trans hV8)
        clear H1
        ((repeat ((conv => whnf); first | refine an ?_ | ((first | refine H.nwD ?_ | refine H.nw ?_); clear H; intro w _ H) | refine H.ce ?_ | refine H.db ?_ | refine ea ?_ | refine ol ?_ | (refine H.st ?_; (conv => whnf); clear H; intro w H) | refine cT ?_ | refine cF ?_ | refine cN ?_ | refine cM ?_ | refine H.lw ?_ | refine H.ll ?_)); (conv => whnf))
        exact ⟨(by repeat (first | exact trivial | refine ⟨rfl, ?_⟩)), (⟨k.i + 1, k.t7, k.h7, k.t8, k.nr, ⟨subA k.t13.a 1 k.t13.cap 2, k.t13.len - 1, k.t13.cap - 1⟩, xt, r⟩, r2), (by repeat (first | exact trivial | refine ⟨rfl, ?_⟩)), ⟨e6 (by omega), .inr ⟨by dsimp only; omega, H.sx⟩⟩, by dsimp only; omega⟩
      · ((repeat ((conv => whnf); first | refine an ?_ | refine H.ce ?_ | refine H.db ?_ | refine ea ?_ | refine ol ?_ | (refine H.st ?_; (conv => whnf); clear H; intro w H) | refine cT ?_ | refine cF ?_ | refine cN ?_ | refine cM ?_ | refine H.lw ?_ | refine H.ll ?_)); (conv => whnf))
        ((first | refine Rel.nwD H ?_ | refine Rel.nw H ?_); clear H; intro w b17 H)
        ((repeat ((conv => whnf); first | refine an ?_ | ((first | refine H.nwD ?_ | refine H.nw ?_); clear H; intro w _ H) | refine H.ce ?_ | refine H.db ?_ | refine ea ?_ | refine ol ?_ | (refine H.st ?_; (conv => whnf); clear H; intro w H) | refine cT ?_ | refine cF ?_ | refine cN ?_ | refine cM ?_ | refine H.lw ?_ | refine H.ll ?_)); (conv => whnf))
        by_cases hbig : 65535 < (d).2.length
        · have hno : sndMake v b = none := by
            rw [hmk, if_neg]
            intro h
            have h1 := flat_ge (List.mem_of_getElem? (l := cs) (by assumption) : (d) ∈ cs)
            have h2 := congrArg List.length hO
            simp only [List.length_append] at h2
            omega
          rw [hno]
          ((repeat ((conv => whnf); first | refine an ?_ | ((first | refine H.nwD ?_ | refine H.nw ?_); clear H; intro w _ H) | refine H.ce ?_ | refine H.db ?_ | refine ea ?_ | refine ol ?_ | (refine H.st ?_; (conv => whnf); clear H; intro w H) | refine cT ?_ | refine cF ?_ | refine cN ?_ | refine cM ?_ | refine H.lw ?_ | refine H.ll ?_)); (conv => whnf))
          exact ⟨V6, ⟨none, 0, 0⟩, [], false, hVV6, H.sx, rfl, SlF.nil _ _, rfl⟩
        obtain ⟨V7, hV7, H, hb17⟩ := H.freezeBlk
        have y0 := hb17.cel (i := 0) rfl
        have y1 := hb17.cel (i := 1) rfl
        have hdat : Byt V7 (x.2) (d).2 := hcd.up hV7
        have hnx := putChk_next (cs := cs) (i := k.i) (c := d) (by assumption)
        have hml : (magicB ++ (cs.take k.i).flatMap putChk).length ≤ 70000000 := by
          rw [List.length_append]
          simp only [List.length_cons, List.length_nil]
          omega
        ((repeat ((conv => whnf); first | refine an ?_ | ((first | refine H.nwD ?_ | refine H.nw ?_); clear H; intro w _ H) | refine H.ce ?_ | refine H.db ?_ | refine ea ?_ | refine ol ?_ | (refine H.st ?_; (conv => whnf); clear H; intro w H) | refine cT ?_ | refine cF ?_ | refine cN ?_ | refine cM ?_ | refine H.lw ?_ | refine H.ll ?_)); (conv => whnf))
        ((first | refine draw_vcTX (id := 29) tabOk mixed (Kv V7) Kv.trans [14, 15] [17] [0, 1, 2, 3, 4, 5, 6, 7, 8, 9, 10, 11, 12, 13, 16, 17, 14, 15, 18, 19] [(14, []), (15, [14]), (18, [14, 15])] (by kernel_rfl) ?_); intro w hdw; replace H := Rel.ext H hdw.ext)
        repeat' (((repeat ((conv => whnf); first | refine an ?_ | refine H.ce ?_ | refine H.db ?_ | refine ea ?_ | refine ol ?_ | (refine H.st ?_; (conv => whnf); clear H; intro w H) | refine cT ?_ | refine cF ?_ | refine cN ?_ | refine cM ?_ | refine H.lw ?_ | refine H.ll ?_)); (conv => whnf)); (first | refine Kv.go H ?_ | (refine And.intro (fun w1 hkp => ?_) ?_; focus (have H := Kv.in H hkp; repeat ((conv => whnf); first | refine an ?_ | refine H.ce ?_ | refine H.db ?_ | refine ea ?_ | refine ol ?_ | refine H.lw ?_ | refine H.ll ?_); (conv => whnf); all_goals (first | exact ⟨rfl, rfl⟩ | exact rfl))) | refine And.intro ?_ ?_ | ((first | refine Rel.nwD H ?_ | refine Rel.nw H ?_); clear H; intro w _ H)))
        ((repeat ((conv => whnf); first | refine an ?_ | refine H.ce ?_ | refine H.db ?_ | refine ea ?_ | refine ol ?_ | (refine H.st ?_; (conv => whnf); clear H; intro w H) | refine cT ?_ | refine cF ?_ | refine cN ?_ | refine cM ?_ | refine H.lw ?_ | refine H.ll ?_)); (conv => whnf))
        replace H := H.blkEq (chkG_cells (d).1 (x.2).len (by omega) rfl rfl rfl)
        rw [hdl] at H
        replace H := H.toRow (n := 3) (e := 5) (sz := 1) rfl (by simp [maxLen])
        refine Rel.appB H (i := 0) rfl (by simp only [List.length_cons, List.length_nil]; omega) ?_
        clear H
        intro r1 w H
        simp only [List.set_cons_zero] at H
        repeat' (((repeat ((conv => whnf); first | refine an ?_ | refine H.ce ?_ | refine H.db ?_ | refine ea ?_ | refine ol ?_ | (refine H.st ?_; (conv => whnf); clear H; intro w H) | refine cT ?_ | refine cF ?_ | refine cN ?_ | refine cM ?_ | refine H.lw ?_ | refine H.ll ?_)); (conv => whnf)); (first | refine Kv.go H ?_ | (refine And.intro (fun w1 hkp => ?_) ?_; focus (have H := Kv.in H hkp; repeat ((conv => whnf); first | refine an ?_ | refine H.ce ?_ | refine H.db ?_ | refine ea ?_ | refine ol ?_ | refine H.lw ?_ | refine H.ll ?_); (conv => whnf); all_goals (first | exact ⟨rfl, rfl⟩ | exact rfl))) | refine And.intro ?_ ?_ | ((first | refine Rel.nwD H ?_ | refine Rel.nw H ?_); clear H; intro w _ H)))
        have H0 : Rel W V [.row r1 5 1 ((magicB ++ (cs.take k.i).flatMap putChk ++ [(d).1, UInt8.ofNat ((d).2.length / 256), UInt8.ofNat ((d).2.length % 256)]).flatMap byC)] V7 w := H.sx
        obtain ⟨V8, hV8, H, hr1⟩ := Rel.freezeF H0 (fun _ => rfl) (by decide)
        clear H0
        ((repeat ((conv => whnf); first | refine an ?_ | refine H.ce ?_ | refine H.db ?_ | refine ea ?_ | refine ol ?_ | (refine H.st ?_; (conv => whnf); clear H; intro w H) | refine cT ?_ | refine cF ?_ | refine cN ?_ | refine cM ?_ | refine H.lw ?_ | refine H.ll ?_)); (conv => whnf))
        refine (join_ref H.data hr1 (hdat.up hV8) (by simp only [List.length_append, List.length_cons, List.length_nil] at hml ⊢; omega)).use ?_
        rintro q w ⟨r2, rfl, K⟩
        (have hKb := K.base; replace H := Rel.call H K)
        rw [← hnx] at H
        have H1 : Rel W V [.row r2 5 1 ((magicB ++ (cs.take (k.i + 1)).flatMap putChk).flatMap byC)] V8 w := H
        clear H
        have H := H1.less hVV6 (hV7.trans hV8)
        clear H1
        ((repeat ((conv => whnf); first | refine an ?_ | ((first | refine H.nwD ?_ | refine H.nw ?_); clear H; intro w _ H) | refine H.ce ?_ | refine H.db ?_ | refine ea ?_ | refine ol ?_ | (refine H.st ?_; (conv => whnf); clear H; intro w H) | refine cT ?_ | refine cF ?_ | refine cN ?_ | refine cM ?_ | refine H.lw ?_ | refine H.ll ?_)); (conv => whnf))
        exact ⟨(by repeat (first | exact trivial | refine ⟨rfl, ?_⟩)), (⟨k.i + 1, k.t7, k.h7, k.t8, k.nr, ⟨subA k.t13.a 1 k.t13.cap 2, k.t13.len - 1, k.t13.cap - 1⟩, xt, r⟩, r2), (by repeat (first | exact trivial | refine ⟨rfl, ?_⟩)), ⟨e6 (by omega), .inr ⟨by dsimp only; omega, H.sx⟩⟩, by dsimp only; omega⟩
    | cons m t =>
      have hne := e4 m t hnr
      rw [hnr, List.map_cons] at p1
      rw [hnr] at hpl1
      simp only [List.length_cons] at hpl1
      obtain ⟨hpp, q3⟩ := p1.at1 (g := iv) (fun _ => rfl) (i := 0) (by simp)
      simp only [List.getElem_cons_zero] at q3
      rcases hout with ⟨h0, rfl, H⟩ | ⟨h0, H⟩
      · ((repeat ((conv => whnf); first | refine an ?_ | refine H.ce ?_ | refine H.db ?_ | refine ea ?_ | refine ol ?_ | (refine H.st ?_; (conv => whnf); clear H; intro w H) | refine cT ?_ | refine cF ?_ | refine cN ?_ | refine cM ?_ | refine H.lw ?_ | refine H.ll ?_)); (conv => whnf))
        ((first | refine Rel.nwD H ?_ | refine Rel.nw H ?_); clear H; intro w b17 H)
        ((repeat ((conv => whnf); first | refine an ?_ | ((first | refine H.nwD ?_ | refine H.nw ?_); clear H; intro w _ H) | refine H.ce ?_ | refine H.db ?_ | refine ea ?_ | refine ol ?_ | (refine H.st ?_; (conv => whnf); clear H; intro w H) | refine cT ?_ | refine cF ?_ | refine cN ?_ | refine cM ?_ | refine H.lw ?_ | refine H.ll ?_)); (conv => whnf))
        by_cases hbig : 65535 < (d).2.length
        · have hno : sndMake v b = none := by
            rw [hmk, if_neg]
            intro h
            have h1 := flat_ge (List.mem_of_getElem? (l := cs) (by assumption) : (d) ∈ cs)
            have h2 := congrArg List.length hO
            simp only [List.length_append] at h2
            omega
          rw [hno]
          ((repeat ((conv => whnf); first | refine an ?_ | ((first | refine H.nwD ?_ | refine H.nw ?_); clear H; intro w _ H) | refine H.ce ?_ | refine H.db ?_ | refine ea ?_ | refine ol ?_ | (refine H.st ?_; (conv => whnf); clear H; intro w H) | refine cT ?_ | refine cF ?_ | refine cN ?_ | refine cM ?_ | refine H.lw ?_ | refine H.ll ?_)); (conv => whnf))
          exact ⟨V6, ⟨none, 0, 0⟩, [], false, hVV6, H.sx, rfl, SlF.nil _ _, rfl⟩
        obtain ⟨V7, hV7, H, hb17⟩ := H.freezeBlk
        have y0 := hb17.cel (i := 0) rfl
        have y1 := hb17.cel (i := 1) rfl
        have hdat : Byt V7 (x.2) (d).2 := hcd.up hV7
        have hnx := putChk_next (cs := cs) (i := k.i) (c := d) (by assumption)
        have hml : (magicB ++ (cs.take k.i).flatMap putChk).length ≤ 70000000 := by
          rw [List.length_append]
          simp only [List.length_cons, List.length_nil]
          omega
        ((repeat ((conv => whnf); first | refine an ?_ | ((first | refine H.nwD ?_ | refine H.nw ?_); clear H; intro w _ H) | refine H.ce ?_ | refine H.db ?_ | refine ea ?_ | refine ol ?_ | (refine H.st ?_; (conv => whnf); clear H; intro w H) | refine cT ?_ | refine cF ?_ | refine cN ?_ | refine cM ?_ | refine H.lw ?_ | refine H.ll ?_)); (conv => whnf))
        ((first | refine draw_vcTX (id := 29) tabOk mixed (Kv V7) Kv.trans [14, 15] [17] [0, 1, 2, 3, 4, 5, 6, 7, 8, 9, 10, 11, 12, 13, 16, 17, 14, 15, 18, 19] [(14, []), (15, [14]), (18, [14, 15])] (by kernel_rfl) ?_); intro w hdw; replace H := Rel.ext H hdw.ext)
        repeat' (((repeat ((conv => whnf); first | refine an ?_ | refine H.ce ?_ | refine H.db ?_ | refine ea ?_ | refine ol ?_ | (refine H.st ?_; (conv => whnf); clear H; intro w H) | refine cT ?_ | refine cF ?_ | refine cN ?_ | refine cM ?_ | refine H.lw ?_ | refine H.ll ?_)); (conv => whnf)); (first | refine Kv.go H ?_ | (refine And.intro (fun w1 hkp => ?_) ?_; focus (have H := Kv.in H hkp; repeat ((conv => whnf); first | refine an ?_ | refine H.ce ?_ | refine H.db ?_ | refine ea ?_ | refine ol ?_ | refine H.lw ?_ | refine H.ll ?_); (conv => whnf); all_goals (first | exact ⟨rfl, rfl⟩ | exact rfl))) | refine And.intro ?_ ?_ | ((first | refine Rel.nwD H ?_ | refine Rel.nw H ?_); clear H; intro w _ H)))
        ((repeat ((conv => whnf); first | refine an ?_ | refine H.ce ?_ | refine H.db ?_ | refine ea ?_ | refine ol ?_ | (refine H.st ?_; (conv => whnf); clear H; intro w H) | refine cT ?_ | refine cF ?_ | refine cN ?_ | refine cM ?_ | refine H.lw ?_ | refine H.ll ?_)); (conv => whnf))
        replace H := H.blkEq (chkG_cells (d).1 (x.2).len (by omega) rfl rfl rfl)
        rw [hdl] at H
        have hi0 : cs.take k.i = [] := by rw [h0]; rfl
        refine Rel.appFull (s := ⟨some ⟨bm, 0, none⟩, 4, 4⟩) (x := ⟨some ⟨_, 0, none⟩, 3, 3⟩) (xs := magicB.flatMap byC) (ys := [(d).1, UInt8.ofNat ((d).2.length / 256), UInt8.ofNat ((d).2.length % 256)].flatMap byC) tabOk rfl rfl rfl rfl rfl (by decide) H ((hm.up hV7).up H.data).cells rfl rfl H.bk_0.cells rfl (by show 0 < 3; decide) (by show (4 + 3) * 1 ≤ 140737488355328; decide) (by show 4 + 3 ≤ 4611686018427387904; decide) ?_
        clear H
        intro r1 w hxe H _
        rw [← List.flatMap_append, show magicB = magicB ++ (cs.take k.i).flatMap putChk by rw [hi0]; rfl] at H
        repeat' (((repeat ((conv => whnf); first | refine an ?_ | refine H.ce ?_ | refine H.db ?_ | refine ea ?_ | refine ol ?_ | (refine H.st ?_; (conv => whnf); clear H; intro w H) | refine cT ?_ | refine cF ?_ | refine cN ?_ | refine cM ?_ | refine H.lw ?_ | refine H.ll ?_)); (conv => whnf)); (first | refine Kv.go H ?_ | (refine And.intro (fun w1 hkp => ?_) ?_; focus (have H := Kv.in H hkp; repeat ((conv => whnf); first | refine an ?_ | refine H.ce ?_ | refine H.db ?_ | refine ea ?_ | refine ol ?_ | refine H.lw ?_ | refine H.ll ?_); (conv => whnf); all_goals (first | exact ⟨rfl, rfl⟩ | exact rfl))) | refine And.intro ?_ ?_ | ((first | refine Rel.nwD H ?_ | refine Rel.nw H ?_); clear H; intro w _ H)))
        have H0 : Rel W V [.row r1 5 1 ((magicB ++ (cs.take k.i).flatMap putChk ++ [(d).1, UInt8.ofNat ((d).2.length / 256), UInt8.ofNat ((d).2.length % 256)]).flatMap byC)] V7 w := H.sx
        obtain ⟨V8, hV8, H, hr1⟩ := Rel.freezeF H0 (fun _ => rfl) (by decide)
        clear H0
        ((repeat ((conv => whnf); first | refine an ?_ | refine H.ce ?_ | refine H.db ?_ | refine ea ?_ | refine ol ?_ | (refine H.st ?_; (conv => whnf); clear H; intro w H) | refine cT ?_ | refine cF ?_ | refine cN ?_ | refine cM ?_ | refine H.lw ?_ | refine H.ll ?_)); (conv => whnf))
        refine (join_ref H.data hr1 (hdat.up hV8) (by simp only [List.length_append, List.length_cons, List.length_nil] at hml ⊢; omega)).use ?_
        rintro q w ⟨r2, rfl, K⟩
        (have hKb := K.base; replace H := Rel.call H K)
        rw [← hnx] at H
        have H1 : Rel W V [.row r2 5 1 ((magicB ++ (cs.take (k.i + 1)).flatMap putChk).flatMap byC)] V8 w := H
        clear H
        have H := H1.less hVV6 (hV7.trans hV8)
        clear H1
        ((repeat ((conv => whnf); first | refine an ?_ | ((first | refine H.nwD ?_ | refine H.nw ?_); clear H; intro w _ H) | refine H.ce ?_ | refine H.db ?_ | refine ea ?_ | refine ol ?_ | (refine H.st ?_; (conv => whnf); clear H; intro w H) | refine cT ?_ | refine cF ?_ | refine cN ?_ | refine cM ?_ | refine H.lw ?_ | refine H.ll ?_)); (conv => whnf))
        exact ⟨(by repeat (first | exact trivial | refine ⟨rfl, ?_⟩)), (⟨k.i + 1, k.t7, k.h7, k.t8, k.nr, ⟨subA k.t13.a 1 k.t13.cap 2, k.t13.len - 1, k.t13.cap - 1⟩, xt, r⟩, r2), (by repeat (first | exact trivial | refine ⟨rfl, ?_⟩)), ⟨e6 (by omega), .inr ⟨by dsimp only; omega, H.sx⟩⟩, by dsimp only; omega⟩
      · ((repeat ((conv => whnf); first | refine an ?_ | refine H.ce ?_ | refine H.db ?_ | refine ea ?_ | refine ol ?_ | (refine H.st ?_; (conv => whnf); clear H; intro w H) | refine cT ?_ | refine cF ?_ | refine cN ?_ | refine cM ?_ | refine H.lw ?_ | refine H.ll ?_)); (conv => whnf))
        ((first | refine Rel.nwD H ?_ | refine Rel.nw H ?_); clear H; intro w b17 H)
        ((repeat ((conv => whnf); first | refine an ?_ | ((first | refine H.nwD ?_ | refine H.nw ?_); clear H; intro w _ H) | refine H.ce ?_ | refine H.db ?_ | refine ea ?_ | refine ol ?_ | (refine H.st ?_; (conv => whnf); clear H; intro w H) | refine cT ?_ | refine cF ?_ | refine cN ?_ | refine cM ?_ | refine H.lw ?_ | refine H.ll ?_)); (conv => whnf))
        by_cases hbig : 65535 < (d).2.length
        · have hno : sndMake v b = none := by
            rw [hmk, if_neg]
            intro h
            have h1 := flat_ge (List.mem_of_getElem? (l := cs) (by assumption) : (d) ∈ cs)
            have h2 := congrArg List.length hO
            simp only [List.length_append] at h2
            omega
          rw [hno]
          ((repeat ((conv => whnf); first | refine an ?_ | ((first | refine H.nwD ?_ | refine H.nw ?_); clear H; intro w _ H) | refine H.ce ?_ | refine H.db ?_ | refine ea ?_ | refine ol ?_ | (refine H.st ?_; (conv => whnf); clear H; intro w H) | refine cT ?_ | refine cF ?_ | refine cN ?_ | refine cM ?_ | refine H.lw ?_ | refine H.ll ?_)); (conv => whnf))
          exact ⟨V6, ⟨none, 0, 0⟩, [], false, hVV6, H.sx, rfl, SlF.nil _ _, rfl⟩
        obtain ⟨V7, hV7, H, hb17⟩ := H.freezeBlk
        have y0 := hb17.cel (i := 0) rfl
        have y1 := hb17.cel (i := 1) rfl
        have hdat : Byt V7 (x.2) (d).2 := hcd.up hV7
        have hnx := putChk_next (cs := cs) (i := k.i) (c := d) (by assumption)
        have hml : (magicB ++ (cs.take k.i).flatMap putChk).length ≤ 70000000 := by
          rw [List.length_append]
          simp only [List.length_cons, List.length_nil]
          omega
        ((repeat ((conv => whnf); first | refine an ?_ | ((first | refine H.nwD ?_ | refine H.nw ?_); clear H; intro w _ H) | refine H.ce ?_ | refine H.db ?_ | refine ea ?_ | refine ol ?_ | (refine H.st ?_; (conv => whnf); clear H; intro w H) | refine cT ?_ | refine cF ?_ | refine cN ?_ | refine cM ?_ | refine H.lw ?_ | refine H.ll ?_)); (conv => whnf))
        ((first | refine draw_vcTX (id := 29) tabOk mixed (Kv V7) Kv.trans [14, 15] [17] [0, 1, 2, 3, 4, 5, 6, 7, 8, 9, 10, 11, 12, 13, 16, 17, 14, 15, 18, 19] [(14, []), (15, [14]), (18, [14, 15])] (by kernel_rfl) ?_); intro w hdw; replace H := Rel.ext H hdw.ext)
        repeat' (((repeat ((conv => whnf); first | refine an ?_ | refine H.ce ?_ | refine H.db ?_ | refine ea ?_ | refine ol ?_ | (refine H.st ?_; (conv => whnf); clear H; intro w H) | refine cT ?_ | refine cF ?_ | refine cN ?_ | refine cM ?_ | refine H.lw ?_ | refine H.ll ?_)); (conv => whnf)); (first | refine Kv.go H ?_ | (refine And.intro (fun w1 hkp => ?_) ?_; focus (have H := Kv.in H hkp; repeat ((conv => whnf); first | refine an ?_ | refine H.ce ?_ | refine H.db ?_ | refine ea ?_ | refine ol ?_ | refine H.lw ?_ | refine H.ll ?_); (conv => whnf); all_goals (first | exact ⟨rfl, rfl⟩ | exact rfl))) | refine And.intro ?_ ?_ | ((first | refine Rel.nwD H ?_ | refine Rel.nw H ?_); clear H; intro w _ H)))
        ((repeat ((conv => whnf); first | refine an ?_ | refine H.ce ?_ | refine H.db ?_ | refine ea ?_ | refine ol ?_ | (refine H.st ?_; (conv => whnf); clear H; intro w H) | refine cT ?_ | refine cF ?_ | refine cN ?_ | refine cM ?_ | refine H.lw ?_ | refine H.ll ?_)); (conv => whnf))
        replace H := H.blkEq (chkG_cells (d).1 (x.2).len (by omega) rfl rfl rfl)
        rw [hdl] at H
        replace H := H.toRow (n := 3) (e := 5) (sz := 1) rfl (by simp [maxLen])
        refine Rel.appB H (i := 0) rfl (by simp only [List.length_cons, List.length_nil]; omega) ?_
        clear H
        intro r1 w H
        simp only [List.set_cons_zero] at H
        repeat' (((repeat ((conv => whnf); first | refine an ?_ | refine H.ce ?_ | refine H.db ?_ | refine ea ?_ | refine ol ?_ | (refine H.st ?_; (conv => whnf); clear H; intro w H) | refine cT ?_ | refine cF ?_ | refine cN ?_ | refine cM ?_ | refine H.lw ?_ | refine H.ll ?_)); (conv => whnf)); (first | refine Kv.go H ?_ | (refine And.intro (fun w1 hkp => ?_) ?_; focus (have H := Kv.in H hkp; repeat ((conv => whnf); first | refine an ?_ | refine H.ce ?_ | refine H.db ?_ | refine ea ?_ | refine ol ?_ | refine H.lw ?_ | refine H.ll ?_); (conv => whnf); all_goals (first | exact ⟨rfl, rfl⟩ | exact rfl))) | refine And.intro ?_ ?_ | ((first | refine Rel.nwD H ?_ | refine Rel.nw H ?_); clear H; intro w _ H)))
        have H0 : Rel W V [.row r1 5 1 ((magicB ++ (cs.take k.i).flatMap putChk ++ [(d).1, UInt8.ofNat ((d).2.length / 256), UInt8.ofNat ((d).2.length % 256)]).flatMap byC)] V7 w := H.sx
        obtain ⟨V8, hV8, H, hr1⟩ := Rel.freezeF H0 (fun _ => rfl) (by decide)
        clear H0
        ((repeat ((conv => whnf); first | refine an ?_ | refine H.ce ?_ | refine H.db ?_ | refine ea ?_ | refine ol ?_ | (refine H.st ?_; (conv => whnf); clear H; intro w H) | refine cT ?_ | refine cF ?_ | refine cN ?_ | refine cM ?_ | refine H.lw ?_ | refine H.ll ?_)); (conv => whnf))
        refine (join_ref H.data hr1 (hdat.up hV8) (by simp only [List.length_append, List.length_cons, List.length_nil] at hml ⊢; omega)).use ?_
        rintro q w ⟨r2, rfl, K⟩
        (have hKb := K.base; replace H := Rel.call H K)
        rw [← hnx] at H
        have H1 : Rel W V [.row r2 5 1 ((magicB ++ (cs.take (k.i + 1)).flatMap putChk).flatMap byC)] V8 w := H
        clear H
        have H := H1.less hVV6 (hV7.trans hV8)
        clear H1
        ((repeat ((conv => whnf); first | refine an ?_ | ((first | refine H.nwD ?_ | refine H.nw ?_); clear H; intro w _ H) | refine H.ce ?_ | refine H.db ?_ | refine ea ?_ | refine ol ?_ | (refine H.st ?_; (conv => whnf); clear H; intro w H) | refine cT ?_ | refine cF ?_ | refine cN ?_ | refine cM ?_ | refine H.lw ?_ | refine H.ll ?_)); (conv => whnf))
        exact ⟨(by repeat (first | exact trivial | refine ⟨rfl, ?_⟩)), (⟨k.i + 1, k.t7, k.h7, k.t8, k.nr, ⟨subA k.t13.a 1 k.t13.cap 2, k.t13.len - 1, k.t13.cap - 1⟩, xt, r⟩, r2), (by repeat (first | exact trivial | refine ⟨rfl, ?_⟩)), ⟨e6 (by omega), .inr ⟨by dsimp only; omega, H.sx⟩⟩, by dsimp only; omega⟩
theorem soundFile_g (hV : Sub V W) {h : VH} {v : Val} (hv : ValAt V h v) (hB : VB 1048576 v) (hvf : (vfault v).1 = 0) (hsh : (sndShape v).isSome = true) {s : Sl} {b : List UInt8} (hs : Byt V s b) (hl : b.length ≤ 1099511620000) :
    Ret Try.prog 33 [valV h, s.v].toArray W (FrG W V (sndMake v b)) := by
  cases h1 : sndShape v with
  | none => rw [h1] at hsh; cases hsh
  | some x => exact soundFile_ref hV hv hB hvf (rate := x.1) (ch := x.2.1) (sb := x.2.2) h1 hs hl
end
end Go.Proofs.Ytjfcpnlacodjjaa
