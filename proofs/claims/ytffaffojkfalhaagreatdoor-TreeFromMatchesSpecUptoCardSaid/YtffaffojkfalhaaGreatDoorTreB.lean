/-
  Files of trees: the reader's state; its methods for tokens.
-/
import Derived.Test.YtffaffojkfalhaaGreatDoorTreA
import Derived.Test.YtffaffojkfalhaaGreatDoorTreR
namespace Go.Proofs.YtffaffojkfalhaaGreatDoor
open Go Go.RowKit

abbrev BkH := Int × Sl
abbrev bkC (x : BkH) : List Value := [iv x.1, x.2.v]
abbrev BkR (V : World) (x : BkH) (y : Blk2) : Prop := x.1 = ((y.1 : Nat) : Int) ∧ Byt V x.2 y.2
theorem BkR.up (V V' : World) (x : BkH) (y : Blk2) (hs : Sub V V') (h : BkR V x y) : BkR V' x y := ⟨h.1, h.2.up hs⟩
/-- what a reader owns -/
abbrev RdO (rb : Nat) (r o : Sl) (hs : List BkH) (s : RS) : List Res := [.blk rb [r.v, iv ((s.cnt : Nat) : Int), str s.last, o.v] 88, .row o 72 2 (hs.flatMap bkC)]
structure RdV (N : Nat) (V : World) (r : Sl) (hs : List BkH) (s : RS) : Prop where
  rest : Byt V r s.rest
  oth : Pw BkR V hs s.oth
  cnt : s.cnt + s.rest.length ≤ N
  ol : s.oth.length ≤ s.cnt
theorem RdV.up {N : Nat} {V V' : World} {r : Sl} {hs : List BkH} {s : RS} (h : RdV N V r hs s) (k : Sub V V') : RdV N V' r hs s := ⟨h.rest.up k, h.oth.up BkR.up k, h.cnt, h.ol⟩
/-- where a reader stands -/
structure RdR (w0 V0 : World) (rb : Nat) (own : List Res) (N : Nat) (V : World) (s : RS) (E : World → Prop) (w : World) : Prop where
  ex : ∃ (V' : World) (r o : Sl) (hs : List BkH), Sub V V' ∧ RdV N V' r hs s ∧ E V' ∧ Rel w0 V0 (RdO rb r o hs s ++ own) V' w
abbrev wrongE : PanicEntry := { v := .iface 133 (.agg #[]), recovered := false }
/-- how a reader fails -/
structure Bad (w0 : World) (p : Prop) (ch : List PanicEntry) (w : World) : Prop where
  why : p
  ch : ch = [wrongE]
  ext : Ext w0 w
theorem Bad.mono {w0 w : World} {p q : Prop} {ch : List PanicEntry} (h : Bad w0 p ch w) (hpq : p → q) : Bad w0 q ch w := ⟨hpq h.why, h.ch, h.ext⟩
theorem mk_wrong {w : World} {k : Value → World → Prop} (hk : k (.iface 133 (.agg #[])) w) : SemOk Tryz.prog (Instr.makeInterface 133 (.agg #[])) w k := .of (by kernel_rfl) hk
theorem bk_con : (fun c => ([32, 9, 13, 10] : List UInt8).contains c) = bkB := by
  funext c
  simp [bkB, List.contains_eq_any_beq, Bool.or_assoc]
def nameSet : List UInt8 := [97, 98, 99, 100, 101, 102, 103, 104, 105, 106, 107, 108, 109, 110, 111, 112, 113, 114, 115, 116, 117, 118, 119, 120, 121, 122, 48, 49, 50, 51, 52, 53, 54, 55, 56, 57, 45, 95, 46]
set_option maxRecDepth 100000 in
theorem nm_con : (fun c => nameSet.contains c) = nmB := by
  funext c
  have key : ∀ n : Fin 256, nameSet.contains (UInt8.ofNat n.val) = nmB (UInt8.ofNat n.val) := by decide
  have := key ⟨c.toNat, c.toNat_lt⟩
  simpa using this
section
variable {w0 V0 V w : World} {own : List Res} {rb N : Nat} {r o : Sl} {hs : List BkH} {s : RS}
theorem skip_tree (H : Rel w0 V0 (RdO rb r o hs s ++ own) V w) (hR : RdV N V r hs s) (hN : N ≤ 5000) (e : Bool) : Ret Tryz.prog 46 [.pointer (some ⟨rb, 0, none⟩), .bool e].toArray w fun q w' => q = .tuple #[] ∧ RdR w0 V0 rb own (N + 1) V (skR (if e = true then [10] else wantB (af s.last)) s) (fun _ => True) w' := by
  have hlen := hR.rest.len
  have hcap := hR.rest.cap
  have hcnt := hR.cnt
  have hol := hR.ol
  have hoth := hR.oth.len
  obtain ⟨n, hn⟩ : ∃ n, n = (s.rest.takeWhile bkB).length := ⟨_, rfl⟩
  have hsum : s.rest.length = n + (s.rest.dropWhile bkB).length := by
    conv => lhs; rw [← List.takeWhile_append_dropWhile (p := bkB) (l := s.rest)]
    rw [List.length_append, hn]
  have htk : s.rest.take n = s.rest.takeWhile bkB := by
    conv => lhs; rw [← List.takeWhile_append_dropWhile (p := bkB) (l := s.rest), hn]
    rw [List.take_left]
  have hdr : s.rest.drop n = s.rest.dropWhile bkB := by
    conv => lhs; rw [← List.takeWhile_append_dropWhile (p := bkB) (l := s.rest), hn]
    rw [List.drop_left]
  obtain ⟨want, hw⟩ : ∃ want : List UInt8, want = if e = true then [10] else wantB (af s.last) := ⟨_, rfl⟩
  rw [← hw]
  have hcut := hR.rest.tk (k := n) (by omega)
  have hcut3 := hR.rest.tk3 (k := n) (by omega)
  rw [htk] at hcut hcut3
  simp only [RdO, List.cons_append, List.nil_append] at H
  refine cal_of_sem tabOk Tryz.func46 rfl (by kernel_rfl) 82 rfl (by simp) [0, 1, 4, 5, 18, 20, 41] ?_
  refine SemC.seqGo tabOk ?_
  (first | (refine H.wg ?_; clear H; intros; rename_i w H; constructor) | refine wk ?_)
  ((first | refine draw_vc (id := 0) tabOk mixed [9] [0, 1, 2, 3, 4, 5, 6, 7, 8, 9, 10, 11, 12] (by kernel_rfl) ?_ | refine draw_vc (id := 7) tabOk mixed [17] [0, 1, 2, 3, 4, 5, 6, 7, 8, 9, 10, 11, 12, 13, 14, 15, 16, 17, 18, 19, 20, 21] (by kernel_rfl) ?_); intro w hdw; replace H := Rel.ext H hdw.ext)
  (first | (refine H.wg ?_; clear H; intros; rename_i w H; constructor) | refine wk ?_)
  refine (trim_spec H.data hR.rest (by omega) (cs := [32, 9, 13, 10]) (by decide) (by decide) (by decide)).use ?_
  rintro v w ⟨⟨t, rfl, ht⟩, K⟩
  (have hKb := K.base; replace H := H.call0 K)
  rw [bk_con] at ht
  have htl := ht.len
  (first | (refine H.wg ?_; clear H; intros; rename_i w H; constructor) | refine wk ?_)
  rw [show (r.len : Int) - t.len = (n : Int) by omega]
  (first | (refine H.wg ?_; clear H; intros; rename_i w H; constructor) | refine wk ?_)
  refine SemC.seqGo tabOk ?_
  (first | (refine H.wg ?_; clear H; intros; rename_i w H; constructor) | refine wk ?_)
  refine SemC.seqCut tabOk (fun _ : Unit => [(0, .pointer (some ⟨rb, 0, none⟩)), (4, iv (n : Int)), (5, str want)]) (fun _ w' => Rel w0 V0 (.blk rb [r.v, iv ((s.cnt : Nat) : Int), str s.last, o.v] 88 :: .row o 72 2 (hs.flatMap bkC) :: own) V w') ?_ ?_
  · cases e with
    | true =>
      obtain rfl : want = [10] := hw
      (first | (refine H.wg ?_; clear H; intros; rename_i w H; constructor) | refine wk ?_)
      exact ⟨(), (by repeat (first | exact trivial | refine ⟨rfl, ?_⟩)), H⟩
    | false =>
      rw [if_neg (by decide)] at hw
      by_cases h1 : s.last = [44]
      · obtain rfl : want = [32] := by rw [hw, h1]; rfl
        rw [h1] at H ⊢
        (first | (refine H.wg ?_; clear H; intros; rename_i w H; constructor) | refine wk ?_)
        exact ⟨(), (by repeat (first | exact trivial | refine ⟨rfl, ?_⟩)), H⟩
      · by_cases h2 : s.last = [58]
        · obtain rfl : want = [32] := by rw [hw, h2]; rfl
          rw [h2] at H ⊢
          (first | (refine H.wg ?_; clear H; intros; rename_i w H; constructor) | refine wk ?_)
          exact ⟨(), (by repeat (first | exact trivial | refine ⟨rfl, ?_⟩)), H⟩
        · obtain rfl : want = [] := by
            rw [hw, show af s.last = false by simp [af, h1, h2]]
            rfl
          (first | (refine H.wg ?_; clear H; intros; rename_i w H; constructor) | refine wk ?_)
          refine condG_false (decide_eq_false h1) ?_
          (first | (refine H.wg ?_; clear H; intros; rename_i w H; constructor) | refine wk ?_)
          refine condG_false (decide_eq_false h2) ?_
          (first | (refine H.wg ?_; clear H; intros; rename_i w H; constructor) | refine wk ?_)
          exact ⟨(), (by repeat (first | exact trivial | refine ⟨rfl, ?_⟩)), H⟩
  clear H
  rintro _ w H
  refine SemC.seqCut tabOk (fun _ : Unit => [(0, .pointer (some ⟨rb, 0, none⟩)), (4, iv (n : Int))]) (fun _ w' => ∃ (o' : Sl) (hs' : List BkH), Pw BkR V hs' (if s.rest.takeWhile bkB = want then s.oth else s.oth ++ [(s.cnt, s.rest.takeWhile bkB)]) ∧ Rel w0 V0 (.blk rb [r.v, iv ((s.cnt : Nat) : Int), str s.last, o'.v] 88 :: .row o' 72 2 (hs'.flatMap bkC) :: own) V w') ?_ ?_
  · (first | (refine H.wg ?_; clear H; intros; rename_i w H; constructor) | refine wk ?_)
    refine ⟨byC_map _ ▸ (hcut.up H.data).cells, ?_⟩
    (first | (refine H.wg ?_; clear H; intros; rename_i w H; constructor) | refine wk ?_)
    refine condG_ndec (fun hne => ?_) (fun heq => ?_)
    · (first | (refine H.wg ?_; clear H; intros; rename_i w H; constructor) | refine wk ?_)
      ((first | refine draw_vc (id := 0) tabOk mixed [9] [0, 1, 2, 3, 4, 5, 6, 7, 8, 9, 10, 11, 12] (by kernel_rfl) ?_ | refine draw_vc (id := 7) tabOk mixed [17] [0, 1, 2, 3, 4, 5, 6, 7, 8, 9, 10, 11, 12, 13, 14, 15, 16, 17, 18, 19, 20, 21] (by kernel_rfl) ?_); intro w hdw; replace H := Rel.ext H hdw.ext)
      (first | (refine H.wh ?_; clear H; intros; rename_i w H; constructor) | refine wk ?_)
      ((first | refine Rel.nwD H ?_ | refine Rel.nw H ?_); clear H; intro w b59 H)
      (first | (refine H.wg ?_; clear H; intros; rename_i w H; constructor) | refine wk ?_)
      refine Rel.app1_1 (f := bkC) (s := o) (l := hs) (x := (((s.cnt : Nat) : Int), (⟨subA r.a 0 n 1, n - 0, n - 0⟩ : Sl))) tabOk rfl rfl rfl rfl rfl (by decide) (fun _ => rfl) (by simp [Value.oneCell']) H (by show (hs.length + 1) * 32 ≤ _; omega) (by omega) ?_
      clear H
      intro o' w H
      (first | (refine H.wg ?_; clear H; intros; rename_i w H; constructor) | refine wk ?_)
      refine ⟨(), (by repeat (first | exact trivial | refine ⟨rfl, ?_⟩)), o', _, ?_, H⟩
      rw [if_neg hne]
      exact hR.oth.snoc ⟨rfl, hcut3⟩
    · (first | (refine H.wg ?_; clear H; intros; rename_i w H; constructor) | refine wk ?_)
      refine ⟨(), (by repeat (first | exact trivial | refine ⟨rfl, ?_⟩)), o, hs, ?_, H⟩
      rw [if_pos heq]
      exact hR.oth
  clear H
  rintro _ w ⟨o', hs', hPw, H⟩
  refine SemC.go tabOk ?_
  (first | (refine H.wg ?_; clear H; intros; rename_i w H; constructor) | refine wk ?_)
  have hd := hR.rest.dr (k := n) (by omega)
  rw [hdr] at hd
  refine ⟨V, _, o', hs', Sub.refl _, ⟨hd, hPw, ?_, ?_⟩, trivial, H⟩
  · show s.cnt + 1 + (s.rest.dropWhile bkB).length ≤ _
    omega
  · show (if s.rest.takeWhile bkB = want then s.oth else s.oth ++ [(s.cnt, s.rest.takeWhile bkB)]).length ≤ s.cnt + 1
    split
    · omega
    · rw [List.length_append, List.length_singleton]; omega
theorem peek_tree (H : Rel w0 V0 (RdO rb r o hs s ++ own) V w) (hR : RdV N V r hs s) (hN : N ≤ 5000) : Cal Tryz.prog 67 [.pointer (some ⟨rb, 0, none⟩)].toArray w (fun q w' => (∃ c, pk s = some c ∧ q = bv c) ∧ Rel w0 V0 (RdO rb r o hs s ++ own) V w') (Bad w0 (pk s = none)) := by
  have hlen := hR.rest.len
  have hcnt := hR.cnt
  simp only [RdO, List.cons_append, List.nil_append] at H
  refine cal_of_vc tabOk Tryz.func67 rfl (by kernel_rfl) 17 rfl (by simp) [0, 2, 3, 11] ?_
  (first | (refine H.wg ?_; clear H; intros; rename_i w H; constructor) | refine wk ?_)
  refine (trim_spec H.data hR.rest (by omega) (cs := [32, 9, 13, 10]) (by decide) (by decide) (by decide)).use ?_
  rintro v w ⟨⟨t, rfl, ht⟩, K⟩
  (have hKb := K.base; replace H := H.call0 K)
  rw [bk_con] at ht
  have htl := ht.len
  cases hd : s.rest.dropWhile bkB with
  | nil =>
    have h0 : t.len = 0 := by rw [htl, hd]; rfl
    (first | (refine H.wg ?_; clear H; intros; rename_i w H; constructor) | refine wk ?_)
    refine mk_wrong ?_
    (first | (refine H.wg ?_; clear H; intros; rename_i w H; constructor) | refine wk ?_)
    exact ⟨by unfold pk; rw [hd]; rfl, rfl, H.base⟩
  | cons c x =>
    rw [hd] at ht htl
    rw [List.length_cons] at htl
    obtain ⟨p0, c0⟩ := ht.at1 (g := bv) (fun _ => rfl) (show 0 < (c :: x).length by simp)
    rw [List.getElem_cons_zero] at c0
    (first | (refine H.wg ?_; clear H; intros; rename_i w H; constructor) | refine wk ?_)
    exact ⟨⟨c, by unfold pk; rw [hd]; rfl, rfl⟩, H.sx⟩
theorem sk0_tree (H : Rel w0 V0 (RdO rb r o hs s ++ own) V w) (hR : RdV N V r hs s) (hN : N ≤ 5000) : Ret Tryz.prog 46 [.pointer (some ⟨rb, 0, none⟩), .bool false].toArray w fun q w' => q = .tuple #[] ∧ RdR w0 V0 rb own (N + 1) V (sk0 s) (fun _ => True) w' := skip_tree H hR hN false
theorem enc_ch {c : UInt8} (h : c.toNat < 128) : Utf8.encode (wr .i32 ((c.toNat : Nat) : Int)) = ⟨[c].toArray⟩ := by
  have key : ∀ n : Fin 128, Utf8.encode (wr .i32 (((UInt8.ofNat n.val).toNat : Nat) : Int)) = ⟨[UInt8.ofNat n.val].toArray⟩ := by decide +kernel
  have := key ⟨c.toNat, h⟩
  simpa using this
theorem pk_rest {c : UInt8} (h : pk s = some c) : ∃ t, s.rest.dropWhile bkB = c :: t ∧ t.length + 1 ≤ s.rest.length := by
  unfold pk at h
  have hsum : s.rest.length = (s.rest.takeWhile bkB).length + (s.rest.dropWhile bkB).length := by
    conv => lhs; rw [← List.takeWhile_append_dropWhile (p := bkB) (l := s.rest)]
    rw [List.length_append]
  cases hd : s.rest.dropWhile bkB with
  | nil => rw [hd] at h; cases h
  | cons x t =>
    rw [hd] at h hsum
    cases h
    rw [List.length_cons] at hsum
    exact ⟨t, rfl, by omega⟩
theorem sign_tree (H : Rel w0 V0 (RdO rb r o hs s ++ own) V w) (hR : RdV N V r hs s) (hN : N ≤ 5000) {c : UInt8} (hc : c.toNat < 128) : Cal Tryz.prog 73 [.pointer (some ⟨rb, 0, none⟩), bv c].toArray w (fun q w' => q = .tuple #[] ∧ ∃ s', sgR c s = some s' ∧ RdR w0 V0 rb own N V s' (fun _ => True) w') (Bad w0 (sgR c s = none)) := by
  have hcnt := hR.cnt
  refine cal_of_vc tabOk Tryz.func73 rfl (by kernel_rfl) 26 rfl (by simp) [0, 1, 7] ?_
  (first | (refine H.wg ?_; clear H; intros; rename_i w H; constructor) | refine wk ?_)
  refine Cal.mono (peek_tree H hR hN) ?_ (fun ch w' h => h.mono fun h => by unfold sgR; rw [h]; rfl)
  clear H
  rintro v w ⟨⟨x, hx, rfl⟩, H⟩
  (first | (refine H.wg ?_; clear H; intros; rename_i w H; constructor) | refine wk ?_)
  refine condG_dec (fun hne => ?_) (fun heq => ?_)
  · (first | (refine H.wg ?_; clear H; intros; rename_i w H; constructor) | refine wk ?_)
    refine mk_wrong ?_
    (first | (refine H.wg ?_; clear H; intros; rename_i w H; constructor) | refine wk ?_)
    refine ⟨?_, rfl, H.base⟩
    unfold sgR
    rw [if_neg]
    intro h
    rw [hx] at h
    cases h
    exact hne rfl
  · obtain rfl : x = c := UInt8.toNat_inj.1 (by omega)
    obtain ⟨t, ht, htl⟩ := pk_rest hx
    have e : sgR x s = some { sk0 s with last := [x], rest := t } := by unfold sgR; rw [if_pos hx, ht]; rfl
    (first | (refine H.wg ?_; clear H; intros; rename_i w H; constructor) | refine wk ?_)
    refine (sk0_tree H hR hN).use ?_
    clear H
    rintro v w ⟨rfl, V1, r1, o1, hs1, hV1, hR1, _, H⟩
    have hr1 := hR1.rest
    rw [show (sk0 s).rest = x :: t from ht] at hr1
    have hl1 := hr1.len
    have hc1 := hr1.cap
    rw [List.length_cons] at hl1
    simp only [RdO, List.cons_append, List.nil_append] at H
    (first | (refine H.wg ?_; clear H; intros; rename_i w H; constructor) | refine wk ?_)
    refine Rel.convIS (by kernel_rfl) (by kernel_rfl) ?_
    rw [enc_ch hc]
    (first | (refine H.wg ?_; clear H; intros; rename_i w H; constructor) | refine wk ?_)
    refine ⟨V1, _, o1, hs1, hV1, ⟨hr1.dr (k := 1) (by simp), hR1.oth, ?_, hR1.ol⟩, trivial, H⟩
    show s.cnt + 1 + t.length ≤ N
    omega
theorem take_tree (H : Rel w0 V0 (RdO rb r o hs s ++ own) V w) (hR : RdV N V r hs s) (hN : N ≤ 6000) : Cal Tryz.prog 89 [.pointer (some ⟨rb, 0, none⟩)].toArray w (fun q w' => ∃ c t, s.rest = c :: t ∧ q = bv c ∧ RdR w0 V0 rb own N V { s with rest := t } (fun _ => True) w') (Bad w0 (s.rest = [])) := by
  have hcnt := hR.cnt
  have hlen := hR.rest.len
  have hcap := hR.rest.cap
  simp only [RdO, List.cons_append, List.nil_append] at H
  refine cal_of_vc tabOk Tryz.func89 rfl (by kernel_rfl) 27 rfl (by simp) [0, 2, 3, 9] ?_
  cases hd : s.rest with
  | nil =>
    have h0 : r.len = 0 := by rw [hlen, hd]; rfl
    (first | (refine H.wg ?_; clear H; intros; rename_i w H; constructor) | refine wk ?_)
    refine mk_wrong ?_
    (first | (refine H.wg ?_; clear H; intros; rename_i w H; constructor) | refine wk ?_)
    exact ⟨rfl, rfl, H.base⟩
  | cons c t =>
    have hr := hR.rest
    rw [hd] at hr hlen
    rw [List.length_cons] at hlen
    obtain ⟨p0, c0⟩ := hr.at1 (g := bv) (fun _ => rfl) (show 0 < (c :: t).length by simp)
    rw [List.getElem_cons_zero] at c0
    (first | (refine H.wg ?_; clear H; intros; rename_i w H; constructor) | refine wk ?_)
    refine ⟨c, t, rfl, rfl, V, _, o, hs, Sub.refl _, ⟨hr.dr (k := 1) (by simp), hR.oth, ?_, hR.ol⟩, trivial, H⟩
    rw [hd, List.length_cons] at hcnt
    show s.cnt + t.length ≤ N
    omega
theorem spc_tree {W : World} (hV : Sub V W) (c : UInt8) : Ret Tryz.prog 87 [bv c].toArray W fun v w' => v = .bool (spcB c) ∧ Rel W V [] V w' := by
  have H := Rel.start hV
  have h8 := c.toNat_lt
  refine cal_of_vc tabOk Tryz.func87 rfl (by kernel_rfl) 9 rfl (by simp) [0, 2] ?_
  by_cases h1 : c.toNat < 32
  · (first | (refine H.wg ?_; clear H; intros; rename_i w H; constructor) | refine wk ?_)
    exact ⟨by simp [spcB, h1], H⟩
  · (first | (refine H.wg ?_; clear H; intros; rename_i w H; constructor) | refine wk ?_)
    refine ⟨congrArg Value.bool ?_, H⟩
    rw [Bool.eq_iff_iff]
    simp [spcB]
    omega
abbrev hexS : List UInt8 := [48, 49, 50, 51, 52, 53, 54, 55, 56, 57, 97, 98, 99, 100, 101, 102]
set_option maxRecDepth 100000 in
theorem hexS_ix (c : UInt8) : Lib.indexByte hexS c = (match hexN c with | some n => ((n : Nat) : Int) | none => -1) := by
  have key : ∀ n : Fin 256, Lib.indexByte hexS (UInt8.ofNat n.val) = (match hexN (UInt8.ofNat n.val) with | some n => ((n : Nat) : Int) | none => -1) := by decide
  have := key ⟨c.toNat, c.toNat_lt⟩
  simpa using this
theorem or_hex {a b : Nat} (ha : a < 16) (hb : b < 16) : wr .u8 (bitsI BinOp.or .i64 ((16 * a : Nat) : Int) ((b : Nat) : Int)) = (((UInt8.ofNat (16 * a + b)).toNat : Nat) : Int) := by
  have key : ∀ a b : Fin 16, wr .u8 (bitsI BinOp.or .i64 ((16 * a.val : Nat) : Int) ((b.val : Nat) : Int)) = (((UInt8.ofNat (16 * a.val + b.val)).toNat : Nat) : Int) := by decide +kernel
  exact key ⟨a, ha⟩ ⟨b, hb⟩
theorem esc_tree (H : Rel w0 V0 (RdO rb r o hs s ++ own) V w) (hR : RdV N V r hs s) (hN : N ≤ 6000) : Cal Tryz.prog 90 [.pointer (some ⟨rb, 0, none⟩)].toArray w (fun q w' => ∃ d t, escB s.rest = some (d, t) ∧ q = bv d ∧ RdR w0 V0 rb own N V { s with rest := t } (fun _ => True) w') (Bad w0 (escB s.rest = none)) := by
  refine cal_of_vc tabOk Tryz.func90 rfl (by kernel_rfl) 47 rfl (by simp) [0, 2, 3, 4, 5, 13, 16, 39] ?_
  (first | (refine H.wg ?_; clear H; intros; rename_i w H; constructor) | refine wk ?_)
  refine Cal.mono (take_tree H hR hN) ?_ (fun ch w' h => h.mono fun h => by rw [h]; rfl)
  clear H
  rintro v w ⟨c, t, hct, rfl, V1, r1, o1, hs1, hV1, hR1, _, H⟩
  have hc8 := c.toNat_lt
  rw [hct, escB_cons]
  by_cases h1 : c = 34 ∨ c = 92
  · rw [if_pos h1]
    have h1' : c.toNat = 34 ∨ c.toNat = 92 := by rcases h1 with rfl | rfl <;> simp
    rcases h1' with h1' | h1'
    · (first | (refine H.wg ?_; clear H; intros; rename_i w H; constructor) | refine wk ?_)
      exact ⟨c, t, rfl, rfl, V1, r1, o1, hs1, hV1, hR1, trivial, H⟩
    · (first | (refine H.wg ?_; clear H; intros; rename_i w H; constructor) | refine wk ?_)
      exact ⟨c, t, rfl, rfl, V1, r1, o1, hs1, hV1, hR1, trivial, H⟩
  rw [if_neg h1]
  have h1a : c.toNat ≠ 34 := fun e => h1 (.inl (UInt8.toNat_inj.1 e))
  have h1b : c.toNat ≠ 92 := fun e => h1 (.inr (UInt8.toNat_inj.1 e))
  by_cases h2 : c = 120
  rotate_left
  · rw [if_pos h2]
    have h2' : c.toNat ≠ 120 := fun e => h2 (UInt8.toNat_inj.1 e)
    (first | (refine H.wg ?_; clear H; intros; rename_i w H; constructor) | refine wk ?_)
    refine mk_wrong ?_
    (first | (refine H.wg ?_; clear H; intros; rename_i w H; constructor) | refine wk ?_)
    exact ⟨rfl, rfl, H.base⟩
  rw [if_neg (by simpa using h2)]
  subst h2
  (first | (refine H.wg ?_; clear H; intros; rename_i w H; constructor) | refine wk ?_)
  refine Cal.mono (take_tree H hR1 hN) ?_ (fun ch w' h => ⟨by have h := h.why; dsimp only at h; rw [h], h.ch, h.ext⟩)
  clear H
  rintro v w ⟨x, t1, ht1, rfl, V2, r2, o2, hs2, hV2, hR2, _, H⟩
  dsimp only at ht1
  rw [ht1]
  (first | (refine H.wg ?_; clear H; intros; rename_i w H; constructor) | refine wk ?_)
  refine (indexByte_spec hexS _ _).use ?_
  rintro v w ⟨rfl, rfl⟩
  (first | (refine H.wg ?_; clear H; intros; rename_i w H; constructor) | refine wk ?_)
  refine Cal.mono (take_tree H hR2 hN) ?_ (fun ch w' h => ⟨by have h := h.why; dsimp only at h; rw [h], h.ch, h.ext⟩)
  clear H
  rintro v w ⟨y, t2, ht2, rfl, V3, r3, o3, hs3, hV3, hR3, _, H⟩
  dsimp only at ht2
  rw [ht2]
  (first | (refine H.wg ?_; clear H; intros; rename_i w H; constructor) | refine wk ?_)
  refine (indexByte_spec hexS _ _).use ?_
  rintro v w ⟨rfl, rfl⟩
  have ex : (((x.toNat : Nat) : Int).toNat).toUInt8 = x := by simp
  have ey : (((y.toNat : Nat) : Int).toNat).toUInt8 = y := by simp
  rw [ex, ey, hexS_ix, hexS_ix]
  cases ha : hexN x with
  | none =>
    (first | (refine H.wg ?_; clear H; intros; rename_i w H; constructor) | refine wk ?_)
    refine mk_wrong ?_
    (first | (refine H.wg ?_; clear H; intros; rename_i w H; constructor) | refine wk ?_)
    exact ⟨by simp only [ha], rfl, H.base⟩
  | some a =>
    cases hb : hexN y with
    | none =>
      (first | (refine H.wg ?_; clear H; intros; rename_i w H; constructor) | refine wk ?_)
      refine mk_wrong ?_
      (first | (refine H.wg ?_; clear H; intros; rename_i w H; constructor) | refine wk ?_)
      exact ⟨by simp only [ha, hb], rfl, H.base⟩
    | some b =>
      obtain ⟨a1, _⟩ := hexN_some ha
      obtain ⟨b1, _⟩ := hexN_some hb
      have e4 : ((a : Nat) : Int) * 2 ^ min (Int.toNat 4) IntKind.i64.bits = ((16 * a : Nat) : Int) := by
        have : min (Int.toNat 4) IntKind.i64.bits = 4 := by decide
        rw [this]
        omega
      dsimp only
      (first | (refine H.wg ?_; clear H; intros; rename_i w H; constructor) | refine wk ?_)
      rw [e4]
      (first | (refine H.wg ?_; clear H; intros; rename_i w H; constructor) | refine wk ?_)
      rw [or_hex a1 b1]
      refine (spc_tree H.data (UInt8.ofNat (16 * a + b))).use ?_
      rintro v w ⟨rfl, K⟩
      (have hKb := K.base; replace H := H.call0 K)
      cases hsp : spcB (UInt8.ofNat (16 * a + b)) with
      | false =>
        (first | (refine H.wg ?_; clear H; intros; rename_i w H; constructor) | refine wk ?_)
        refine mk_wrong ?_
        (first | (refine H.wg ?_; clear H; intros; rename_i w H; constructor) | refine wk ?_)
        exact ⟨by simp only [ha, hb, hsp]; rfl, rfl, H.base⟩
      | true =>
        (first | (refine H.wg ?_; clear H; intros; rename_i w H; constructor) | refine wk ?_)
        rw [e4]
        (first | (refine H.wg ?_; clear H; intros; rename_i w H; constructor) | refine wk ?_)
        rw [or_hex a1 b1]
        exact ⟨_, t2, by simp only [ha, hb, hsp]; rfl, rfl, V3, r3, o3, hs3, (hV1.trans hV2).trans hV3, hR3, trivial, H⟩
theorem Rel.rot2 {a b c : Res} (H : Rel w0 V0 (a :: b :: c :: own) V w) : Rel w0 V0 (b :: c :: a :: own) V w := H.perm ((List.Perm.swap b a _).trans (List.Perm.cons b (List.Perm.swap c a _)))
theorem Rel.tor2 {a b c : Res} (H : Rel w0 V0 (b :: c :: a :: own) V w) : Rel w0 V0 (a :: b :: c :: own) V w := H.perm ((List.Perm.cons b (List.Perm.swap a c _)).trans (List.Perm.swap a b _))
theorem text_tree (H : Rel w0 V0 (RdO rb r o hs s ++ own) V w) (hR : RdV N V r hs s) (hN : N ≤ 5000) (hp : pk s = some 34) : Cal Tryz.prog 68 [.pointer (some ⟨rb, 0, none⟩)].toArray w (fun q w' => ∃ b s' p, txR s = some (b, s') ∧ q = Sl.v p ∧ RdR w0 V0 rb own N V s' (fun U => Byt U p b) w') (Bad w0 (txR s = none)) := by
  have hcnt := hR.cnt
  obtain ⟨t0, ht0, htl⟩ := pk_rest hp
  refine cal_of_vc tabOk Tryz.func68 rfl (by kernel_rfl) 29 rfl (by simp) [0, 2, 3, 4, 11, 15, 20] ?_
  (first | (refine H.wg ?_; clear H; intros; rename_i w H; constructor) | refine wk ?_)
  refine (sk0_tree H hR hN).use ?_
  clear H
  rintro v w ⟨rfl, V1, r1, o1, hs1, hV1, hR1, _, H⟩
  (first | (refine H.wg ?_; clear H; intros; rename_i w H; constructor) | refine wk ?_)
  refine Cal.mono (take_tree H hR1 (by omega)) ?_ (fun ch w' h => by
    have := h.why
    rw [show (sk0 s).rest = 34 :: t0 from ht0] at this
    cases this)
  clear H
  rintro v w ⟨c, t, hct, rfl, V2, r2, o2, hs2, hV2, hR2, _, H⟩
  rw [show (sk0 s).rest = 34 :: t0 from ht0] at hct
  cases hct
  obtain ⟨s1, hs1'⟩ : ∃ s1, s1 = sk0 s := ⟨_, rfl⟩
  rw [← hs1'] at hR2 H
  obtain ⟨full, hfull⟩ : ∃ full, full = trS ((34 :: t0).length + 1) t0 := ⟨_, rfl⟩
  have hV12 := hV1.trans hV2
  replace H := (H.rowNil 5 1).rot2
  (first | (refine H.wg ?_; clear H; intros; rename_i w H; constructor) | refine wk ?_)
  refine loop_inv (S := Sl × List UInt8) tabOk [0] (fun k => [(3, k.1.v)]) (fun k w' => ∃ out V' r o hs n, Sub V V' ∧ RdV (N + 1) V' r hs { s1 with rest := k.2 } ∧ full = (trS n k.2).map (fun p => (out ++ p.1, p.2)) ∧ k.2.length < n ∧ out.length + k.2.length ≤ t0.length ∧ Rel w0 V0 (RdO rb r o hs { s1 with rest := k.2 } ++ (.row k.1 5 1 (out.flatMap byC) :: own)) V' w') (fun k _ => k.2.length) (⟨none, 0, 0⟩, t0) ?_
  (conv => whnf)
  refine ⟨(by repeat (first | exact trivial | refine ⟨rfl, ?_⟩)), ⟨[], V2, r2, o2, hs2, (34 :: t0).length + 1, hV12, hR2, ?_, ?_, ?_, H⟩, ?_⟩
  · show full = (trS ((34 :: t0).length + 1) t0).map fun p => ([] ++ p.1, p.2)
    rw [hfull]
    cases trS ((34 :: t0).length + 1) t0 <;> rfl
  · show t0.length < _
    rw [List.length_cons]; omega
  · show 0 + t0.length ≤ t0.length
    omega
  clear H
  rintro ⟨q, x⟩ w ⟨out, V3, r3, o3, hs3, n, hV3, hR3, hf, hxn, hol, H⟩
  dsimp only at hR3 hf hxn hol H
  have e : txR s = full.map fun p => (p.1, { s1 with rest := p.2 }) := by
    unfold txR
    rw [ht0, List.tail_cons, ← hfull, hs1']
    cases full <;> rfl
  have none_of : trS n x = none → txR s = none := fun h => by rw [e, hf, h]; rfl
  cases n with
  | zero => omega
  | succ n =>
  (first | (refine H.wg ?_; clear H; intros; rename_i w H; constructor) | refine wk ?_)
  refine Cal.mono (take_tree H hR3 (by omega)) ?_ (fun ch w' h => h.mono fun h => none_of (by dsimp only at h; rw [h]; rfl))
  clear H
  rintro v w ⟨c, t, hct, rfl, V4, r4, o4, hs4, hV4, hR4, _, H⟩
  dsimp only at hct hR4 H
  subst hct
  rw [List.length_cons] at hxn hol
  have hc8 := c.toNat_lt
  by_cases h34 : c = 34
  · subst h34
    (first | (refine H.wg ?_; clear H; intros; rename_i w H; constructor) | refine wk ?_)
    replace H := H.tor2
    obtain ⟨V5, hV5, H, hq⟩ := H.freezeF (fun _ => rfl) (by decide)
    refine ⟨out, { s1 with rest := t }, q, ?_, rfl, V5, r4, o4, hs4, (hV3.trans hV4).trans hV5, ?_, hq, H⟩
    · rw [e, hf, trS, if_pos rfl]
      simp
    · refine ⟨hR4.rest.up hV5, hR4.oth.up BkR.up hV5, ?_, hR4.ol⟩
      show s1.cnt + t.length ≤ N
      rw [hs1', show (sk0 s).cnt = s.cnt + 1 from rfl]
      omega
  have h34' : c.toNat ≠ 34 := fun e => h34 (UInt8.toNat_inj.1 e)
  (first | (refine H.wg ?_; clear H; intros; rename_i w H; constructor) | refine wk ?_)
  refine (spc_tree H.data c).use ?_
  rintro v w ⟨rfl, K⟩
  (have hKb := K.base; replace H := H.call0 K)
  cases hsp : spcB c with
  | true =>
    (first | (refine H.wg ?_; clear H; intros; rename_i w H; constructor) | refine wk ?_)
    refine mk_wrong ?_
    (first | (refine H.wg ?_; clear H; intros; rename_i w H; constructor) | refine wk ?_)
    exact ⟨none_of (by rw [trS, if_neg h34, if_pos hsp]), rfl, H.base⟩
  | false =>
    by_cases h92 : c = 92
    · subst h92
      (first | (refine H.wg ?_; clear H; intros; rename_i w H; constructor) | refine wk ?_)
      refine Cal.mono (esc_tree H hR4 (by omega)) ?_ (fun ch w' h => h.mono fun h => none_of (by dsimp only at h; rw [trS, if_neg h34, if_neg (by rw [hsp]; decide), if_pos rfl, h]))
      clear H
      rintro v w ⟨d, t', hd, rfl, V5, r5, o5, hs5, hV5, hR5, _, H⟩
      dsimp only at hd hR5 H
      have hlt := (escB_some hd).2
      (first | (refine H.wh ?_; clear H; intros; rename_i w H; constructor) | refine wk ?_)
      ((first | refine Rel.nwD H ?_ | refine Rel.nw H ?_); clear H; intro w b27 H)
      (first | (refine H.wg ?_; clear H; intros; rename_i w H; constructor) | refine wk ?_)
      refine Rel.app1_2 (f := byC) (s := q) (l := out) (x := d) tabOk rfl rfl rfl rfl rfl (by decide) (fun _ => rfl) (by simp [Value.oneCell']) H (by show (out.length + 1) * 1 ≤ _; omega) (by omega) ?_
      clear H
      intro q' w H
      (first | (refine H.wg ?_; clear H; intros; rename_i w H; constructor) | refine wk ?_)
      refine ⟨(by repeat (first | exact trivial | refine ⟨rfl, ?_⟩)), (q', t'), (by repeat (first | exact trivial | refine ⟨rfl, ?_⟩)), ⟨out ++ [d], V5, r5, o5, hs5, n, (hV3.trans hV4).trans hV5, hR5, ?_, ?_, ?_, H⟩, ?_⟩
      · rw [hf, trS, if_neg h34, if_neg (by rw [hsp]; decide), if_pos rfl, hd]
        dsimp only
        rw [Option.map_map]
        congr 1
        funext p
        simp
      · show t'.length < n
        omega
      · show (out ++ [d]).length + t'.length ≤ t0.length
        rw [List.length_append, List.length_singleton]
        omega
      · show t'.length < (92 :: t).length
        rw [List.length_cons]; omega
    · have h92' : c.toNat ≠ 92 := fun e => h92 (UInt8.toNat_inj.1 e)
      (first | (refine H.wh ?_; clear H; intros; rename_i w H; constructor) | refine wk ?_)
      ((first | refine Rel.nwD H ?_ | refine Rel.nw H ?_); clear H; intro w b27 H)
      (first | (refine H.wg ?_; clear H; intros; rename_i w H; constructor) | refine wk ?_)
      refine Rel.app1_2 (f := byC) (s := q) (l := out) (x := c) tabOk rfl rfl rfl rfl rfl (by decide) (fun _ => rfl) (by simp [Value.oneCell']) H (by show (out.length + 1) * 1 ≤ _; omega) (by omega) ?_
      clear H
      intro q' w H
      (first | (refine H.wg ?_; clear H; intros; rename_i w H; constructor) | refine wk ?_)
      refine ⟨(by repeat (first | exact trivial | refine ⟨rfl, ?_⟩)), (q', t), (by repeat (first | exact trivial | refine ⟨rfl, ?_⟩)), ⟨out ++ [c], V4, r4, o4, hs4, n, hV3.trans hV4, hR4, ?_, ?_, ?_, H⟩, ?_⟩
      · rw [hf, trS, if_neg h34, if_neg (by rw [hsp]; decide), if_neg h92]
        rw [Option.map_map]
        congr 1
        funext p
        simp
      · show t.length < n
        omega
      · show (out ++ [c]).length + t.length ≤ t0.length
        rw [List.length_append, List.length_singleton]
        omega
      · show t.length < (c :: t).length
        rw [List.length_cons]; omega
theorem name_tree (H : Rel w0 V0 (RdO rb r o hs s ++ own) V w) (hR : RdV N V r hs s) (hN : N ≤ 5000) : Cal Tryz.prog 72 [.pointer (some ⟨rb, 0, none⟩)].toArray w (fun q w' => ∃ x s', nmR s = some (x, s') ∧ q = str x ∧ RdR w0 V0 rb own N V s' (fun _ => True) w') (Bad w0 (nmR s = none)) := by
  have hcnt := hR.cnt
  refine cal_of_vc tabOk Tryz.func72 rfl (by kernel_rfl) 43 rfl (by simp) [0, 2, 3, 4, 30] ?_
  (first | (refine H.wg ?_; clear H; intros; rename_i w H; constructor) | refine wk ?_)
  refine Cal.mono (peek_tree H hR hN) ?_ (fun ch w' h => h.mono fun h => by unfold nmR; rw [if_pos h])
  clear H
  rintro v w ⟨⟨c, hc, rfl⟩, H⟩
  obtain ⟨t0, ht0, htl⟩ := pk_rest hc
  (first | (refine H.wg ?_; clear H; intros; rename_i w H; constructor) | refine wk ?_)
  refine (sk0_tree H hR hN).use ?_
  clear H
  rintro v w ⟨rfl, V1, r1, o1, hs1, hV1, hR1, _, H⟩
  have hr1 := hR1.rest
  rw [show (sk0 s).rest = s.rest.dropWhile bkB from rfl] at hr1
  obtain ⟨l, hl⟩ : ∃ l, l = s.rest.dropWhile bkB := ⟨_, rfl⟩
  rw [← hl] at hr1
  have hl1 := hr1.len
  have hc1 := hr1.cap
  have hll : l.length ≤ 5000 := by rw [hl, ht0, List.length_cons]; omega
  obtain ⟨x, hx⟩ : ∃ x, x = l.takeWhile nmB := ⟨_, rfl⟩
  have hsum : l.length = x.length + (l.dropWhile nmB).length := by
    conv => lhs; rw [← List.takeWhile_append_dropWhile (p := nmB) (l := l)]
    rw [List.length_append, hx]
  have htk : l.take x.length = x := by
    conv => lhs; rw [← List.takeWhile_append_dropWhile (p := nmB) (l := l), ← hx]
    rw [List.take_left]
  have hdr : l.drop x.length = l.dropWhile nmB := by
    conv => lhs; rw [← List.takeWhile_append_dropWhile (p := nmB) (l := l), ← hx]
    rw [List.drop_left]
  have hcut := hr1.tk (k := x.length) (by omega)
  rw [htk] at hcut
  simp only [RdO, List.cons_append, List.nil_append] at H
  (first | (refine H.wg ?_; clear H; intros; rename_i w H; constructor) | refine wk ?_)
  ((first | refine draw_vc (id := 3) tabOk mixed [9] [0, 1, 2, 3, 4, 5, 6, 7, 8, 9, 10, 11, 12] (by kernel_rfl) ?_); intro w hdw; replace H := Rel.ext H hdw.ext)
  (first | (refine H.wg ?_; clear H; intros; rename_i w H; constructor) | refine wk ?_)
  refine (trim_spec H.data hr1 (by omega) (cs := nameSet) (by decide) (by decide) (by decide)).use ?_
  rintro v w ⟨⟨t, rfl, ht⟩, K⟩
  (have hKb := K.base; replace H := H.call0 K)
  rw [nm_con] at ht
  have htl := ht.len
  (first | (refine H.wg ?_; clear H; intros; rename_i w H; constructor) | refine wk ?_)
  rw [show (r1.len : Int) - t.len = (x.length : Int) by omega]
  (first | (refine H.wg ?_; clear H; intros; rename_i w H; constructor) | refine wk ?_)
  refine ⟨x, by omega, byC_map _ ▸ (hcut.up H.data).cells, ?_⟩
  (first | (refine H.wg ?_; clear H; intros; rename_i w H; constructor) | refine wk ?_)
  refine (name_spec H.data x).use ?_
  rintro v w ⟨rfl, K⟩
  (have hKb := K.base; replace H := H.call0 K)
  have e : nmR s = if nameOk x = true then some (x, { sk0 s with rest := l.dropWhile nmB }) else none := by
    unfold nmR
    rw [if_neg (by rw [hc]; simp), ← hl, ← hx]
  cases hnx : nameOk x with
  | false =>
    rw [hnx, if_neg (by decide)] at e
    (first | (refine H.wg ?_; clear H; intros; rename_i w H; constructor) | refine wk ?_)
    refine mk_wrong ?_
    (first | (refine H.wg ?_; clear H; intros; rename_i w H; constructor) | refine wk ?_)
    exact ⟨e, rfl, H.base⟩
  | true =>
    rw [hnx, if_pos rfl] at e
    have hd := hr1.dr (k := x.length) (by omega)
    rw [hdr] at hd
    have hx1 : 1 ≤ x.length := by
      obtain ⟨c, y, hy, _⟩ := nameOk_head hnx
      rw [hy, List.length_cons]
      omega
    have hl0 : l.length = t0.length + 1 := by rw [hl, ht0, List.length_cons]
    (first | (refine H.wg ?_; clear H; intros; rename_i w H; constructor) | refine wk ?_)
    refine ⟨x, _, e, rfl, V1, _, o1, hs1, hV1, ⟨hd, hR1.oth, ?_, hR1.ol⟩, trivial, H⟩
    show s.cnt + 1 + (l.dropWhile nmB).length ≤ N
    omega
end
end Go.Proofs.YtffaffojkfalhaaGreatDoor
