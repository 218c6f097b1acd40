/-
  Sound files, the reference: SoundTo.
-/
import Derived.Test.YtjfcpnlacodjjaaSndW
namespace Go.Proofs.Ytjfcpnlacodjjaa
open Go Go.RowKit

theorem parts_bad {cs : List Chk} {k : Nat} {A : List Chk} (h : (cs.take k).filter isFD = A) (hA : ∀ f d, ¬ A <+: [(70, f), (68, d)]) : sndCs cs = none := by
  unfold sndCs
  cases hp : sndParts cs with
  | none => rfl
  | some x =>
    obtain ⟨f, d⟩ := x
    have h2 := filter_two hp
    rw [← List.take_append_drop k cs, List.filter_append, h] at h2
    exact absurd ⟨_, h2⟩ (hA f d)
theorem parts_len {cs : List Chk} (h : (cs.filter isFD).length ≠ 2) : sndCs cs = none := by
  unfold sndCs
  cases hp : sndParts cs with
  | none => rfl
  | some x =>
    obtain ⟨f, d⟩ := x
    rw [filter_two hp] at h
    exact absurd rfl h
inductive FSt (cs : List Chk) (k : Nat) : Int → Int → Prop where
  | z : (cs.take k).filter isFD = [] → FSt cs k (-1) (-1)
  | f {i : Nat} {f : List UInt8} : (cs.take k).filter isFD = [(70, f)] → cs[i]? = some (70, f) → FSt cs k (i : Int) (-1)
  | d {i j : Nat} {f d : List UInt8} : (cs.take k).filter isFD = [(70, f), (68, d)] → cs[i]? = some (70, f) → cs[j]? = some (68, d) → FSt cs k (i : Int) (j : Int)
theorem filter_snoc {cs : List Chk} {k : Nat} {c : Chk} (h : cs.take (k + 1) = cs.take k ++ [c]) (hf : isFD c = true) : (cs.take (k + 1)).filter isFD = (cs.take k).filter isFD ++ [c] := by
  rw [h, List.filter_append, List.filter_cons_of_pos hf, List.filter_nil]
theorem filter_skip {cs : List Chk} {k : Nat} {c : Chk} (h : cs.take (k + 1) = cs.take k ++ [c]) (hf : ¬ isFD c = true) : (cs.take (k + 1)).filter isFD = (cs.take k).filter isFD := by
  rw [h, List.filter_append, List.filter_cons_of_neg hf, List.filter_nil, List.append_nil]
theorem chk_eta {c : Chk} {x : UInt8} (h : c.1 = x) : c = (x, c.2) := by rw [← h]
section
variable {V W : World}
set_option maxRecDepth 100000 in
set_option maxHeartbeats 2000000 in
theorem soundTo_ref (hV : Sub V W) {s : Sl} {l : List UInt8} (hs : Byt V s l) (hl : l.length ≤ 1000) : Ret Try.prog 18 [s.v].toArray W (ToG W V (sndTo l)) := by
  have H := Rel.start hV
  have hlen := hs.len
  refine cal_of_vc tabOk Try.func18 rfl (by kernel_rfl) 170 rfl (by simp) [0, 2, 3, 4, 5, 6, 7, 8, 9, 10, 11, 12, 13, 14, 15, 16, 24, 29, 37, 43, 51, 57, 91, 128, 153, 160] ?_
  ((repeat ((conv => whnf); first | refine an ?_ | refine H.ce ?_ | refine H.db ?_ | refine ea ?_ | refine ol ?_ | (refine H.st ?_; (conv => whnf); clear H; intro w H) | refine cT ?_ | refine cF ?_ | refine cN ?_ | refine cM ?_ | refine H.lw ?_ | refine H.ll ?_)); (conv => whnf))
  ((first | refine Rel.nwD H ?_ | refine Rel.nw H ?_); clear H; intro w b2 H)
  ((repeat ((conv => whnf); first | refine an ?_ | refine H.ce ?_ | refine H.db ?_ | refine ea ?_ | refine ol ?_ | (refine H.st ?_; (conv => whnf); clear H; intro w H) | refine cT ?_ | refine cF ?_ | refine cN ?_ | refine cM ?_ | refine H.lw ?_ | refine H.ll ?_)); (conv => whnf))
  ((first | refine Rel.nwD H ?_ | refine Rel.nw H ?_); clear H; intro w b5 H)
  ((repeat ((conv => whnf); first | refine an ?_ | ((first | refine H.nwD ?_ | refine H.nw ?_); clear H; intro w _ H) | refine H.ce ?_ | refine H.db ?_ | refine ea ?_ | refine ol ?_ | (refine H.st ?_; (conv => whnf); clear H; intro w H) | refine cT ?_ | refine cF ?_ | refine cN ?_ | refine cM ?_ | refine H.lw ?_ | refine H.ll ?_)); (conv => whnf))
  refine (soundChunks_ref H.data hs (by omega)).use ?_
  rintro v w ⟨V2, r, hV2, K, hres⟩
  (have hKb := K.base; replace H := H.call0 K)
  cases hc : sndChks l with
  | none =>
    rw [hc] at hres
    dsimp only at hres
    subst hres
    have e : sndTo l = none := by rw [sndTo, sndFile, hc]
    rw [e]
    ((repeat ((conv => whnf); first | refine an ?_ | ((first | refine H.nwD ?_ | refine H.nw ?_); clear H; intro w _ H) | refine H.ce ?_ | refine H.db ?_ | refine ea ?_ | refine ol ?_ | (refine H.st ?_; (conv => whnf); clear H; intro w H) | refine cT ?_ | refine cF ?_ | refine cN ?_ | refine cM ?_ | refine H.lw ?_ | refine H.ll ?_)); (conv => whnf))
    exact ⟨V2, zeroH, ⟨none, 0, 0⟩, zeroV, [], hV2, Rel.less H.sx hV2 (by first | exact Sub.refl _ | assumption), valAt_zero _, SlF.nil _ _, rfl⟩
  | some cs =>
    rw [hc] at hres
    obtain ⟨rfl, ks, hks, hkw⟩ := hres
    have e : sndTo l = match sndCs cs with
      | none => none
      | some x => sndAns x := by
      rw [sndTo, sndFile, hc]
      rfl
    have eN : sndCs cs = none → sndTo l = none := fun h => by rw [e, h]
    have hkl := hkw.len
    have hrl := hks.len
    have hcl : (cs.length ≤ 1000 ∧ (cs.flatMap putChk).length ≤ 1000) ∧ ∀ c ∈ cs, chkOk c := by
      unfold sndChks at hc
      split at hc
      · obtain ⟨h1, h2⟩ := chks_some _ _ _ (Nat.le_refl _) hc
        have h3 := congrArg List.length h1
        have h4 := flat_count cs
        simp only [List.length_append, List.length_drop, List.length_cons, List.length_nil] at h3
        exact ⟨⟨by omega, by omega⟩, h2⟩
      · cases hc
    ((repeat ((conv => whnf); first | refine an ?_ | ((first | refine H.nwD ?_ | refine H.nw ?_); clear H; intro w _ H) | refine H.ce ?_ | refine H.db ?_ | refine ea ?_ | refine ol ?_ | (refine H.st ?_; (conv => whnf); clear H; intro w H) | refine cT ?_ | refine cF ?_ | refine cN ?_ | refine cM ?_ | refine H.lw ?_ | refine H.ll ?_)); (conv => whnf))
    refine loop_inv (S := Nat × Int × Int × Sl) tabOk [0, 2, 5, 6, 7, 13, 14, 15, 16, 24, 91, 128, 153, 160] (fun k => [(8, iv k.2.1), (9, iv k.2.2.1), (10, k.2.2.2.v), (11, iv ((notesF 0 (cs.take k.1)).length : Nat)), (12, iv k.1)]) (fun k w' => k.1 ≤ cs.length ∧ FSt cs k.1 k.2.1 k.2.2.1 ∧ ∃ V4, Sub V2 V4 ∧ Byt V4 k.2.2.2 ((notesF 0 (cs.take k.1)).flatMap noteB) ∧ Rel W V [.blk b5 (valC zeroH) 27, .blk b2 (valC zeroH) 27] V4 w') (fun k _ => cs.length - k.1) (0, -1, -1, ⟨none, 0, 0⟩) ?_
    (conv => whnf)
    refine ⟨(by repeat (first | exact trivial | refine ⟨rfl, ?_⟩)), ⟨by omega, .z rfl, V2, Sub.refl _, SlF.nil _ _, H.sx⟩, ?_⟩
    clear H
    rintro ⟨k, fm, mn, rn⟩ w ⟨hk, hst, V4, hV4, hnb, H⟩
    dsimp only at hk hst hnb H ⊢
    have hnl := notesF_len (cs.take k) 0
    rw [List.length_take] at hnl
    have hnfl : ((notesF 0 (cs.take k)).flatMap noteB).length ≤ 100000000 := by
      have := flat_len_le (f := noteB) (m := 65600) (l := notesF 0 (cs.take k)) fun x hx => by
        obtain ⟨q1, q2, q3, _⟩ := notesF_ge _ _ x hx
        rw [List.length_take] at q2
        have h1 := putN_len (n := x.1) (by omega) (by omega)
        have h3 := (hcl.2 _ (List.mem_of_mem_take q3)).2.2
        have h2 := putC_len (b := x.2.2) (by omega)
        simp only [noteB, List.length_append, List.length_cons]
        omega
      have h3 := Nat.mul_le_mul_right 65600 (show (notesF 0 (cs.take k)).length ≤ 1000 by omega)
      omega
    by_cases hlt : k < cs.length
    · have hlt' : k < ks.length := by omega
      obtain ⟨hp, hq1, hq2⟩ := (hks.up hV4).at2 (g := fun x : ChkG => iv x.1) (g' := fun x : ChkG => x.2.v) (fun _ => rfl) hlt'
      have hck := hkw.all k _ _ (List.getElem?_eq_getElem hlt') (List.getElem?_eq_getElem hlt)
      have hcok := hcl.2 _ (List.getElem_mem hlt)
      have t1 := snoc_take hlt
      have hat : cs[k]? = some cs[k] := List.getElem?_eq_getElem hlt
      generalize ks[k] = x at hq1 hq2 hck
      obtain ⟨xn, xs⟩ := x
      obtain ⟨hid, hdt⟩ := hck
      dsimp only at hid hdt hq1 hq2
      generalize cs[k] = c at hid hdt hcok t1 hat
      subst hid
      have hcd := hdt.up hV4
      have hby : c.1.toNat < 256 := UInt8.toNat_lt _
      have hc65 := hcok.2.2
      by_cases h70 : c.1.toNat = 70
      · have hfd : isFD c = true := (isFD_nat c).2 (.inl h70)
        have hc70 : c.1 = 70 := UInt8.toNat_inj.1 (by rw [h70]; rfl)
        have hfs := filter_snoc t1 hfd
        cases hst with
        | z h =>
          ((repeat ((conv => whnf); first | refine an ?_ | ((first | refine H.nwD ?_ | refine H.nw ?_); clear H; intro w _ H) | refine H.ce ?_ | refine H.db ?_ | refine ea ?_ | refine ol ?_ | (refine H.st ?_; (conv => whnf); clear H; intro w H) | refine cT ?_ | refine cF ?_ | refine cN ?_ | refine cM ?_ | refine H.lw ?_ | refine H.ll ?_)); (conv => whnf))
          refine ⟨(by repeat (first | exact trivial | refine ⟨rfl, ?_⟩)), (k + 1, k, -1, rn), ⟨rfl, rfl, rfl, congrArg (fun z => some (Value.int .i64 z)) (by dsimp only; rw [t1, notesF_snoc, if_pos hfd, List.append_nil]), rfl, trivial⟩, ⟨by dsimp only; omega, ?_, V4, hV4, ?_, H.sx⟩, by dsimp only; omega⟩
          · dsimp only
            refine .f (f := c.2) ?_ (by rw [hat]; exact congrArg some (chk_eta hc70))
            rw [hfs, h, List.nil_append]
            exact congrArg (fun z => [z]) (chk_eta hc70)
          · dsimp only
            rw [t1, notesF_snoc, if_pos hfd, List.append_nil]
            exact hnb
        | @f i f h h2 =>
          rw [eN (parts_bad (k := k + 1) (A := [(70, f), c]) (by rw [hfs, h]; rfl) (fun f' d' hp => by
            obtain ⟨t, ht⟩ := hp
            simp only [List.cons_append, List.nil_append, List.cons.injEq] at ht
            obtain ⟨_, ht, _⟩ := ht
            rw [ht] at hc70
            cases hc70))]
          ((repeat ((conv => whnf); first | refine an ?_ | ((first | refine H.nwD ?_ | refine H.nw ?_); clear H; intro w _ H) | refine H.ce ?_ | refine H.db ?_ | refine ea ?_ | refine ol ?_ | (refine H.st ?_; (conv => whnf); clear H; intro w H) | refine cT ?_ | refine cF ?_ | refine cN ?_ | refine cM ?_ | refine H.lw ?_ | refine H.ll ?_)); (conv => whnf))
          exact ⟨V2, zeroH, ⟨none, 0, 0⟩, zeroV, [], hV2, Rel.less H.sx hV2 (by first | exact Sub.refl _ | assumption), valAt_zero _, SlF.nil _ _, rfl⟩
        | @d i j f d h h2 h3 =>
          rw [eN (parts_bad (k := k + 1) (A := [(70, f), (68, d), c]) (by rw [hfs, h]; rfl) (fun f' d' hp => by
            have := hp.length_le
            simp at this))]
          ((repeat ((conv => whnf); first | refine an ?_ | ((first | refine H.nwD ?_ | refine H.nw ?_); clear H; intro w _ H) | refine H.ce ?_ | refine H.db ?_ | refine ea ?_ | refine ol ?_ | (refine H.st ?_; (conv => whnf); clear H; intro w H) | refine cT ?_ | refine cF ?_ | refine cN ?_ | refine cM ?_ | refine H.lw ?_ | refine H.ll ?_)); (conv => whnf))
          exact ⟨V2, zeroH, ⟨none, 0, 0⟩, zeroV, [], hV2, Rel.less H.sx hV2 (by first | exact Sub.refl _ | assumption), valAt_zero _, SlF.nil _ _, rfl⟩
      by_cases h68 : c.1.toNat = 68
      · have hfd : isFD c = true := (isFD_nat c).2 (.inr h68)
        have hc68 : c.1 = 68 := UInt8.toNat_inj.1 (by rw [h68]; rfl)
        have hfs := filter_snoc t1 hfd
        cases hst with
        | z h =>
          rw [eN (parts_bad (k := k + 1) (A := [c]) (by rw [hfs, h]; rfl) (fun f' d' hp => by
            obtain ⟨t, ht⟩ := hp
            simp only [List.cons_append, List.nil_append, List.cons.injEq] at ht
            rw [ht.1] at hc68
            cases hc68))]
          ((repeat ((conv => whnf); first | refine an ?_ | ((first | refine H.nwD ?_ | refine H.nw ?_); clear H; intro w _ H) | refine H.ce ?_ | refine H.db ?_ | refine ea ?_ | refine ol ?_ | (refine H.st ?_; (conv => whnf); clear H; intro w H) | refine cT ?_ | refine cF ?_ | refine cN ?_ | refine cM ?_ | refine H.lw ?_ | refine H.ll ?_)); (conv => whnf))
          exact ⟨V2, zeroH, ⟨none, 0, 0⟩, zeroV, [], hV2, Rel.less H.sx hV2 (by first | exact Sub.refl _ | assumption), valAt_zero _, SlF.nil _ _, rfl⟩
        | @f i f h h2 =>
          ((repeat ((conv => whnf); first | refine an ?_ | ((first | refine H.nwD ?_ | refine H.nw ?_); clear H; intro w _ H) | refine H.ce ?_ | refine H.db ?_ | refine ea ?_ | refine ol ?_ | (refine H.st ?_; (conv => whnf); clear H; intro w H) | refine cT ?_ | refine cF ?_ | refine cN ?_ | refine cM ?_ | refine H.lw ?_ | refine H.ll ?_)); (conv => whnf))
          refine ⟨(by repeat (first | exact trivial | refine ⟨rfl, ?_⟩)), (k + 1, i, k, rn), ⟨rfl, rfl, rfl, congrArg (fun z => some (Value.int .i64 z)) (by dsimp only; rw [t1, notesF_snoc, if_pos hfd, List.append_nil]), rfl, trivial⟩, ⟨by dsimp only; omega, ?_, V4, hV4, ?_, H.sx⟩, by dsimp only; omega⟩
          · dsimp only
            refine .d (f := f) (d := c.2) ?_ h2 (by rw [hat]; exact congrArg some (chk_eta hc68))
            rw [hfs, h]
            exact congrArg (fun z => [(70, f), z]) (chk_eta hc68)
          · dsimp only
            rw [t1, notesF_snoc, if_pos hfd, List.append_nil]
            exact hnb
        | @d i j f d h h2 h3 =>
          rw [eN (parts_bad (k := k + 1) (A := [(70, f), (68, d), c]) (by rw [hfs, h]; rfl) (fun f' d' hp => by
            have := hp.length_le
            simp at this))]
          ((repeat ((conv => whnf); first | refine an ?_ | ((first | refine H.nwD ?_ | refine H.nw ?_); clear H; intro w _ H) | refine H.ce ?_ | refine H.db ?_ | refine ea ?_ | refine ol ?_ | (refine H.st ?_; (conv => whnf); clear H; intro w H) | refine cT ?_ | refine cF ?_ | refine cN ?_ | refine cM ?_ | refine H.lw ?_ | refine H.ll ?_)); (conv => whnf))
          exact ⟨V2, zeroH, ⟨none, 0, 0⟩, zeroV, [], hV2, Rel.less H.sx hV2 (by first | exact Sub.refl _ | assumption), valAt_zero _, SlF.nil _ _, rfl⟩
      have hfd : ¬ isFD c = true := fun h => by
        have := (isFD_nat c).1 h
        omega
      have hns : notesF 0 (cs.take (k + 1)) = notesF 0 (cs.take k) ++ [((k : Int), c)] := by
        rw [t1, notesF_snoc, if_neg hfd, List.length_take, Nat.min_eq_left hk, Nat.zero_add]
      have hpk := putN_len (n := (k : Int)) (by omega) (by omega)
      have hpc := putC_len (b := c.2) (by omega)
      ((repeat ((conv => whnf); first | refine an ?_ | ((first | refine H.nwD ?_ | refine H.nw ?_); clear H; intro w _ H) | refine H.ce ?_ | refine H.db ?_ | refine ea ?_ | refine ol ?_ | (refine H.st ?_; (conv => whnf); clear H; intro w H) | refine cT ?_ | refine cF ?_ | refine cN ?_ | refine cM ?_ | refine H.lw ?_ | refine H.ll ?_)); (conv => whnf))
      ((first | refine draw_vcTX (id := 20) tabOk mixed (Kv V4) Kv.trans [2, 9, 10, 11] [7, 8, 16] [0, 1, 3, 4, 5, 6, 7, 8, 12, 13, 14, 15, 16, 2, 9, 10, 11, 17, 18, 19] [(2, []), (9, []), (10, [2, 9]), (11, [2, 9, 10]), (17, [2, 9, 10, 11]), (18, [2, 9, 10, 11, 17])] (by kernel_rfl) ?_ | refine draw_vcTX (id := 29) tabOk mixed (Kv V4) Kv.trans [18, 20] [2, 3, 7, 8, 15] [0, 1, 2, 3, 4, 5, 6, 7, 8, 9, 10, 11, 12, 13, 14, 15, 16, 17, 18, 19, 20, 21] [(18, []), (19, [18]), (20, []), (21, [18, 19, 20])] (by kernel_rfl) ?_ | refine draw_vcTX (id := 34) tabOk mixed (Kv V4) Kv.trans [2, 4, 5, 7] [0] [0, 1, 3, 6, 2, 4, 5, 7, 8, 9, 10] [(2, []), (4, [2]), (5, [2, 4]), (7, [2, 4, 5]), (8, [2, 4, 5, 7])] (by kernel_rfl) ?_); intro w hdw; replace H := Rel.ext H hdw.ext)
      repeat' (((repeat ((conv => whnf); first | refine an ?_ | refine H.ce ?_ | refine H.db ?_ | refine ea ?_ | refine ol ?_ | (refine H.st ?_; (conv => whnf); clear H; intro w H) | refine cT ?_ | refine cF ?_ | refine cN ?_ | refine cM ?_ | refine H.lw ?_ | refine H.ll ?_)); (conv => whnf)); first | (first | refine Kv.go H ?_ | refine Kv.go2 H (by assumption) ?_ | (refine And.intro (fun w1 hkp => ?_) ?_; focus ((first | have H := Kv.in H hkp | have H := Kv.in2 H (by assumption) hkp); ((repeat ((conv => whnf); first | refine an ?_ | refine H.ce ?_ | refine H.db ?_ | refine ea ?_ | refine ol ?_ | fail | refine cT ?_ | refine cF ?_ | refine cN ?_ | refine cM ?_ | refine H.lw ?_ | refine H.ll ?_)); (conv => whnf)); all_goals (first | exact ⟨rfl, rfl⟩ | exact rfl))) | refine And.intro ?_ ?_ | ((first | refine Rel.nwD H ?_ | refine Rel.nw H ?_); clear H; intro w _ H)) | (refine (put_ref (n := (k : Int)) H.data (by constructor <;> omega)).use ?_; rintro q w ⟨r1, rfl, K⟩; (have hKb := K.base; replace H := Rel.call H K); simp only [List.cons_append, List.nil_append] at H))
      all_goals
        ((repeat ((conv => whnf); first | refine an ?_ | refine H.ce ?_ | refine H.db ?_ | refine ea ?_ | refine ol ?_ | (refine H.st ?_; (conv => whnf); clear H; intro w H) | refine cT ?_ | refine cF ?_ | refine cN ?_ | refine cM ?_ | refine H.lw ?_ | refine H.ll ?_)); (conv => whnf))
        have H0 : Rel W V [.blk _ [.int .u8 (wr .u8 (c.1.toNat : Nat))] 5, .row r1 5 1 ((putN k).flatMap byC), .blk b5 (valC zeroH) 27, .blk b2 (valC zeroH) 27] V4 w := H.pick
        replace H0 := H0.blkEq (c' := byC c.1) (by rw [show wr .u8 ((c.1.toNat : Nat) : Int) = (c.1.toNat : Int) from (by show ((c.1.toNat : Nat) : Int) % 256 = _; omega)])
        refine Rel.app1_0 (f := byC) (s := r1) (l := putN k) (x := c.1) tabOk rfl rfl rfl rfl rfl (by decide) (fun _ => rfl) (List.all_eq_true.1 rfl) H0 (by simp; omega) (by omega) ?_
        clear H H0
        intro r2 w H
        repeat' (((repeat ((conv => whnf); first | refine an ?_ | refine H.ce ?_ | refine H.db ?_ | refine ea ?_ | refine ol ?_ | (refine H.st ?_; (conv => whnf); clear H; intro w H) | refine cT ?_ | refine cF ?_ | refine cN ?_ | refine cM ?_ | refine H.lw ?_ | refine H.ll ?_)); (conv => whnf)); (first | refine Kv.go H ?_ | refine Kv.go2 H (by assumption) ?_ | (refine And.intro (fun w1 hkp => ?_) ?_; focus ((first | have H := Kv.in H hkp | have H := Kv.in2 H (by assumption) hkp); ((repeat ((conv => whnf); first | refine an ?_ | refine H.ce ?_ | refine H.db ?_ | refine ea ?_ | refine ol ?_ | fail | refine cT ?_ | refine cF ?_ | refine cN ?_ | refine cM ?_ | refine H.lw ?_ | refine H.ll ?_)); (conv => whnf)); all_goals (first | exact ⟨rfl, rfl⟩ | exact rfl))) | refine And.intro ?_ ?_ | ((first | refine Rel.nwD H ?_ | refine Rel.nw H ?_); clear H; intro w _ H)))
        obtain ⟨V5, hV5, H, hr2⟩ := Rel.freezeF H (fun _ => rfl) (by decide)
        ((repeat ((conv => whnf); first | refine an ?_ | refine H.ce ?_ | refine H.db ?_ | refine ea ?_ | refine ol ?_ | (refine H.st ?_; (conv => whnf); clear H; intro w H) | refine cT ?_ | refine cF ?_ | refine cN ?_ | refine cM ?_ | refine H.lw ?_ | refine H.ll ?_)); (conv => whnf))
        refine (join_ref H.data (hnb.up hV5) hr2 (by simp only [List.length_append, List.length_cons, List.length_nil]; omega)).use ?_
        rintro q w ⟨r3, rfl, K⟩
        (have hKb := K.base; replace H := Rel.call H K)
        simp only [List.cons_append, List.nil_append] at H
        repeat' (((repeat ((conv => whnf); first | refine an ?_ | refine H.ce ?_ | refine H.db ?_ | refine ea ?_ | refine ol ?_ | (refine H.st ?_; (conv => whnf); clear H; intro w H) | refine cT ?_ | refine cF ?_ | refine cN ?_ | refine cM ?_ | refine H.lw ?_ | refine H.ll ?_)); (conv => whnf)); (first | refine Kv.go H ?_ | refine Kv.go2 H (by assumption) ?_ | (refine And.intro (fun w1 hkp => ?_) ?_; focus ((first | have H := Kv.in H hkp | have H := Kv.in2 H (by assumption) hkp); ((repeat ((conv => whnf); first | refine an ?_ | refine H.ce ?_ | refine H.db ?_ | refine ea ?_ | refine ol ?_ | fail | refine cT ?_ | refine cF ?_ | refine cN ?_ | refine cM ?_ | refine H.lw ?_ | refine H.ll ?_)); (conv => whnf)); all_goals (first | exact ⟨rfl, rfl⟩ | exact rfl))) | refine And.intro ?_ ?_ | ((first | refine Rel.nwD H ?_ | refine Rel.nw H ?_); clear H; intro w _ H)))
        obtain ⟨V6, hV6, H, hr3⟩ := Rel.freezeF H (fun _ => rfl) (by decide)
        have hV46 := hV5.trans hV6
        ((repeat ((conv => whnf); first | refine an ?_ | refine H.ce ?_ | refine H.db ?_ | refine ea ?_ | refine ol ?_ | (refine H.st ?_; (conv => whnf); clear H; intro w H) | refine cT ?_ | refine cF ?_ | refine cN ?_ | refine cM ?_ | refine H.lw ?_ | refine H.ll ?_)); (conv => whnf))
        refine (putChunk_ref H.data ((hcd.up hV5).up hV6) (by omega)).use ?_
        rintro q w ⟨r4, rfl, K⟩
        (have hKb := K.base; replace H := Rel.call H K)
        simp only [List.cons_append, List.nil_append] at H
        repeat' (((repeat ((conv => whnf); first | refine an ?_ | refine H.ce ?_ | refine H.db ?_ | refine ea ?_ | refine ol ?_ | (refine H.st ?_; (conv => whnf); clear H; intro w H) | refine cT ?_ | refine cF ?_ | refine cN ?_ | refine cM ?_ | refine H.lw ?_ | refine H.ll ?_)); (conv => whnf)); (first | refine Kv.go H ?_ | refine Kv.go2 H (by assumption) ?_ | (refine And.intro (fun w1 hkp => ?_) ?_; focus ((first | have H := Kv.in H hkp | have H := Kv.in2 H (by assumption) hkp); ((repeat ((conv => whnf); first | refine an ?_ | refine H.ce ?_ | refine H.db ?_ | refine ea ?_ | refine ol ?_ | fail | refine cT ?_ | refine cF ?_ | refine cN ?_ | refine cM ?_ | refine H.lw ?_ | refine H.ll ?_)); (conv => whnf)); all_goals (first | exact ⟨rfl, rfl⟩ | exact rfl))) | refine And.intro ?_ ?_ | ((first | refine Rel.nwD H ?_ | refine Rel.nw H ?_); clear H; intro w _ H)))
        obtain ⟨V7, hV7, H, hr4⟩ := Rel.freezeF H (fun _ => rfl) (by decide)
        ((repeat ((conv => whnf); first | refine an ?_ | refine H.ce ?_ | refine H.db ?_ | refine ea ?_ | refine ol ?_ | (refine H.st ?_; (conv => whnf); clear H; intro w H) | refine cT ?_ | refine cF ?_ | refine cN ?_ | refine cM ?_ | refine H.lw ?_ | refine H.ll ?_)); (conv => whnf))
        refine (join_ref H.data (hr3.up hV7) hr4 (by simp only [List.length_append, List.length_cons, List.length_nil]; omega)).use ?_
        rintro q w ⟨r5, rfl, K⟩
        (have hKb := K.base; replace H := Rel.call H K)
        simp only [List.cons_append, List.nil_append] at H
        obtain ⟨V8, hV8, H, hr5⟩ := Rel.freezeF H (fun _ => rfl) (by decide)
        ((repeat ((conv => whnf); first | refine an ?_ | ((first | refine H.nwD ?_ | refine H.nw ?_); clear H; intro w _ H) | refine H.ce ?_ | refine H.db ?_ | refine ea ?_ | refine ol ?_ | (refine H.st ?_; (conv => whnf); clear H; intro w H) | refine cT ?_ | refine cF ?_ | refine cN ?_ | refine cM ?_ | refine H.lw ?_ | refine H.ll ?_)); (conv => whnf))
        refine ⟨(by repeat (first | exact trivial | refine ⟨rfl, ?_⟩)), (k + 1, fm, mn, r5), ⟨rfl, rfl, rfl, congrArg (fun z => some (Value.int .i64 z)) (by dsimp only; rw [hns]; simp), rfl, trivial⟩, ⟨by dsimp only; omega, ?_, V8, (((hV4.trans hV5).trans hV6).trans hV7).trans hV8, ?_, H.sx⟩, by dsimp only; omega⟩
        · dsimp only
          cases hst with
          | z h => exact .z (by rw [filter_skip t1 hfd]; exact h)
          | f h h2 => exact .f (by rw [filter_skip t1 hfd]; exact h) h2
          | d h h2 h3 => exact .d (by rw [filter_skip t1 hfd]; exact h) h2 h3
        · dsimp only
          rw [hns]
          have : (notesF 0 (cs.take k) ++ [((k : Int), c)]).flatMap noteB = (notesF 0 (cs.take k)).flatMap noteB ++ (putN k ++ [c.1]) ++ putC c.2 := by simp [noteB]
          rw [this]
          exact hr5
    rw [List.take_of_length_le (by omega)] at hnb
    have hkN : k = cs.length := by omega
    subst hkN
    cases hst with
    | z h =>
      rw [List.take_length] at h
      rw [eN (parts_len (by rw [h]; decide))]
      ((repeat ((conv => whnf); first | refine an ?_ | ((first | refine H.nwD ?_ | refine H.nw ?_); clear H; intro w _ H) | refine H.ce ?_ | refine H.db ?_ | refine ea ?_ | refine ol ?_ | (refine H.st ?_; (conv => whnf); clear H; intro w H) | refine cT ?_ | refine cF ?_ | refine cN ?_ | refine cM ?_ | refine H.lw ?_ | refine H.ll ?_)); (conv => whnf))
      exact ⟨V2, zeroH, ⟨none, 0, 0⟩, zeroV, [], hV2, Rel.less H.sx hV2 (by first | exact Sub.refl _ | assumption), valAt_zero _, SlF.nil _ _, rfl⟩
    | @f i f h h2 =>
      rw [List.take_length] at h
      rw [eN (parts_len (by rw [h]; simp))]
      ((repeat ((conv => whnf); first | refine an ?_ | ((first | refine H.nwD ?_ | refine H.nw ?_); clear H; intro w _ H) | refine H.ce ?_ | refine H.db ?_ | refine ea ?_ | refine ol ?_ | (refine H.st ?_; (conv => whnf); clear H; intro w H) | refine cT ?_ | refine cF ?_ | refine cN ?_ | refine cM ?_ | refine H.lw ?_ | refine H.ll ?_)); (conv => whnf))
      exact ⟨V2, zeroH, ⟨none, 0, 0⟩, zeroV, [], hV2, Rel.less H.sx hV2 (by first | exact Sub.refl _ | assumption), valAt_zero _, SlF.nil _ _, rfl⟩
    | @d i j f d h h2 h3 =>
      rw [List.take_length] at h
      have htl : cs.take cs.length = cs := List.take_length
      have hnn : (notesF 0 (cs.take cs.length)).length = (notesF 0 cs).length := by rw [htl]
      have hpp := parts_two h
      have hcs : sndCs cs = if fOk f d then some (sndOf f d (notesF 0 cs)) else none := by rw [sndCs, hpp]
      obtain ⟨hi, hie⟩ := List.getElem?_eq_some_iff.1 h2
      obtain ⟨hj, hje⟩ := List.getElem?_eq_some_iff.1 h3
      have hi' : i < ks.length := by omega
      have hj' : j < ks.length := by omega
      obtain ⟨hp, hq1, hq2⟩ := (hks.up hV4).at2 (g := fun x : ChkG => iv x.1) (g' := fun x : ChkG => x.2.v) (fun _ => rfl) hi'
      obtain ⟨hp', hr1, hr2⟩ := (hks.up hV4).at2 (g := fun x : ChkG => iv x.1) (g' := fun x : ChkG => x.2.v) (fun _ => rfl) hj'
      have hfd := (hkw.all i _ _ (List.getElem?_eq_getElem hi') h2).data.up hV4
      have hdd := (hkw.all j _ _ (List.getElem?_eq_getElem hj') h3).data.up hV4
      generalize ks[i] = x at hq1 hq2 hfd
      generalize ks[j] = y at hr1 hr2 hdd
      obtain ⟨xn, xs⟩ := x
      obtain ⟨yn, ys⟩ := y
      dsimp only at hfd hdd hq1 hq2 hr1 hr2
      have hfl := hfd.len
      have hdl := hdd.len
      have hdb := data_le (c := (68, d)) (by rw [h]; simp)
      have hfb := data_le (c := (70, f)) (by rw [h]; simp)
      dsimp only at hdb hfb
      by_cases hf4 : f.length = 4
      rotate_left
      · rw [eN (by rw [hcs, if_neg (fun h => hf4 h.1)])]
        ((repeat ((conv => whnf); first | refine an ?_ | ((first | refine H.nwD ?_ | refine H.nw ?_); clear H; intro w _ H) | refine H.ce ?_ | refine H.db ?_ | refine ea ?_ | refine ol ?_ | (refine H.st ?_; (conv => whnf); clear H; intro w H) | refine cT ?_ | refine cF ?_ | refine cN ?_ | refine cM ?_ | refine H.lw ?_ | refine H.ll ?_)); (conv => whnf))
        exact ⟨V2, zeroH, ⟨none, 0, 0⟩, zeroV, [], hV2, Rel.less H.sx hV2 (by first | exact Sub.refl _ | assumption), valAt_zero _, SlF.nil _ _, rfl⟩
      obtain ⟨p0, d0⟩ := hfd.cell8 (i := 0) (by omega)
      obtain ⟨_, d1⟩ := hfd.cell8 (i := 1) (by omega)
      obtain ⟨_, d2⟩ := hfd.cell8 (i := 2) (by omega)
      obtain ⟨_, d3⟩ := hfd.cell8 (i := 3) (by omega)
      have g0 : at8 f 0 < 256 := UInt8.toNat_lt _
      have g1 : at8 f 1 < 256 := UInt8.toNat_lt _
      have g2 : at8 f 2 < 256 := UInt8.toNat_lt _
      have g3 : at8 f 3 < 256 := UInt8.toNat_lt _
      ((repeat ((conv => whnf); first | refine an ?_ | ((first | refine H.nwD ?_ | refine H.nw ?_); clear H; intro w _ H) | refine H.ce ?_ | refine H.db ?_ | refine ea ?_ | refine ol ?_ | (refine H.st ?_; (conv => whnf); clear H; intro w H) | refine cT ?_ | refine cF ?_ | refine cN ?_ | refine cM ?_ | refine H.lw ?_ | refine H.ll ?_)); (conv => whnf))
      refine (in_ref (at8 f 2 : Nat) 1 2 w).use ?_
      rintro q w' ⟨rfl, rfl⟩
      by_cases q1 : (1 : Int) ≤ (at8 f 2 : Nat) ∧ ((at8 f 2 : Nat) : Int) ≤ 2
      rotate_left
      · rw [eN (by rw [hcs, if_neg (fun h => by have := h.2.1; omega)]), decide_eq_false q1]
        ((repeat ((conv => whnf); first | refine an ?_ | ((first | refine H.nwD ?_ | refine H.nw ?_); clear H; intro w _ H) | refine H.ce ?_ | refine H.db ?_ | refine ea ?_ | refine ol ?_ | (refine H.st ?_; (conv => whnf); clear H; intro w H) | refine cT ?_ | refine cF ?_ | refine cN ?_ | refine cM ?_ | refine H.lw ?_ | refine H.ll ?_)); (conv => whnf))
        exact ⟨V2, zeroH, ⟨none, 0, 0⟩, zeroV, [], hV2, Rel.less H.sx hV2 (by first | exact Sub.refl _ | assumption), valAt_zero _, SlF.nil _ _, rfl⟩
      rw [decide_eq_true q1]
      ((repeat ((conv => whnf); first | refine an ?_ | ((first | refine H.nwD ?_ | refine H.nw ?_); clear H; intro w _ H) | refine H.ce ?_ | refine H.db ?_ | refine ea ?_ | refine ol ?_ | (refine H.st ?_; (conv => whnf); clear H; intro w H) | refine cT ?_ | refine cF ?_ | refine cN ?_ | refine cM ?_ | refine H.lw ?_ | refine H.ll ?_)); (conv => whnf))
      refine (in_ref (at8 f 3 : Nat) 0 3 w).use ?_
      rintro q w' ⟨rfl, rfl⟩
      by_cases q2 : (0 : Int) ≤ (at8 f 3 : Nat) ∧ ((at8 f 3 : Nat) : Int) ≤ 3
      rotate_left
      · rw [eN (by rw [hcs, if_neg (fun h => by have := h.2.2.1; omega)]), decide_eq_false q2]
        ((repeat ((conv => whnf); first | refine an ?_ | ((first | refine H.nwD ?_ | refine H.nw ?_); clear H; intro w _ H) | refine H.ce ?_ | refine H.db ?_ | refine ea ?_ | refine ol ?_ | (refine H.st ?_; (conv => whnf); clear H; intro w H) | refine cT ?_ | refine cF ?_ | refine cN ?_ | refine cM ?_ | refine H.lw ?_ | refine H.ll ?_)); (conv => whnf))
        exact ⟨V2, zeroH, ⟨none, 0, 0⟩, zeroV, [], hV2, Rel.less H.sx hV2 (by first | exact Sub.refl _ | assumption), valAt_zero _, SlF.nil _ _, rfl⟩
      rw [decide_eq_true q2]
      ((repeat ((conv => whnf); first | refine an ?_ | ((first | refine H.nwD ?_ | refine H.nw ?_); clear H; intro w _ H) | refine H.ce ?_ | refine H.db ?_ | refine ea ?_ | refine ol ?_ | (refine H.st ?_; (conv => whnf); clear H; intro w H) | refine cT ?_ | refine cF ?_ | refine cN ?_ | refine cM ?_ | refine H.lw ?_ | refine H.ll ?_)); (conv => whnf))
      obtain ⟨M, hM⟩ : ∃ M, M = (at8 f 3 % 2 + 1) * at8 f 2 := ⟨_, rfl⟩
      have hM1 : 1 ≤ M ∧ M ≤ 4 := by
        rcases (by omega : at8 f 2 = 1 ∨ at8 f 2 = 2) with h | h <;> rw [h] at hM <;> omega
      have hMi : (1 + ((at8 f 3 : Nat) : Int) % 2) * ((at8 f 2 : Nat) : Int) = (M : Int) := by
        rw [hM]
        push_cast
        rw [Int.add_comm]
      rw [hMi]
      have hmod : ((ys.len : Nat) : Int) % (M : Int) = ((d.length % M : Nat) : Int) := by rw [hdl]; exact (Int.natCast_emod _ _).symm
      by_cases hm : d.length % M = 0
      rotate_left
      · rw [eN (by rw [hcs, if_neg (fun h => hm (by rw [hM]; exact h.2.2.2))])]
        ((repeat ((conv => whnf); first | refine an ?_ | ((first | refine H.nwD ?_ | refine H.nw ?_); clear H; intro w _ H) | refine H.ce ?_ | refine H.db ?_ | refine ea ?_ | refine ol ?_ | (refine H.st ?_; (conv => whnf); clear H; intro w H) | refine cT ?_ | refine cF ?_ | refine cN ?_ | refine cM ?_ | refine H.lw ?_ | refine H.ll ?_)); (conv => whnf))
        exact ⟨V2, zeroH, ⟨none, 0, 0⟩, zeroV, [], hV2, Rel.less H.sx hV2 (by first | exact Sub.refl _ | assumption), valAt_zero _, SlF.nil _ _, rfl⟩
      have hok : fOk f d := ⟨hf4, by omega, by omega, by rw [← hM]; exact hm⟩
      rw [hcs, if_pos hok] at e
      simp only at e
      obtain ⟨X, hX⟩ : ∃ X, X = sndOf f d (notesF 0 cs) := ⟨_, rfl⟩
      rw [← hX] at e
      have x1 : X.rate = 256 * at8 f 0 + at8 f 1 := by rw [hX]; rfl
      have x2 : X.ch = at8 f 2 := by rw [hX]; rfl
      have x3 : X.coding = at8 f 3 := by rw [hX]; rfl
      have x4 : X.smp = sndVals d (at8 f 3) (at8 f 2) := by rw [hX]; rfl
      have x5 : X.notes = notesF 0 cs := by rw [hX]; rfl
      have hsl := sndVals_len_le d (at8 f 3) (at8 f 2)
      have hB : VB 1048576 (sndVal X.rate X.ch (sndPcm X.smp)) := vb_snd (by constructor <;> omega) (by constructor <;> omega) (by rw [sndPcm_len, x4]; omega)
      ((repeat ((conv => whnf); first | refine an ?_ | ((first | refine H.nwD ?_ | refine H.nw ?_); clear H; intro w _ H) | refine H.ce ?_ | refine H.db ?_ | refine ea ?_ | refine ol ?_ | (refine H.st ?_; (conv => whnf); clear H; intro w H) | refine cT ?_ | refine cF ?_ | refine cN ?_ | refine cM ?_ | refine H.lw ?_ | refine H.ll ?_)); (conv => whnf))
      refine SemC.cutN (fun q : Nat × VH => [(2, .pointer (some ⟨b2, 0, none⟩)), (5, .pointer (some ⟨b5, 0, none⟩)), (10, rn.v), (11, iv ((notesF 0 (cs.take cs.length)).length : Nat)), (15, iv (at8 f 3 : Nat)), (16, .pointer (some ⟨q.1, 0, none⟩))])
        (fun q w' => ∃ V5, Sub V4 V5 ∧ ValAt V5 q.2 (sndVal X.rate X.ch (sndPcm X.smp)) ∧ Rel W V [.blk q.1 (valC q.2) 27, .blk b5 (valC zeroH) 27, .blk b2 (valC zeroH) 27] V5 w') ?_ ?_
      · ((first | refine draw_vcTX (id := 20) tabOk mixed (Kv V4) Kv.trans [2, 9, 10, 11] [7, 8, 16] [0, 1, 3, 4, 5, 6, 7, 8, 12, 13, 14, 15, 16, 2, 9, 10, 11, 17, 18, 19] [(2, []), (9, []), (10, [2, 9]), (11, [2, 9, 10]), (17, [2, 9, 10, 11]), (18, [2, 9, 10, 11, 17])] (by kernel_rfl) ?_ | refine draw_vcTX (id := 29) tabOk mixed (Kv V4) Kv.trans [18, 20] [2, 3, 7, 8, 15] [0, 1, 2, 3, 4, 5, 6, 7, 8, 9, 10, 11, 12, 13, 14, 15, 16, 17, 18, 19, 20, 21] [(18, []), (19, [18]), (20, []), (21, [18, 19, 20])] (by kernel_rfl) ?_ | refine draw_vcTX (id := 34) tabOk mixed (Kv V4) Kv.trans [2, 4, 5, 7] [0] [0, 1, 3, 6, 2, 4, 5, 7, 8, 9, 10] [(2, []), (4, [2]), (5, [2, 4]), (7, [2, 4, 5]), (8, [2, 4, 5, 7])] (by kernel_rfl) ?_); intro w hdw; replace H := Rel.ext H hdw.ext)
        repeat' (((repeat ((conv => whnf); first | refine an ?_ | refine H.ce ?_ | refine H.db ?_ | refine ea ?_ | refine ol ?_ | (refine H.st ?_; (conv => whnf); clear H; intro w H) | refine cT ?_ | refine cF ?_ | refine cN ?_ | refine cM ?_ | refine H.lw ?_ | refine H.ll ?_)); (conv => whnf)); first | (first | refine Kv.go H ?_ | refine Kv.go2 H (by assumption) ?_ | (refine And.intro (fun w1 hkp => ?_) ?_; focus ((first | have H := Kv.in H hkp | have H := Kv.in2 H (by assumption) hkp); ((repeat ((conv => whnf); first | refine an ?_ | refine H.ce ?_ | refine H.db ?_ | refine ea ?_ | refine ol ?_ | fail | refine cT ?_ | refine cF ?_ | refine cN ?_ | refine cM ?_ | refine H.lw ?_ | refine H.ll ?_)); (conv => whnf)); all_goals (first | exact ⟨rfl, rfl⟩ | exact rfl))) | refine And.intro ?_ ?_ | ((first | refine Rel.nwD H ?_ | refine Rel.nw H ?_); clear H; intro w _ H)) | (refine (soundValues_ref H.data (by omega) (by omega) (by first | exact hdd) (by omega)).use ?_; rintro q w ⟨rv, rfl, K⟩; (have hKb := K.base; replace H := Rel.call H K); simp only [List.cons_append, List.nil_append] at H; obtain ⟨V5, hV5, H, hrv⟩ := Rel.freezeF H (fun _ => rfl) (by decide)) | (refine (plainSound_ref (ch := at8 f 2) H.data _ (by omega) hrv (by omega) sndVals_range).use ?_; rintro q w ⟨V6, hh, hV6, K, rfl, hvv⟩; (have hKb := K.base; replace H := Rel.call H K); have hV46 := hV5.trans hV6; simp only [List.cons_append, List.nil_append] at H))
        all_goals
          ((repeat ((conv => whnf); first | refine an ?_ | ((first | refine H.nwD ?_ | refine H.nw ?_); clear H; intro w _ H) | refine H.ce ?_ | refine H.db ?_ | refine ea ?_ | refine ol ?_ | (refine H.st ?_; (conv => whnf); clear H; intro w H) | refine cT ?_ | refine cF ?_ | refine cN ?_ | refine cM ?_ | refine H.lw ?_ | refine H.ll ?_)); (conv => whnf))
          refine ⟨(_, hh), (by repeat (first | exact trivial | refine ⟨rfl, ?_⟩)), V6, hV46, ?_, H.pick⟩
          dsimp only
          rw [x1, x2, x4]
          exact hvv
      clear H
      rintro ⟨b16, hh⟩ w ⟨V5, hV5, hvv, H⟩
      dsimp only at H hvv
      ((repeat ((conv => whnf); first | refine an ?_ | ((first | refine H.nwD ?_ | refine H.nw ?_); clear H; intro w _ H) | refine H.ce ?_ | refine H.db ?_ | refine ea ?_ | refine ol ?_ | (refine H.st ?_; (conv => whnf); clear H; intro w H) | refine cT ?_ | refine cF ?_ | refine cN ?_ | refine cM ?_ | refine H.lw ?_ | refine H.ll ?_)); (conv => whnf))
      refine (valueFault_ref H.data hvv hB).use ?_
      rintro q w ⟨rfl, K⟩
      (have hKb := K.base; replace H := H.call0 K)
      have hV25 := hV4.trans hV5
      by_cases hvf : (vfault (sndVal X.rate X.ch (sndPcm X.smp))).1 = 0
      rotate_left
      · have e2 : sndTo l = none := by rw [e, sndAns, if_pos hvf]
        rw [e2]
        ((repeat ((conv => whnf); first | refine an ?_ | ((first | refine H.nwD ?_ | refine H.nw ?_); clear H; intro w _ H) | refine H.ce ?_ | refine H.db ?_ | refine ea ?_ | refine ol ?_ | (refine H.st ?_; (conv => whnf); clear H; intro w H) | refine cT ?_ | refine cF ?_ | refine cN ?_ | refine cM ?_ | refine H.lw ?_ | refine H.ll ?_)); (conv => whnf))
        exact ⟨V5, zeroH, ⟨none, 0, 0⟩, zeroV, [], hV2.trans hV25, H.sx, valAt_zero _, SlF.nil _ _, rfl⟩
      rw [vfault_zz hvf]
      have e2 : sndTo l = some (sndVal X.rate X.ch (sndPcm X.smp), sndRes X.coding X.notes) := by rw [e, sndAns, if_neg (fun h => h hvf)]
      rw [e2, x3, x5]
      have hnt := notes_count h
      by_cases q3 : at8 f 3 = 1 ∧ (notesF 0 cs).length = 0
      · obtain ⟨q3a, q3b⟩ := q3
        rw [show sndRes (at8 f 3) (notesF 0 cs) = [] by rw [sndRes, if_pos ⟨q3a, List.eq_nil_of_length_eq_zero q3b⟩]]
        ((repeat ((conv => whnf); first | refine an ?_ | ((first | refine H.nwD ?_ | refine H.nw ?_); clear H; intro w _ H) | refine H.ce ?_ | refine H.db ?_ | refine ea ?_ | refine ol ?_ | (refine H.st ?_; (conv => whnf); clear H; intro w H) | refine cT ?_ | refine cF ?_ | refine cN ?_ | refine cM ?_ | refine H.lw ?_ | refine H.ll ?_)); (conv => whnf))
        exact ⟨V5, hh, ⟨none, 0, 0⟩, _, [], hV2.trans hV25, H.sx, hvv, SlF.nil _ _, rfl, rfl⟩
      have er : sndRes (at8 f 3) (notesF 0 cs) = (putN (at8 f 3 : Nat) ++ putN ((notesF 0 cs).length : Nat)) ++ (notesF 0 cs).flatMap noteB := by
        rw [sndRes, if_neg (fun h => q3 ⟨h.1, by rw [h.2]; rfl⟩), putL, List.append_assoc]
      rw [er]
      have a1 := putN_len (n := ((at8 f 3 : Nat) : Int)) (by omega) (by omega)
      have a2 := putN_len (n := (((notesF 0 cs).length : Nat) : Int)) (by omega) (by omega)
      have hnfl2 : ((notesF 0 cs).flatMap noteB).length ≤ 100000000 := by rw [List.take_length] at hnfl; exact hnfl
      by_cases q4 : at8 f 3 = 1
      · have q5 : (notesF 0 cs).length ≠ 0 := fun h => q3 ⟨q4, h⟩
        ((repeat ((conv => whnf); first | refine an ?_ | ((first | refine H.nwD ?_ | refine H.nw ?_); clear H; intro w _ H) | refine H.ce ?_ | refine H.db ?_ | refine ea ?_ | refine ol ?_ | (refine H.st ?_; (conv => whnf); clear H; intro w H) | refine cT ?_ | refine cF ?_ | refine cN ?_ | refine cM ?_ | refine H.lw ?_ | refine H.ll ?_)); (conv => whnf))
        ((first | refine draw_vc (id := 34) tabOk mixed [2, 4, 5, 7] [0, 1, 3, 6, 2, 4, 5, 7, 8, 9, 10] (by kernel_rfl) ?_); intro w hdw; replace H := Rel.ext H hdw.ext)
        ((repeat ((conv => whnf); first | refine an ?_ | ((first | refine H.nwD ?_ | refine H.nw ?_); clear H; intro w _ H) | refine H.ce ?_ | refine H.db ?_ | refine ea ?_ | refine ol ?_ | (refine H.st ?_; (conv => whnf); clear H; intro w H) | refine cT ?_ | refine cF ?_ | refine cN ?_ | refine cM ?_ | refine H.lw ?_ | refine H.ll ?_)); (conv => whnf))
        refine (put_ref (n := ((at8 f 3 : Nat) : Int)) H.data (by constructor <;> omega)).use ?_
        rintro q w ⟨r1, rfl, K⟩
        (have hKb := K.base; replace H := Rel.call H K)
        simp only [List.cons_append, List.nil_append] at H
        ((repeat ((conv => whnf); first | refine an ?_ | ((first | refine H.nwD ?_ | refine H.nw ?_); clear H; intro w _ H) | refine H.ce ?_ | refine H.db ?_ | refine ea ?_ | refine ol ?_ | (refine H.st ?_; (conv => whnf); clear H; intro w H) | refine cT ?_ | refine cF ?_ | refine cN ?_ | refine cM ?_ | refine H.lw ?_ | refine H.ll ?_)); (conv => whnf))
        obtain ⟨V6, hV6, H, hr1⟩ := Rel.freezeF H (fun _ => rfl) (by decide)
        refine (put_ref (n := (((notesF 0 (cs.take cs.length)).length : Nat) : Int)) H.data (by constructor <;> omega)).use ?_
        rintro q w ⟨r2, rfl, K⟩
        (have hKb := K.base; replace H := Rel.call H K)
        simp only [List.cons_append, List.nil_append] at H
        ((repeat ((conv => whnf); first | refine an ?_ | ((first | refine H.nwD ?_ | refine H.nw ?_); clear H; intro w _ H) | refine H.ce ?_ | refine H.db ?_ | refine ea ?_ | refine ol ?_ | (refine H.st ?_; (conv => whnf); clear H; intro w H) | refine cT ?_ | refine cF ?_ | refine cN ?_ | refine cM ?_ | refine H.lw ?_ | refine H.ll ?_)); (conv => whnf))
        obtain ⟨V7, hV7, H, hr2⟩ := Rel.freezeF H (fun _ => rfl) (by decide)
        rw [htl] at hr2
        refine (join_ref H.data (hr1.up hV7) hr2 (by omega)).use ?_
        rintro q w ⟨r3, rfl, K⟩
        (have hKb := K.base; replace H := Rel.call H K)
        simp only [List.cons_append, List.nil_append] at H
        ((repeat ((conv => whnf); first | refine an ?_ | ((first | refine H.nwD ?_ | refine H.nw ?_); clear H; intro w _ H) | refine H.ce ?_ | refine H.db ?_ | refine ea ?_ | refine ol ?_ | (refine H.st ?_; (conv => whnf); clear H; intro w H) | refine cT ?_ | refine cF ?_ | refine cN ?_ | refine cM ?_ | refine H.lw ?_ | refine H.ll ?_)); (conv => whnf))
        obtain ⟨V8, hV8, H, hr3⟩ := Rel.freezeF H (fun _ => rfl) (by decide)
        have hV58 := (hV6.trans hV7).trans hV8
        refine (join_ref H.data hr3 (hnb.up (hV5.trans hV58)) (by rw [List.length_append]; omega)).use ?_
        rintro q w ⟨r4, rfl, K⟩
        (have hKb := K.base; replace H := Rel.call H K)
        simp only [List.cons_append, List.nil_append] at H
        ((repeat ((conv => whnf); first | refine an ?_ | ((first | refine H.nwD ?_ | refine H.nw ?_); clear H; intro w _ H) | refine H.ce ?_ | refine H.db ?_ | refine ea ?_ | refine ol ?_ | (refine H.st ?_; (conv => whnf); clear H; intro w H) | refine cT ?_ | refine cF ?_ | refine cN ?_ | refine cM ?_ | refine H.lw ?_ | refine H.ll ?_)); (conv => whnf))
        obtain ⟨V9, hV9, H, hr4⟩ := Rel.freezeF H (fun _ => rfl) (by decide)
        exact ⟨V9, hh, r4, _, _, ((hV2.trans hV25).trans hV58).trans hV9, H.sx, (hvv.up hV58).up hV9, hr4, rfl, rfl⟩
      · ((repeat ((conv => whnf); first | refine an ?_ | ((first | refine H.nwD ?_ | refine H.nw ?_); clear H; intro w _ H) | refine H.ce ?_ | refine H.db ?_ | refine ea ?_ | refine ol ?_ | (refine H.st ?_; (conv => whnf); clear H; intro w H) | refine cT ?_ | refine cF ?_ | refine cN ?_ | refine cM ?_ | refine H.lw ?_ | refine H.ll ?_)); (conv => whnf))
        ((first | refine draw_vc (id := 34) tabOk mixed [2, 4, 5, 7] [0, 1, 3, 6, 2, 4, 5, 7, 8, 9, 10] (by kernel_rfl) ?_); intro w hdw; replace H := Rel.ext H hdw.ext)
        ((repeat ((conv => whnf); first | refine an ?_ | ((first | refine H.nwD ?_ | refine H.nw ?_); clear H; intro w _ H) | refine H.ce ?_ | refine H.db ?_ | refine ea ?_ | refine ol ?_ | (refine H.st ?_; (conv => whnf); clear H; intro w H) | refine cT ?_ | refine cF ?_ | refine cN ?_ | refine cM ?_ | refine H.lw ?_ | refine H.ll ?_)); (conv => whnf))
        refine (put_ref (n := ((at8 f 3 : Nat) : Int)) H.data (by constructor <;> omega)).use ?_
        rintro q w ⟨r1, rfl, K⟩
        (have hKb := K.base; replace H := Rel.call H K)
        simp only [List.cons_append, List.nil_append] at H
        ((repeat ((conv => whnf); first | refine an ?_ | ((first | refine H.nwD ?_ | refine H.nw ?_); clear H; intro w _ H) | refine H.ce ?_ | refine H.db ?_ | refine ea ?_ | refine ol ?_ | (refine H.st ?_; (conv => whnf); clear H; intro w H) | refine cT ?_ | refine cF ?_ | refine cN ?_ | refine cM ?_ | refine H.lw ?_ | refine H.ll ?_)); (conv => whnf))
        obtain ⟨V6, hV6, H, hr1⟩ := Rel.freezeF H (fun _ => rfl) (by decide)
        refine (put_ref (n := (((notesF 0 (cs.take cs.length)).length : Nat) : Int)) H.data (by constructor <;> omega)).use ?_
        rintro q w ⟨r2, rfl, K⟩
        (have hKb := K.base; replace H := Rel.call H K)
        simp only [List.cons_append, List.nil_append] at H
        ((repeat ((conv => whnf); first | refine an ?_ | ((first | refine H.nwD ?_ | refine H.nw ?_); clear H; intro w _ H) | refine H.ce ?_ | refine H.db ?_ | refine ea ?_ | refine ol ?_ | (refine H.st ?_; (conv => whnf); clear H; intro w H) | refine cT ?_ | refine cF ?_ | refine cN ?_ | refine cM ?_ | refine H.lw ?_ | refine H.ll ?_)); (conv => whnf))
        obtain ⟨V7, hV7, H, hr2⟩ := Rel.freezeF H (fun _ => rfl) (by decide)
        rw [htl] at hr2
        refine (join_ref H.data (hr1.up hV7) hr2 (by omega)).use ?_
        rintro q w ⟨r3, rfl, K⟩
        (have hKb := K.base; replace H := Rel.call H K)
        simp only [List.cons_append, List.nil_append] at H
        ((repeat ((conv => whnf); first | refine an ?_ | ((first | refine H.nwD ?_ | refine H.nw ?_); clear H; intro w _ H) | refine H.ce ?_ | refine H.db ?_ | refine ea ?_ | refine ol ?_ | (refine H.st ?_; (conv => whnf); clear H; intro w H) | refine cT ?_ | refine cF ?_ | refine cN ?_ | refine cM ?_ | refine H.lw ?_ | refine H.ll ?_)); (conv => whnf))
        obtain ⟨V8, hV8, H, hr3⟩ := Rel.freezeF H (fun _ => rfl) (by decide)
        have hV58 := (hV6.trans hV7).trans hV8
        refine (join_ref H.data hr3 (hnb.up (hV5.trans hV58)) (by rw [List.length_append]; omega)).use ?_
        rintro q w ⟨r4, rfl, K⟩
        (have hKb := K.base; replace H := Rel.call H K)
        simp only [List.cons_append, List.nil_append] at H
        ((repeat ((conv => whnf); first | refine an ?_ | ((first | refine H.nwD ?_ | refine H.nw ?_); clear H; intro w _ H) | refine H.ce ?_ | refine H.db ?_ | refine ea ?_ | refine ol ?_ | (refine H.st ?_; (conv => whnf); clear H; intro w H) | refine cT ?_ | refine cF ?_ | refine cN ?_ | refine cM ?_ | refine H.lw ?_ | refine H.ll ?_)); (conv => whnf))
        obtain ⟨V9, hV9, H, hr4⟩ := Rel.freezeF H (fun _ => rfl) (by decide)
        exact ⟨V9, hh, r4, _, _, ((hV2.trans hV25).trans hV58).trans hV9, H.sx, (hvv.up hV58).up hV9, hr4, rfl, rfl⟩
end
end Go.Proofs.Ytjfcpnlacodjjaa
