/-
  Sound files: To.
-/
import Derived.Test.YtjfcpnlacodjjaaSndI
import Derived.Test.YtjfcpnlacodjjaaCnvL
import Derived.Test.YtjfcpnlacodjjaaVcQ
namespace Go.Proofs.Ytjfcpnlacodjjaa
open Go Go.RowKit

theorem pcm_cells (v : Int) {a b : Int} (ha : a = v % 256) (hb : b = v / 256 % 256) : [Value.int .u8 a, Value.int .u8 b] = (unitB true (unitOf true v)).flatMap byC := by
  have e1 : a = (((v % 65536).toNat % 256 : Nat) : Int) := by omega
  have e2 : b = (((v % 65536).toNat / 256 : Nat) : Int) := by omega
  rw [e1, e2]
  simp only [unitB, unitOf, if_true, List.flatMap_cons, List.flatMap_nil, byC, bv, List.cons_append, List.nil_append]
  rw [toNat_ofNat_lt (by omega), toNat_ofNat_lt (by omega)]
theorem sndPcm_snoc (l : List Int) (x : Int) : sndPcm (l ++ [x]) = sndPcm l ++ unitB true (unitOf true x) := by simp [sndPcm]
theorem sndVals_len_le (d : List UInt8) (coding ch : Nat) : (sndVals d coding ch).length ≤ d.length := by
  unfold sndVals
  rw [List.length_map, unDiff_len, rawU_len]
  split <;> omega
theorem snd_small {b : List UInt8} {x : Snd} (hbl : b.length ≤ 1099511627776) (h : sndFile b = some x) : x.smp.length ≤ b.length ∧ x.notes.length ≤ b.length ∧ x.coding < 4 ∧ (1 ≤ x.ch ∧ x.ch ≤ 2) ∧ x.rate ≤ 65535 ∧ (∀ y ∈ x.smp, -32768 ≤ y ∧ y ≤ 32767) ∧ ∀ n ∈ x.notes, I64 n.1 ∧ n.2.2.length ≤ 65535 := by
  obtain ⟨cs, f, d, S⟩ := sndFile_some h
  have hb := congrArg List.length S.bytes
  have hfl := flat_count cs
  have hcnt := notes_count S.two
  have hd := data_le (c := (68, d)) (by rw [S.two]; simp)
  have hv := sndVals_len_le d (at8 f 3) (at8 f 2)
  have b0 : at8 f 0 < 256 := UInt8.toNat_lt _
  have b1 : at8 f 1 < 256 := UInt8.toNat_lt _
  simp only [List.length_append, List.length_cons, List.length_nil] at hb
  dsimp only at hd
  obtain ⟨g1, g2, g3, g4⟩ := S.fok
  rw [S.eq]
  refine ⟨by show (sndVals d (at8 f 3) (at8 f 2)).length ≤ _; omega, by show (notesF 0 cs).length ≤ _; omega, g3, g2, by show 256 * at8 f 0 + at8 f 1 ≤ _; omega, fun y hy => sndVals_range y hy, fun n hn => ?_⟩
  obtain ⟨q1, q2, q3, q4⟩ := notesF_ge cs 0 n hn
  have := (S.ok _ q3).2.2
  exact ⟨⟨by omega, by omega⟩, by omega⟩
theorem sndVal_at {V : World} {bn bp : Nat} {rate ch : Int} {r : Sl} {b : List UInt8} (h1 : Cells V (some ⟨bn, 0, none⟩) [str sRate, str sChannels, str sSamples]) (h2 : Cells V (some ⟨bp, 0, none⟩) (valC (numH rate) ++ (valC (numH ch) ++ valC (bytH r)))) (h3 : Byt V r b) :
    ValAt V ⟨4, 0, ⟨none, 0, 0⟩, ⟨some ⟨bn, 0, none⟩, 3, 3⟩, ⟨some ⟨bp, 0, none⟩, 3, 3⟩⟩ (sndVal rate ch b) := by
  refine valAt_rec (hs := [numH rate, numH ch, bytH r]) ⟨rfl, Nat.le_refl _, h1⟩ ⟨rfl, Nat.le_refl _, h2⟩ rfl fun i x p hx hp => ?_
  match i, hx, hp with
  | 0, hx, hp => cases hx; cases hp; exact valAt_num _ _
  | 1, hx, hp => cases hx; cases hp; exact valAt_num _ _
  | 2, hx, hp => cases hx; cases hp; exact valAt_byt h3
  | k + 3, hx, hp => simp at hx
theorem vb_snd {rate ch : Int} {b : List UInt8} (h1 : I64 rate) (h2 : I64 ch) (h3 : b.length ≤ 1048576) : VB 1048576 (sndVal rate ch b) := by
  refine .mk (i64_c 4) (i64_c 0) (Nat.zero_le _) (by show 3 ≤ 1048576; decide) (fun s hs => ?_) (by show 3 ≤ 1048576; decide) fun p hp => ?_
  · simp only [Val.names, List.mem_cons, List.not_mem_nil, or_false] at hs
    rcases hs with rfl | rfl | rfl <;> decide
  · simp only [Val.parts, List.mem_cons, List.not_mem_nil, or_false] at hp
    rcases hp with rfl | rfl | rfl
    · exact vb_num h1
    · exact vb_num h2
    · exact vb_byt h3
section
variable {V W : World}
theorem number_sound (hV : Sub V W) (n : Int) : Ret Try.prog 42 [iv n].toArray W fun q w' => q = valV (numH n) ∧ Rel W V [] V w' := by
  have H := Rel.start hV
  refine cal_of_vc tabOk Try.func42 rfl (by kernel_rfl) 5 rfl (by simp) [0, 2] ?_
  ((repeat ((conv => whnf); first | refine an ?_ | refine H.ce ?_ | refine H.db ?_ | refine ea ?_ | refine ol ?_ | (refine H.st ?_; (conv => whnf); clear H; intro w H) | refine cT ?_ | refine cF ?_ | refine cN ?_ | refine cM ?_ | refine H.lw ?_ | refine H.ll ?_)); (conv => whnf))
  ((first | refine Rel.nwD H ?_ | refine Rel.nw H ?_); clear H; intro w b2 H)
  ((repeat ((conv => whnf); first | refine an ?_ | ((first | refine H.nwD ?_ | refine H.nw ?_); clear H; intro w _ H) | refine H.ce ?_ | refine H.db ?_ | refine ea ?_ | refine ol ?_ | (refine H.st ?_; (conv => whnf); clear H; intro w H) | refine cT ?_ | refine cF ?_ | refine cN ?_ | refine cM ?_ | refine H.lw ?_ | refine H.ll ?_)); (conv => whnf))
  exact H.sx
set_option maxRecDepth 100000 in
set_option maxHeartbeats 1000000 in
theorem to_sound (hV : Sub V W) {s : Sl} {l : List UInt8} (hs : Byt V s l) (hl : l.length ≤ 1099511627776) : Ret Try.prog 15 [s.v].toArray W (ToR W V (toRes (sndTo l) l.length)) := by
  have H := Rel.start hV
  have hlen := hs.len
  refine cal_of_vc tabOk Try.func15 rfl (by kernel_rfl) 71 rfl (by simp) [0, 2, 3, 4, 5, 6, 7, 9, 10, 11, 14, 23, 27, 28, 29, 30, 60] ?_
  ((repeat ((conv => whnf); first | refine an ?_ | refine H.ce ?_ | refine H.db ?_ | refine ea ?_ | refine ol ?_ | (refine H.st ?_; (conv => whnf); clear H; intro w H) | refine cT ?_ | refine cF ?_ | refine cN ?_ | refine cM ?_ | refine H.lw ?_ | refine H.ll ?_)); (conv => whnf))
  ((first | refine Rel.nwD H ?_ | refine Rel.nw H ?_); clear H; intro w b2 H)
  ((repeat ((conv => whnf); first | refine an ?_ | refine H.ce ?_ | refine H.db ?_ | refine ea ?_ | refine ol ?_ | (refine H.st ?_; (conv => whnf); clear H; intro w H) | refine cT ?_ | refine cF ?_ | refine cN ?_ | refine cM ?_ | refine H.lw ?_ | refine H.ll ?_)); (conv => whnf))
  ((first | refine Rel.nwD H ?_ | refine Rel.nw H ?_); clear H; intro w b4 H)
  by_cases hbig : 1000 < l.length
  · have e : toRes (sndTo l) l.length = ⟨zeroV, [], 3, -1⟩ := by unfold toRes; rw [if_pos hbig]
    rw [e]
    ((repeat ((conv => whnf); first | refine an ?_ | ((first | refine H.nwD ?_ | refine H.nw ?_); clear H; intro w _ H) | refine H.ce ?_ | refine H.db ?_ | refine ea ?_ | refine ol ?_ | (refine H.st ?_; (conv => whnf); clear H; intro w H) | refine cT ?_ | refine cF ?_ | refine cN ?_ | refine cM ?_ | refine H.lw ?_ | refine H.ll ?_)); (conv => whnf))
    refine (fault_sound H.data 3 (-1)).use ?_
    rintro v w ⟨rfl, K⟩
    (have hKb := K.base; replace H := H.call0 K)
    ((repeat ((conv => whnf); first | refine an ?_ | ((first | refine H.nwD ?_ | refine H.nw ?_); clear H; intro w _ H) | refine H.ce ?_ | refine H.db ?_ | refine ea ?_ | refine ol ?_ | (refine H.st ?_; (conv => whnf); clear H; intro w H) | refine cT ?_ | refine cF ?_ | refine cN ?_ | refine cM ?_ | refine H.lw ?_ | refine H.ll ?_)); (conv => whnf))
    exact ⟨V, zeroH, ⟨none, 0, 0⟩, Sub.refl _, H.sx, rfl, valAt_zero _, SlF.nil _ _⟩
  ((repeat ((conv => whnf); first | refine an ?_ | ((first | refine H.nwD ?_ | refine H.nw ?_); clear H; intro w _ H) | refine H.ce ?_ | refine H.db ?_ | refine ea ?_ | refine ol ?_ | (refine H.st ?_; (conv => whnf); clear H; intro w H) | refine cT ?_ | refine cF ?_ | refine cN ?_ | refine cM ?_ | refine H.lw ?_ | refine H.ll ?_)); (conv => whnf))
  refine (read_spec H.data hs (by omega)).use ?_
  rintro v w ⟨V2, rs, rn, hV2, K, hres⟩
  (have hKb := K.base; replace H := H.call0 K)
  cases hf : sndFile l with
  | none =>
    rw [hf] at hres
    dsimp only at hres
    subst hres
    have e : toRes (sndTo l) l.length = ⟨zeroV, [], 21, -1⟩ := by unfold toRes; rw [if_neg hbig, sndTo, hf]
    rw [e]
    ((repeat ((conv => whnf); first | refine an ?_ | refine H.ce ?_ | refine H.db ?_ | refine ea ?_ | refine ol ?_ | (refine H.st ?_; (conv => whnf); clear H; intro w H) | refine cT ?_ | refine cF ?_ | refine cN ?_ | refine cM ?_ | refine H.lw ?_ | refine H.ll ?_)); (conv => whnf))
    ((first | refine Rel.nwD H ?_ | refine Rel.nw H ?_); clear H; intro w b5 H)
    ((repeat ((conv => whnf); first | refine an ?_ | ((first | refine H.nwD ?_ | refine H.nw ?_); clear H; intro w _ H) | refine H.ce ?_ | refine H.db ?_ | refine ea ?_ | refine ol ?_ | (refine H.st ?_; (conv => whnf); clear H; intro w H) | refine cT ?_ | refine cF ?_ | refine cN ?_ | refine cM ?_ | refine H.lw ?_ | refine H.ll ?_)); (conv => whnf))
    refine (fault_sound H.data 21 (-1)).use ?_
    rintro v w ⟨rfl, K⟩
    (have hKb := K.base; replace H := H.call0 K)
    ((repeat ((conv => whnf); first | refine an ?_ | ((first | refine H.nwD ?_ | refine H.nw ?_); clear H; intro w _ H) | refine H.ce ?_ | refine H.db ?_ | refine ea ?_ | refine ol ?_ | (refine H.st ?_; (conv => whnf); clear H; intro w H) | refine cT ?_ | refine cF ?_ | refine cN ?_ | refine cM ?_ | refine H.lw ?_ | refine H.ll ?_)); (conv => whnf))
    exact ⟨V2, zeroH, ⟨none, 0, 0⟩, hV2, H.sx, rfl, valAt_zero _, SlF.nil _ _⟩
  | some x =>
    rw [hf] at hres
    obtain ⟨rfl, hsm, hnt⟩ := hres
    obtain ⟨m1, m2, m3, m4, m5, m6, m7⟩ := snd_small hl hf
    have hsl := hsm.len
    have e : sndTo l = sndAns x := by rw [sndTo, hf]
    rw [e]
    ((repeat ((conv => whnf); first | refine an ?_ | refine H.ce ?_ | refine H.db ?_ | refine ea ?_ | refine ol ?_ | (refine H.st ?_; (conv => whnf); clear H; intro w H) | refine cT ?_ | refine cF ?_ | refine cN ?_ | refine cM ?_ | refine H.lw ?_ | refine H.ll ?_)); (conv => whnf))
    ((first | refine Rel.nwD H ?_ | refine Rel.nw H ?_); clear H; intro w b5 H)
    ((repeat ((conv => whnf); first | refine an ?_ | ((first | refine H.nwD ?_ | refine H.nw ?_); clear H; intro w _ H) | refine H.ce ?_ | refine H.db ?_ | refine ea ?_ | refine ol ?_ | (refine H.st ?_; (conv => whnf); clear H; intro w H) | refine cT ?_ | refine cF ?_ | refine cN ?_ | refine cM ?_ | refine H.lw ?_ | refine H.ll ?_)); (conv => whnf))
    replace H := H.rowNil 5 1
    refine loop_inv (S := Nat × Sl) tabOk [0, 2, 3, 4, 5, 6, 10, 11, 14, 23, 27, 28, 60] (fun k => [(7, k.2.v), (29, iv k.1)]) (fun k w' => k.1 ≤ x.smp.length ∧ Rel W V [.row k.2 5 1 ((sndPcm (x.smp.take k.1)).flatMap byC), .blk b5 (filC x.rate x.ch x.coding rs rn) 67, .blk b4 [iv 0, iv 0] 29, .blk b2 (valC zeroH) 27] V2 w') (fun k _ => x.smp.length - k.1) (0, ⟨none, 0, 0⟩) ?_
    (conv => whnf)
    refine ⟨(by repeat (first | exact trivial | refine ⟨rfl, ?_⟩)), ⟨by omega, H.sx⟩, ?_⟩
    clear H
    rintro ⟨k, r⟩ w ⟨hk, H⟩
    dsimp only at hk H
    have hpl := sndPcm_len (x.smp.take k)
    rw [List.length_take] at hpl
    by_cases hlt : k < x.smp.length
    · obtain ⟨p0, d0⟩ := hsm.at1 (g := iv) (fun _ => rfl) hlt
      have t1 := snoc_take hlt
      have hy := m6 _ (List.getElem_mem hlt)
      generalize x.smp[k] = y at d0 t1 hy
      ((repeat ((conv => whnf); first | refine an ?_ | ((first | refine H.nwD ?_ | refine H.nw ?_); clear H; intro w _ H) | refine H.ce ?_ | refine H.db ?_ | refine ea ?_ | refine ol ?_ | (refine H.st ?_; (conv => whnf); clear H; intro w H) | refine cT ?_ | refine cF ?_ | refine cN ?_ | refine cM ?_ | refine H.lw ?_ | refine H.ll ?_)); (conv => whnf))
      rw [shl8]
      ((repeat ((conv => whnf); first | refine an ?_ | ((first | refine H.nwD ?_ | refine H.nw ?_); clear H; intro w _ H) | refine H.ce ?_ | refine H.db ?_ | refine ea ?_ | refine ol ?_ | (refine H.st ?_; (conv => whnf); clear H; intro w H) | refine cT ?_ | refine cF ?_ | refine cN ?_ | refine cM ?_ | refine H.lw ?_ | refine H.ll ?_)); (conv => whnf))
      replace H := H.blkEq (pcm_cells y rfl rfl)
      replace H := H.toRow (n := 2) (e := 5) (sz := 1) rfl (by simp [maxLen])
      refine Rel.appB H (i := 0) rfl (by simp [unitB]; omega) ?_
      clear H
      intro r2 w H
      rw [← sndPcm_snoc, ← t1] at H
      ((repeat ((conv => whnf); first | refine an ?_ | ((first | refine H.nwD ?_ | refine H.nw ?_); clear H; intro w _ H) | refine H.ce ?_ | refine H.db ?_ | refine ea ?_ | refine ol ?_ | (refine H.st ?_; (conv => whnf); clear H; intro w H) | refine cT ?_ | refine cF ?_ | refine cN ?_ | refine cM ?_ | refine H.lw ?_ | refine H.ll ?_)); (conv => whnf))
      exact ⟨(by repeat (first | exact trivial | refine ⟨rfl, ?_⟩)), (k + 1, r2), (by repeat (first | exact trivial | refine ⟨rfl, ?_⟩)), ⟨by dsimp only; omega, H.sx⟩, by dsimp only; omega⟩
    rw [List.take_of_length_le (by omega)] at H
    obtain ⟨V3, hV3, H, hr⟩ := Rel.freezeF H (fun _ => rfl) (by decide)
    ((repeat ((conv => whnf); first | refine an ?_ | ((first | refine H.nwD ?_ | refine H.nw ?_); clear H; intro w _ H) | refine H.ce ?_ | refine H.db ?_ | refine ea ?_ | refine ol ?_ | (refine H.st ?_; (conv => whnf); clear H; intro w H) | refine cT ?_ | refine cF ?_ | refine cN ?_ | refine cM ?_ | refine H.lw ?_ | refine H.ll ?_)); (conv => whnf))
    refine SemC.cutN (fun q : Nat × Nat × Nat => [(2, .pointer (some ⟨b2, 0, none⟩)), (3, .slice none 0 0), (4, .pointer (some ⟨b4, 0, none⟩)), (5, .pointer (some ⟨b5, 0, none⟩)), (11, .pointer (some ⟨q.1, 0, none⟩))])
      (fun q w' => Rel W V [.blk q.2.1 [str sRate, str sChannels, str sSamples] 9, .blk q.2.2 (valC (numH x.rate) ++ (valC (numH x.ch) ++ valC (bytH r))) 27, .blk q.1 [iv 4, iv 0, .slice none 0 0, .slice (some ⟨q.2.1, 0, none⟩) 3 3, .slice (some ⟨q.2.2, 0, none⟩) 3 3] 27, .blk b5 (filC x.rate x.ch x.coding rs rn) 67, .blk b4 [iv 0, iv 0] 29, .blk b2 (valC zeroH) 27] V3 w') ?_ ?_
    · ((first | refine draw_vcT (id := 13) tabOk mixed [0, 5, 15] [1, 2, 3, 4, 6, 7, 8, 9, 11, 12, 0, 5, 10, 13, 14, 15, 16] [(0, []), (5, []), (10, [5]), (13, [5, 10]), (15, []), (16, [0, 5, 10, 13, 15])] (by kernel_rfl) ?_); intro w hdw; replace H := Rel.ext H hdw.ext)
      repeat' (((repeat ((conv => whnf); first | refine an ?_ | refine H.ce ?_ | refine H.db ?_ | refine ea ?_ | refine ol ?_ | (refine H.st ?_; (conv => whnf); clear H; intro w H) | refine cT ?_ | refine cF ?_ | refine cN ?_ | refine cM ?_ | refine H.lw ?_ | refine H.ll ?_)); (conv => whnf)); first | refine And.intro ?_ ?_ | ((first | refine Rel.nwD H ?_ | refine Rel.nw H ?_); clear H; intro w _ H) | (refine (number_sound H.data _).use ?_; rintro v w ⟨rfl, K⟩; (have hKb := K.base; replace H := H.call0 K)))
      all_goals
        ((repeat ((conv => whnf); first | refine an ?_ | ((first | refine H.nwD ?_ | refine H.nw ?_); clear H; intro w _ H) | refine H.ce ?_ | refine H.db ?_ | refine ea ?_ | refine ol ?_ | (refine H.st ?_; (conv => whnf); clear H; intro w H) | refine cT ?_ | refine cF ?_ | refine cN ?_ | refine cM ?_ | refine H.lw ?_ | refine H.ll ?_)); (conv => whnf))
        exact ⟨(_, _, _), (by repeat (first | exact trivial | refine ⟨rfl, ?_⟩)), H.pick⟩
    clear H
    rintro ⟨b11, bn, bp⟩ w H
    dsimp only at H
    obtain ⟨V4, hV4, H, hbn⟩ := H.freezeBlk
    obtain ⟨V5, hV5, H, hbp⟩ := H.freezeBlk
    have hpcm := sndPcm_len x.smp
    have hv := sndVal_at (hbn.cells.sub' hV5) hbp.cells ((hr.up hV4).up hV5)
    have hB : VB 1048576 (sndVal x.rate x.ch (sndPcm x.smp)) := vb_snd (by constructor <;> omega) (by constructor <;> omega) (by omega)
    ((repeat ((conv => whnf); first | refine an ?_ | ((first | refine H.nwD ?_ | refine H.nw ?_); clear H; intro w _ H) | refine H.ce ?_ | refine H.db ?_ | refine ea ?_ | refine ol ?_ | (refine H.st ?_; (conv => whnf); clear H; intro w H) | refine cT ?_ | refine cF ?_ | refine cN ?_ | refine cM ?_ | refine H.lw ?_ | refine H.ll ?_)); (conv => whnf))
    refine (validate_value H.data hv hB).use ?_
    rintro q w ⟨rfl, K⟩
    (have hKb := K.base; replace H := H.call0 K)
    by_cases hvf : (vfault (sndVal x.rate x.ch (sndPcm x.smp))).1 = 0
    rotate_left
    · have e : toRes (sndAns x) l.length = ⟨zeroV, [], 21, -1⟩ := by unfold toRes; rw [if_neg hbig, sndAns, if_pos hvf]
      rw [e]
      ((repeat ((conv => whnf); first | refine an ?_ | ((first | refine H.nwD ?_ | refine H.nw ?_); clear H; intro w _ H) | refine H.ce ?_ | refine H.db ?_ | refine ea ?_ | refine ol ?_ | (refine H.st ?_; (conv => whnf); clear H; intro w H) | refine cT ?_ | refine cF ?_ | refine cN ?_ | refine cM ?_ | refine H.lw ?_ | refine H.ll ?_)); (conv => whnf))
      refine (fault_sound H.data 21 (-1)).use ?_
      rintro v w ⟨rfl, K⟩
      (have hKb := K.base; replace H := H.call0 K)
      ((repeat ((conv => whnf); first | refine an ?_ | ((first | refine H.nwD ?_ | refine H.nw ?_); clear H; intro w _ H) | refine H.ce ?_ | refine H.db ?_ | refine ea ?_ | refine ol ?_ | (refine H.st ?_; (conv => whnf); clear H; intro w H) | refine cT ?_ | refine cF ?_ | refine cN ?_ | refine cM ?_ | refine H.lw ?_ | refine H.ll ?_)); (conv => whnf))
      exact ⟨V5, zeroH, ⟨none, 0, 0⟩, ((hV2.trans hV3).trans hV4).trans hV5, H.sx, rfl, valAt_zero _, SlF.nil _ _⟩
    have e : toRes (sndAns x) l.length = ⟨sndVal x.rate x.ch (sndPcm x.smp), sndRes x.coding x.notes, 0, 0⟩ := by unfold toRes; rw [if_neg hbig, sndAns, if_neg (fun h => h hvf)]
    rw [e, vfault_zz hvf]
    ((repeat ((conv => whnf); first | refine an ?_ | ((first | refine H.nwD ?_ | refine H.nw ?_); clear H; intro w _ H) | refine H.ce ?_ | refine H.db ?_ | refine ea ?_ | refine ol ?_ | (refine H.st ?_; (conv => whnf); clear H; intro w H) | refine cT ?_ | refine cF ?_ | refine cN ?_ | refine cM ?_ | refine H.lw ?_ | refine H.ll ?_)); (conv => whnf))
    ((first | refine draw_vc (id := 16) tabOk mixed [6] [0, 1, 2, 3, 4, 5, 7, 6, 8, 9, 10] (by kernel_rfl) ?_); intro w hdw; replace H := Rel.ext H hdw.ext)
    ((repeat ((conv => whnf); first | refine an ?_ | ((first | refine H.nwD ?_ | refine H.nw ?_); clear H; intro w _ H) | refine H.ce ?_ | refine H.db ?_ | refine ea ?_ | refine ol ?_ | (refine H.st ?_; (conv => whnf); clear H; intro w H) | refine cT ?_ | refine cF ?_ | refine cN ?_ | refine cM ?_ | refine H.lw ?_ | refine H.ll ?_)); (conv => whnf))
    refine (residue_spec H.data m3 (((hnt.up hV3).up hV4).up hV5) (by omega) m7).use ?_
    rintro v w ⟨r2, rfl, K⟩
    (have hKb := K.base; replace H := Rel.call H K)
    simp only [List.cons_append, List.nil_append] at H
    ((repeat ((conv => whnf); first | refine an ?_ | ((first | refine H.nwD ?_ | refine H.nw ?_); clear H; intro w _ H) | refine H.ce ?_ | refine H.db ?_ | refine ea ?_ | refine ol ?_ | (refine H.st ?_; (conv => whnf); clear H; intro w H) | refine cT ?_ | refine cF ?_ | refine cN ?_ | refine cM ?_ | refine H.lw ?_ | refine H.ll ?_)); (conv => whnf))
    obtain ⟨V6, hV6, H, hr2⟩ := Rel.freezeF H (fun _ => rfl) (by decide)
    exact ⟨V6, _, r2, (((hV2.trans hV3).trans hV4).trans hV5).trans hV6, H.sx, rfl, hv.up hV6, hr2⟩
end
end Go.Proofs.Ytjfcpnlacodjjaa
