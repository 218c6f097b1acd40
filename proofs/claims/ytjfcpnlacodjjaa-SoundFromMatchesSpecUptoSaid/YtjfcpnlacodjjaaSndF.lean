/-
  encode of the program.
-/
import Derived.Test.YtjfcpnlacodjjaaSndE
namespace Go.Proofs.Ytjfcpnlacodjjaa
open Go Go.RowKit

theorem and_low {x : Int} {j : Nat} (hj : j ≤ 32) {m : Nat} (hm : m = 2 ^ j - 1) : bitsI .and .i64 x (m : Int) = x % (2 ^ j : Nat) := by
  have h1 : (2 : Nat) ^ j ≤ 2 ^ 32 := Nat.pow_le_pow_right (by decide) hj
  have h0 : 0 < (2 : Nat) ^ j := Nat.two_pow_pos j
  have h32 : (2 : Nat) ^ 32 = 4294967296 := by decide
  show IntKind.i64.wrap ((BitVec.ofInt 64 x &&& BitVec.ofInt 64 (m : Int)).toNat : Int) = _
  rw [BitVec.toNat_and, ofInt_nat (x := m) (by simp only [Nat.reducePow]; omega), hm, Nat.and_two_pow_sub_one_eq_mod, BitVec.toNat_ofInt]
  have hd : ((2 ^ j : Nat) : Int) ∣ ((2 ^ 64 : Nat) : Int) := by
    rw [show (2 : Nat) ^ 64 = 2 ^ j * 2 ^ (64 - j) by rw [← Nat.pow_add]; congr 1; omega]
    exact ⟨((2 ^ (64 - j) : Nat) : Int), by push_cast; rfl⟩
  have hlt := Nat.mod_lt (x % ((2 ^ 64 : Nat) : Int)).toNat h0
  rw [wrap_i64_nat (by omega)]
  have hnn : 0 ≤ x % ((2 ^ 64 : Nat) : Int) := Int.emod_nonneg _ (by decide)
  rw [Int.natCast_emod, Int.toNat_of_nonneg hnn, Int.emod_emod_of_dvd _ hd]
theorem and16 (x : Int) : bitsI .and .i64 x 65535 = x % 65536 := and_low (j := 16) (by decide) rfl
theorem and8 (x : Int) : bitsI .and .i64 x 255 = x % 256 := and_low (j := 8) (by decide) rfl
section
variable {V W : World}
/- the unit, kept -/
set_option maxRecDepth 100000 in
set_option maxHeartbeats 1000000 in
theorem encode_spec (hV : Sub V W) {rate ch coding : Nat} (hc : coding < 4) (hch : 1 ≤ ch ∧ ch ≤ 2) {s : Sl} {l : List Int} (hs : SlF itC V s l) (hl : l.length ≤ 1000000) (hb : ∀ x ∈ l, -32768 ≤ x ∧ x ≤ 32767) :
    Ret Try.prog 105 [.agg (fmtC rate ch coding).toArray, s.v].toArray W fun v w' => ∃ r : Sl, v = r.v ∧ Rel W V [.row r 5 1 ((sndBytes l coding ch).flatMap byC)] V w' := by
  have H := Rel.start hV
  have hlen := hs.len
  have f256 : fullOf false = 256 := rfl
  have f65 : fullOf true = 65536 := rfl
  refine cal_of_vc tabOk Try.func105 rfl (by kernel_rfl) 66 rfl (by simp) [0, 1, 2, 4, 5, 6, 8, 9, 10, 11, 12, 13, 14, 21, 43, 57] ?_
  ((repeat ((conv => whnf); first | refine an ?_ | refine H.ce ?_ | refine H.db ?_ | refine ea ?_ | refine ol ?_ | (refine H.st ?_; (conv => whnf); clear H; intro w H) | refine cT ?_ | refine cF ?_ | refine cN ?_ | refine cM ?_ | refine H.da (hc1 _ _ (by rfl)) ?_ | refine H.datw hc1 (by rfl) ?_ | refine H.datl hc1 (by rfl) ?_ | refine H.lw ?_ | refine H.ll ?_)); (conv => whnf))
  ((first | refine Rel.nwD H ?_ | refine Rel.nw H ?_); clear H; intro w b2 H)
  replace H := H.rowNil 3 1
  replace H := H.rowNil 5 1
  ((repeat ((conv => whnf); first | refine an ?_ | ((first | refine H.nwD ?_ | refine H.nw ?_); clear H; intro w _ H) | refine H.ce ?_ | refine H.db ?_ | refine ea ?_ | refine ol ?_ | (refine H.st ?_; (conv => whnf); clear H; intro w H) | refine cT ?_ | refine cF ?_ | refine cN ?_ | refine cM ?_ | refine H.da (hc1 _ _ (by rfl)) ?_ | refine H.datw hc1 (by rfl) ?_ | refine H.datl hc1 (by rfl) ?_ | refine H.lw ?_ | refine H.ll ?_)); (conv => whnf))
  refine loop_inv (S := Nat × Sl × Sl) tabOk [0, 1, 2, 4, 11, 12] (fun k => [(5, k.2.1.v), (6, k.2.2.v), (13, iv k.1)]) (fun k w' => k.1 ≤ l.length ∧ Rel W V [.row k.2.2 5 1 ((outU (isWide coding) (isDiff coding) ch (l.map (unitOf (isWide coding))) k.1).flatMap byC), .row k.2.1 3 1 (((l.take k.1).map (unitOf (isWide coding))).flatMap itN), .blk b2 (fmtC rate ch coding) 64] V w') (fun k _ => l.length - k.1) (0, ⟨none, 0, 0⟩, ⟨none, 0, 0⟩) ?_
  (conv => whnf)
  refine ⟨(by repeat (first | exact trivial | refine ⟨rfl, ?_⟩)), ⟨by omega, H⟩, ?_⟩
  clear H
  rintro ⟨k, r5, r6⟩ w ⟨hk, H⟩
  dsimp only at hk H ⊢
  by_cases hlt : k < l.length
  rotate_left
  · have ek : k = l.length := by omega
    rw [sndBytes_eq]
    rw [ek] at H
    ((repeat ((conv => whnf); first | refine an ?_ | ((first | refine H.nwD ?_ | refine H.nw ?_); clear H; intro w _ H) | refine H.ce ?_ | refine H.db ?_ | refine ea ?_ | refine ol ?_ | (refine H.st ?_; (conv => whnf); clear H; intro w H) | refine cT ?_ | refine cF ?_ | refine cN ?_ | refine cM ?_ | refine H.da (hc1 _ _ (by rfl)) ?_ | refine H.datw hc1 (by rfl) ?_ | refine H.datl hc1 (by rfl) ?_ | refine H.lw ?_ | refine H.ll ?_)); (conv => whnf))
    exact ⟨r6, rfl, H.sx⟩
  obtain rfl | rfl | rfl | rfl : coding = 0 ∨ coding = 1 ∨ coding = 2 ∨ coding = 3 := by omega
  · have hand : bitsI .and .i64 0 2 = 0 := by decide +kernel
    have hxb := hb _ (List.getElem_mem hlt)
    obtain ⟨p0, d0⟩ := hs.at1 (g := iv) (fun _ => rfl) hlt
    obtain ⟨x, hx⟩ : ∃ x, x = l[k] := ⟨_, rfl⟩
    rw [← hx] at d0 hxb
    obtain ⟨U, hU⟩ : ∃ U, U = l.map (unitOf (isWide 0)) := ⟨_, rfl⟩
    have hUb : ∀ i : Nat, U[i]?.getD 0 < fullOf (isWide 0) := by rw [hU]; exact units_lt _ _
    obtain ⟨u, hu⟩ : ∃ u, u = unitOf (isWide 0) x := ⟨_, rfl⟩
    have hux : U[k]?.getD 0 = u := by rw [hU, List.getElem?_map, List.getElem?_eq_getElem hlt, hu, hx]; rfl
    have hub : u < 256 := by have := hUb k; rw [hux] at this; exact this
    have hol := outU_len (isWide 0) (isDiff 0) ch U k
    have hl6 := (H.slfAt (i := 0) rfl (fun _ => rfl) (by decide)).len
    have hsu := outU_succ (isWide 0) (isDiff 0) ch U k
    rw [← hU] at H hl6 ⊢
    obtain ⟨O, hO⟩ : ∃ O, O = outU (isWide 0) (isDiff 0) ch U k := ⟨_, rfl⟩
    rw [← hO] at hol hl6 hsu H
    have hz : (x / 256 + 128) % 256 = (u : Int) := by rw [hu]; show _ = ((((x / 256 + 128) % 256).toNat : Nat) : Int); omega
    ((repeat ((conv => whnf); first | refine an ?_ | ((first | refine H.nwD ?_ | refine H.nw ?_); clear H; intro w _ H) | refine H.ce ?_ | refine H.db ?_ | refine ea ?_ | refine ol ?_ | (refine H.st ?_; (conv => whnf); clear H; intro w H) | refine cT ?_ | refine cF ?_ | refine cN ?_ | refine cM ?_ | refine H.da (hc1 _ _ (by rfl)) ?_ | refine H.datw hc1 (by rfl) ?_ | refine H.datl hc1 (by rfl) ?_ | refine H.lw ?_ | refine H.ll ?_)); (conv => whnf))
    rw [and16]
    ((repeat ((conv => whnf); first | refine an ?_ | ((first | refine H.nwD ?_ | refine H.nw ?_); clear H; intro w _ H) | refine H.ce ?_ | refine H.db ?_ | refine ea ?_ | refine ol ?_ | (refine H.st ?_; (conv => whnf); clear H; intro w H) | refine cT ?_ | refine cF ?_ | refine cN ?_ | refine cM ?_ | refine H.da (hc1 _ _ (by rfl)) ?_ | refine H.datw hc1 (by rfl) ?_ | refine H.datl hc1 (by rfl) ?_ | refine H.lw ?_ | refine H.ll ?_)); (conv => whnf))
    refine (unitSize_spec H.data rate ch 0).use ?_
    rintro q w ⟨rfl, K⟩
    (have hKb := K.base; replace H := H.call0 K)
    ((repeat ((conv => whnf); first | refine an ?_ | ((first | refine H.nwD ?_ | refine H.nw ?_); clear H; intro w _ H) | refine H.ce ?_ | refine H.db ?_ | refine ea ?_ | refine ol ?_ | (refine H.st ?_; (conv => whnf); clear H; intro w H) | refine cT ?_ | refine cF ?_ | refine cN ?_ | refine cM ?_ | refine H.da (hc1 _ _ (by rfl)) ?_ | refine H.datw hc1 (by rfl) ?_ | refine H.datl hc1 (by rfl) ?_ | refine H.lw ?_ | refine H.ll ?_)); (conv => whnf))
    rw [shl8]
    ((repeat ((conv => whnf); first | refine an ?_ | ((first | refine H.nwD ?_ | refine H.nw ?_); clear H; intro w _ H) | refine H.ce ?_ | refine H.db ?_ | refine ea ?_ | refine ol ?_ | (refine H.st ?_; (conv => whnf); clear H; intro w H) | refine cT ?_ | refine cF ?_ | refine cN ?_ | refine cM ?_ | refine H.da (hc1 _ _ (by rfl)) ?_ | refine H.datw hc1 (by rfl) ?_ | refine H.datl hc1 (by rfl) ?_ | refine H.lw ?_ | refine H.ll ?_)); (conv => whnf))
    try rw [and8] at H
    rw [and8]
    ((repeat ((conv => whnf); first | refine an ?_ | ((first | refine H.nwD ?_ | refine H.nw ?_); clear H; intro w _ H) | refine H.ce ?_ | refine H.db ?_ | refine ea ?_ | refine ol ?_ | (refine H.st ?_; (conv => whnf); clear H; intro w H) | refine cT ?_ | refine cF ?_ | refine cN ?_ | refine cM ?_ | refine H.da (hc1 _ _ (by rfl)) ?_ | refine H.datw hc1 (by rfl) ?_ | refine H.datl hc1 (by rfl) ?_ | refine H.lw ?_ | refine H.ll ?_)); (conv => whnf))
    refine Rel.app1_1 (f := itN) (l := (l.take k).map (unitOf (isWide 0))) (x := u) tabOk rfl rfl rfl rfl rfl (by decide) (fun _ => rfl) (List.all_eq_true.1 rfl) (H.blkEq (c' := itN u) (congrArg (fun z => [Value.int .i64 z]) hz)) (by simp; omega) (by simp; omega) ?_
    clear H
    intro rn5 w H
    rw [show (l.take k).map (unitOf (isWide 0)) ++ [u] = (l.take (k + 1)).map (unitOf (isWide 0)) by rw [List.take_succ_eq_append_getElem hlt, List.map_append, hu, hx]; rfl] at H
    have S5 := H.slfAt (i := 1) rfl (fun _ => rfl) (by decide)
    have hl5 := S5.len
    rw [List.length_map, List.length_take] at hl5
    ((repeat ((conv => whnf); first | refine an ?_ | ((first | refine H.nwD ?_ | refine H.nw ?_); clear H; intro w _ H) | refine H.ce ?_ | refine H.db ?_ | refine ea ?_ | refine ol ?_ | (refine H.st ?_; (conv => whnf); clear H; intro w H) | refine cT ?_ | refine cF ?_ | refine cN ?_ | refine cM ?_ | refine H.da (hc1 _ _ (by rfl)) ?_ | refine H.datw hc1 (by rfl) ?_ | refine H.datl hc1 (by rfl) ?_ | refine H.lw ?_ | refine H.ll ?_)); (conv => whnf))
    obtain ⟨d, hd⟩ : ∃ d, d = u := ⟨_, rfl⟩
    rw [show toDiff (isDiff 0) ch (fullOf (isWide 0)) U k = d by unfold toDiff; rw [if_neg (by simp [isDiff]), hux, hd]] at hsu
    ((repeat ((conv => whnf); first | refine an ?_ | ((first | refine H.nwD ?_ | refine H.nw ?_); clear H; intro w _ H) | refine H.ce ?_ | refine H.db ?_ | refine ea ?_ | refine ol ?_ | (refine H.st ?_; (conv => whnf); clear H; intro w H) | refine cT ?_ | refine cF ?_ | refine cN ?_ | refine cM ?_ | refine H.da (hc1 _ _ (by rfl)) ?_ | refine H.datw hc1 (by rfl) ?_ | refine H.datl hc1 (by rfl) ?_ | refine H.lw ?_ | refine H.ll ?_)); (conv => whnf))
    refine Rel.app1_0 (f := byC) (l := O) (x := UInt8.ofNat (d)) tabOk rfl rfl rfl rfl rfl (by decide) (fun _ => rfl) (by simp [Value.oneCell']) (H.blkEq (bv_ofNat (n := d) (by omega) (by first | omega | (show (_ : Int) % 256 = _; omega)))) (by simp; omega) (by simp; omega) ?_
    clear H
    intro rn w H
    ((repeat ((conv => whnf); first | refine an ?_ | ((first | refine H.nwD ?_ | refine H.nw ?_); clear H; intro w _ H) | refine H.ce ?_ | refine H.db ?_ | refine ea ?_ | refine ol ?_ | (refine H.st ?_; (conv => whnf); clear H; intro w H) | refine cT ?_ | refine cF ?_ | refine cN ?_ | refine cM ?_ | refine H.da (hc1 _ _ (by rfl)) ?_ | refine H.datw hc1 (by rfl) ?_ | refine H.datl hc1 (by rfl) ?_ | refine H.lw ?_ | refine H.ll ?_)); (conv => whnf))
    refine (unitSize_spec H.data rate ch 0).use ?_
    rintro q w ⟨rfl, K⟩
    (have hKb := K.base; replace H := H.call0 K)
    ((repeat ((conv => whnf); first | refine an ?_ | ((first | refine H.nwD ?_ | refine H.nw ?_); clear H; intro w _ H) | refine H.ce ?_ | refine H.db ?_ | refine ea ?_ | refine ol ?_ | (refine H.st ?_; (conv => whnf); clear H; intro w H) | refine cT ?_ | refine cF ?_ | refine cN ?_ | refine cM ?_ | refine H.da (hc1 _ _ (by rfl)) ?_ | refine H.datw hc1 (by rfl) ?_ | refine H.datl hc1 (by rfl) ?_ | refine H.lw ?_ | refine H.ll ?_)); (conv => whnf))
    refine ⟨(by repeat (first | exact trivial | refine ⟨rfl, ?_⟩)), (k + 1, rn5, rn), (by repeat (first | exact trivial | refine ⟨rfl, ?_⟩)), ⟨by dsimp only; omega, ?_⟩, by dsimp only; omega⟩
    dsimp only
    rw [hsu]
    try rw [List.append_assoc] at H
    exact H.sx
  · have hand : bitsI .and .i64 1 2 = 0 := by decide +kernel
    have hxb := hb _ (List.getElem_mem hlt)
    obtain ⟨p0, d0⟩ := hs.at1 (g := iv) (fun _ => rfl) hlt
    obtain ⟨x, hx⟩ : ∃ x, x = l[k] := ⟨_, rfl⟩
    rw [← hx] at d0 hxb
    obtain ⟨U, hU⟩ : ∃ U, U = l.map (unitOf (isWide 1)) := ⟨_, rfl⟩
    have hUb : ∀ i : Nat, U[i]?.getD 0 < fullOf (isWide 1) := by rw [hU]; exact units_lt _ _
    obtain ⟨u, hu⟩ : ∃ u, u = unitOf (isWide 1) x := ⟨_, rfl⟩
    have hux : U[k]?.getD 0 = u := by rw [hU, List.getElem?_map, List.getElem?_eq_getElem hlt, hu, hx]; rfl
    have hub : u < 65536 := by have := hUb k; rw [hux] at this; exact this
    have hol := outU_len (isWide 1) (isDiff 1) ch U k
    have hl6 := (H.slfAt (i := 0) rfl (fun _ => rfl) (by decide)).len
    have hsu := outU_succ (isWide 1) (isDiff 1) ch U k
    rw [← hU] at H hl6 ⊢
    obtain ⟨O, hO⟩ : ∃ O, O = outU (isWide 1) (isDiff 1) ch U k := ⟨_, rfl⟩
    rw [← hO] at hol hl6 hsu H
    have hz : x % 65536 = (u : Int) := by rw [hu]; show _ = (((x % 65536).toNat : Nat) : Int); omega
    ((repeat ((conv => whnf); first | refine an ?_ | ((first | refine H.nwD ?_ | refine H.nw ?_); clear H; intro w _ H) | refine H.ce ?_ | refine H.db ?_ | refine ea ?_ | refine ol ?_ | (refine H.st ?_; (conv => whnf); clear H; intro w H) | refine cT ?_ | refine cF ?_ | refine cN ?_ | refine cM ?_ | refine H.da (hc1 _ _ (by rfl)) ?_ | refine H.datw hc1 (by rfl) ?_ | refine H.datl hc1 (by rfl) ?_ | refine H.lw ?_ | refine H.ll ?_)); (conv => whnf))
    rw [and16]
    ((repeat ((conv => whnf); first | refine an ?_ | ((first | refine H.nwD ?_ | refine H.nw ?_); clear H; intro w _ H) | refine H.ce ?_ | refine H.db ?_ | refine ea ?_ | refine ol ?_ | (refine H.st ?_; (conv => whnf); clear H; intro w H) | refine cT ?_ | refine cF ?_ | refine cN ?_ | refine cM ?_ | refine H.da (hc1 _ _ (by rfl)) ?_ | refine H.datw hc1 (by rfl) ?_ | refine H.datl hc1 (by rfl) ?_ | refine H.lw ?_ | refine H.ll ?_)); (conv => whnf))
    refine (unitSize_spec H.data rate ch 1).use ?_
    rintro q w ⟨rfl, K⟩
    (have hKb := K.base; replace H := H.call0 K)
    ((repeat ((conv => whnf); first | refine an ?_ | ((first | refine H.nwD ?_ | refine H.nw ?_); clear H; intro w _ H) | refine H.ce ?_ | refine H.db ?_ | refine ea ?_ | refine ol ?_ | (refine H.st ?_; (conv => whnf); clear H; intro w H) | refine cT ?_ | refine cF ?_ | refine cN ?_ | refine cM ?_ | refine H.da (hc1 _ _ (by rfl)) ?_ | refine H.datw hc1 (by rfl) ?_ | refine H.datl hc1 (by rfl) ?_ | refine H.lw ?_ | refine H.ll ?_)); (conv => whnf))
    refine Rel.app1_1 (f := itN) (l := (l.take k).map (unitOf (isWide 1))) (x := u) tabOk rfl rfl rfl rfl rfl (by decide) (fun _ => rfl) (List.all_eq_true.1 rfl) (H.blkEq (c' := itN u) (congrArg (fun z => [Value.int .i64 z]) hz)) (by simp; omega) (by simp; omega) ?_
    clear H
    intro rn5 w H
    rw [show (l.take k).map (unitOf (isWide 1)) ++ [u] = (l.take (k + 1)).map (unitOf (isWide 1)) by rw [List.take_succ_eq_append_getElem hlt, List.map_append, hu, hx]; rfl] at H
    have S5 := H.slfAt (i := 1) rfl (fun _ => rfl) (by decide)
    have hl5 := S5.len
    rw [List.length_map, List.length_take] at hl5
    ((repeat ((conv => whnf); first | refine an ?_ | ((first | refine H.nwD ?_ | refine H.nw ?_); clear H; intro w _ H) | refine H.ce ?_ | refine H.db ?_ | refine ea ?_ | refine ol ?_ | (refine H.st ?_; (conv => whnf); clear H; intro w H) | refine cT ?_ | refine cF ?_ | refine cN ?_ | refine cM ?_ | refine H.da (hc1 _ _ (by rfl)) ?_ | refine H.datw hc1 (by rfl) ?_ | refine H.datl hc1 (by rfl) ?_ | refine H.lw ?_ | refine H.ll ?_)); (conv => whnf))
    obtain ⟨d, hd⟩ : ∃ d, d = u := ⟨_, rfl⟩
    rw [show toDiff (isDiff 1) ch (fullOf (isWide 1)) U k = d by unfold toDiff; rw [if_neg (by simp [isDiff]), hux, hd]] at hsu
    ((repeat ((conv => whnf); first | refine an ?_ | ((first | refine H.nwD ?_ | refine H.nw ?_); clear H; intro w _ H) | refine H.ce ?_ | refine H.db ?_ | refine ea ?_ | refine ol ?_ | (refine H.st ?_; (conv => whnf); clear H; intro w H) | refine cT ?_ | refine cF ?_ | refine cN ?_ | refine cM ?_ | refine H.da (hc1 _ _ (by rfl)) ?_ | refine H.datw hc1 (by rfl) ?_ | refine H.datl hc1 (by rfl) ?_ | refine H.lw ?_ | refine H.ll ?_)); (conv => whnf))
    refine Rel.app1_0 (f := byC) (l := O) (x := UInt8.ofNat (d % 256)) tabOk rfl rfl rfl rfl rfl (by decide) (fun _ => rfl) (by simp [Value.oneCell']) (H.blkEq (bv_ofNat (n := d % 256) (by omega) (by first | omega | (show (_ : Int) % 256 = _; omega)))) (by simp; omega) (by simp; omega) ?_
    clear H
    intro rn w H
    ((repeat ((conv => whnf); first | refine an ?_ | ((first | refine H.nwD ?_ | refine H.nw ?_); clear H; intro w _ H) | refine H.ce ?_ | refine H.db ?_ | refine ea ?_ | refine ol ?_ | (refine H.st ?_; (conv => whnf); clear H; intro w H) | refine cT ?_ | refine cF ?_ | refine cN ?_ | refine cM ?_ | refine H.da (hc1 _ _ (by rfl)) ?_ | refine H.datw hc1 (by rfl) ?_ | refine H.datl hc1 (by rfl) ?_ | refine H.lw ?_ | refine H.ll ?_)); (conv => whnf))
    refine (unitSize_spec H.data rate ch 1).use ?_
    rintro q w ⟨rfl, K⟩
    (have hKb := K.base; replace H := H.call0 K)
    ((repeat ((conv => whnf); first | refine an ?_ | ((first | refine H.nwD ?_ | refine H.nw ?_); clear H; intro w _ H) | refine H.ce ?_ | refine H.db ?_ | refine ea ?_ | refine ol ?_ | (refine H.st ?_; (conv => whnf); clear H; intro w H) | refine cT ?_ | refine cF ?_ | refine cN ?_ | refine cM ?_ | refine H.da (hc1 _ _ (by rfl)) ?_ | refine H.datw hc1 (by rfl) ?_ | refine H.datl hc1 (by rfl) ?_ | refine H.lw ?_ | refine H.ll ?_)); (conv => whnf))
    try rw [shl8]
    try rw [shl8] at H
    ((repeat ((conv => whnf); first | refine an ?_ | ((first | refine H.nwD ?_ | refine H.nw ?_); clear H; intro w _ H) | refine H.ce ?_ | refine H.db ?_ | refine ea ?_ | refine ol ?_ | (refine H.st ?_; (conv => whnf); clear H; intro w H) | refine cT ?_ | refine cF ?_ | refine cN ?_ | refine cM ?_ | refine H.da (hc1 _ _ (by rfl)) ?_ | refine H.datw hc1 (by rfl) ?_ | refine H.datl hc1 (by rfl) ?_ | refine H.lw ?_ | refine H.ll ?_)); (conv => whnf))
    refine Rel.app1_0 (f := byC) (l := O ++ [UInt8.ofNat (d % 256)]) (x := UInt8.ofNat (d / 256)) tabOk rfl rfl rfl rfl rfl (by decide) (fun _ => rfl) (by simp [Value.oneCell']) (H.blkEq (bv_ofNat (n := d / 256) (by omega) (by first | omega | (show (_ : Int) % 256 = _; omega)))) (by simp; omega) (by simp; omega) ?_
    clear H
    intro rn w H
    ((repeat ((conv => whnf); first | refine an ?_ | ((first | refine H.nwD ?_ | refine H.nw ?_); clear H; intro w _ H) | refine H.ce ?_ | refine H.db ?_ | refine ea ?_ | refine ol ?_ | (refine H.st ?_; (conv => whnf); clear H; intro w H) | refine cT ?_ | refine cF ?_ | refine cN ?_ | refine cM ?_ | refine H.da (hc1 _ _ (by rfl)) ?_ | refine H.datw hc1 (by rfl) ?_ | refine H.datl hc1 (by rfl) ?_ | refine H.lw ?_ | refine H.ll ?_)); (conv => whnf))
    refine ⟨(by repeat (first | exact trivial | refine ⟨rfl, ?_⟩)), (k + 1, rn5, rn), (by repeat (first | exact trivial | refine ⟨rfl, ?_⟩)), ⟨by dsimp only; omega, ?_⟩, by dsimp only; omega⟩
    dsimp only
    rw [hsu]
    try rw [List.append_assoc] at H
    exact H.sx
  · have hand : bitsI .and .i64 2 2 = 2 := by decide +kernel
    have hxb := hb _ (List.getElem_mem hlt)
    obtain ⟨p0, d0⟩ := hs.at1 (g := iv) (fun _ => rfl) hlt
    obtain ⟨x, hx⟩ : ∃ x, x = l[k] := ⟨_, rfl⟩
    rw [← hx] at d0 hxb
    obtain ⟨U, hU⟩ : ∃ U, U = l.map (unitOf (isWide 2)) := ⟨_, rfl⟩
    have hUb : ∀ i : Nat, U[i]?.getD 0 < fullOf (isWide 2) := by rw [hU]; exact units_lt _ _
    obtain ⟨u, hu⟩ : ∃ u, u = unitOf (isWide 2) x := ⟨_, rfl⟩
    have hux : U[k]?.getD 0 = u := by rw [hU, List.getElem?_map, List.getElem?_eq_getElem hlt, hu, hx]; rfl
    have hub : u < 256 := by have := hUb k; rw [hux] at this; exact this
    have hol := outU_len (isWide 2) (isDiff 2) ch U k
    have hl6 := (H.slfAt (i := 0) rfl (fun _ => rfl) (by decide)).len
    have hsu := outU_succ (isWide 2) (isDiff 2) ch U k
    rw [← hU] at H hl6 ⊢
    obtain ⟨O, hO⟩ : ∃ O, O = outU (isWide 2) (isDiff 2) ch U k := ⟨_, rfl⟩
    rw [← hO] at hol hl6 hsu H
    have hz : (x / 256 + 128) % 256 = (u : Int) := by rw [hu]; show _ = ((((x / 256 + 128) % 256).toNat : Nat) : Int); omega
    ((repeat ((conv => whnf); first | refine an ?_ | ((first | refine H.nwD ?_ | refine H.nw ?_); clear H; intro w _ H) | refine H.ce ?_ | refine H.db ?_ | refine ea ?_ | refine ol ?_ | (refine H.st ?_; (conv => whnf); clear H; intro w H) | refine cT ?_ | refine cF ?_ | refine cN ?_ | refine cM ?_ | refine H.da (hc1 _ _ (by rfl)) ?_ | refine H.datw hc1 (by rfl) ?_ | refine H.datl hc1 (by rfl) ?_ | refine H.lw ?_ | refine H.ll ?_)); (conv => whnf))
    rw [and16]
    ((repeat ((conv => whnf); first | refine an ?_ | ((first | refine H.nwD ?_ | refine H.nw ?_); clear H; intro w _ H) | refine H.ce ?_ | refine H.db ?_ | refine ea ?_ | refine ol ?_ | (refine H.st ?_; (conv => whnf); clear H; intro w H) | refine cT ?_ | refine cF ?_ | refine cN ?_ | refine cM ?_ | refine H.da (hc1 _ _ (by rfl)) ?_ | refine H.datw hc1 (by rfl) ?_ | refine H.datl hc1 (by rfl) ?_ | refine H.lw ?_ | refine H.ll ?_)); (conv => whnf))
    refine (unitSize_spec H.data rate ch 2).use ?_
    rintro q w ⟨rfl, K⟩
    (have hKb := K.base; replace H := H.call0 K)
    ((repeat ((conv => whnf); first | refine an ?_ | ((first | refine H.nwD ?_ | refine H.nw ?_); clear H; intro w _ H) | refine H.ce ?_ | refine H.db ?_ | refine ea ?_ | refine ol ?_ | (refine H.st ?_; (conv => whnf); clear H; intro w H) | refine cT ?_ | refine cF ?_ | refine cN ?_ | refine cM ?_ | refine H.da (hc1 _ _ (by rfl)) ?_ | refine H.datw hc1 (by rfl) ?_ | refine H.datl hc1 (by rfl) ?_ | refine H.lw ?_ | refine H.ll ?_)); (conv => whnf))
    rw [shl8]
    ((repeat ((conv => whnf); first | refine an ?_ | ((first | refine H.nwD ?_ | refine H.nw ?_); clear H; intro w _ H) | refine H.ce ?_ | refine H.db ?_ | refine ea ?_ | refine ol ?_ | (refine H.st ?_; (conv => whnf); clear H; intro w H) | refine cT ?_ | refine cF ?_ | refine cN ?_ | refine cM ?_ | refine H.da (hc1 _ _ (by rfl)) ?_ | refine H.datw hc1 (by rfl) ?_ | refine H.datl hc1 (by rfl) ?_ | refine H.lw ?_ | refine H.ll ?_)); (conv => whnf))
    try rw [and8] at H
    rw [and8]
    ((repeat ((conv => whnf); first | refine an ?_ | ((first | refine H.nwD ?_ | refine H.nw ?_); clear H; intro w _ H) | refine H.ce ?_ | refine H.db ?_ | refine ea ?_ | refine ol ?_ | (refine H.st ?_; (conv => whnf); clear H; intro w H) | refine cT ?_ | refine cF ?_ | refine cN ?_ | refine cM ?_ | refine H.da (hc1 _ _ (by rfl)) ?_ | refine H.datw hc1 (by rfl) ?_ | refine H.datl hc1 (by rfl) ?_ | refine H.lw ?_ | refine H.ll ?_)); (conv => whnf))
    refine Rel.app1_1 (f := itN) (l := (l.take k).map (unitOf (isWide 2))) (x := u) tabOk rfl rfl rfl rfl rfl (by decide) (fun _ => rfl) (List.all_eq_true.1 rfl) (H.blkEq (c' := itN u) (congrArg (fun z => [Value.int .i64 z]) hz)) (by simp; omega) (by simp; omega) ?_
    clear H
    intro rn5 w H
    rw [show (l.take k).map (unitOf (isWide 2)) ++ [u] = (l.take (k + 1)).map (unitOf (isWide 2)) by rw [List.take_succ_eq_append_getElem hlt, List.map_append, hu, hx]; rfl] at H
    have S5 := H.slfAt (i := 1) rfl (fun _ => rfl) (by decide)
    have hl5 := S5.len
    rw [List.length_map, List.length_take] at hl5
    ((repeat ((conv => whnf); first | refine an ?_ | ((first | refine H.nwD ?_ | refine H.nw ?_); clear H; intro w _ H) | refine H.ce ?_ | refine H.db ?_ | refine ea ?_ | refine ol ?_ | (refine H.st ?_; (conv => whnf); clear H; intro w H) | refine cT ?_ | refine cF ?_ | refine cN ?_ | refine cM ?_ | refine H.da (hc1 _ _ (by rfl)) ?_ | refine H.datw hc1 (by rfl) ?_ | refine H.datl hc1 (by rfl) ?_ | refine H.lw ?_ | refine H.ll ?_)); (conv => whnf))
    by_cases hdf : ch ≤ k
    · have hix : k - ch < ((l.take (k + 1)).map (unitOf (isWide 2))).length := by rw [List.length_map, List.length_take]; omega
      obtain ⟨q1, e1⟩ := S5.at1 (g := fun n : Nat => iv (n : Int)) (fun _ => rfl) (i := k - ch) hix
      obtain ⟨b, hb'⟩ : ∃ b, b = ((l.take (k + 1)).map (unitOf (isWide 2)))[k - ch] := ⟨_, rfl⟩
      rw [← hb'] at e1
      have hx1 : U[k - ch]?.getD 0 = b := by
        rw [hb', hU, List.getElem_map, List.getElem_take, List.getElem?_map, List.getElem?_eq_getElem (by omega)]
        rfl
      have hub1 := hUb (k - ch)
      rw [hx1] at hub1
      have ej : ((rn5.len : Int) - 1 - (ch : Int)) = ((k - ch : Nat) : Int) := by omega
      obtain ⟨d, hd⟩ : ∃ d, d = (u + 256 - b) % 256 := ⟨_, rfl⟩
      rw [show toDiff (isDiff 2) ch (fullOf (isWide 2)) U k = d by unfold toDiff; rw [if_pos (by exact ⟨by decide, hdf⟩), hux, hx1, hd]; rfl] at hsu
      have hub' : b < 256 := hub1
      have hd65 : d < 256 := by omega
      ((repeat ((conv => whnf); first | refine an ?_ | ((first | refine H.nwD ?_ | refine H.nw ?_); clear H; intro w _ H) | refine H.ce ?_ | refine H.db ?_ | refine ea ?_ | refine ol ?_ | (refine H.st ?_; (conv => whnf); clear H; intro w H) | refine cT ?_ | refine cF ?_ | refine cN ?_ | refine cM ?_ | refine H.da (hc1 _ _ (by rfl)) ?_ | refine H.datw hc1 (by rfl) ?_ | refine H.datl hc1 (by rfl) ?_ | refine H.lw ?_ | refine H.ll ?_)); (conv => whnf))
      rw [ej]
      ((repeat ((conv => whnf); first | refine an ?_ | ((first | refine H.nwD ?_ | refine H.nw ?_); clear H; intro w _ H) | refine H.ce ?_ | refine H.db ?_ | refine ea ?_ | refine ol ?_ | (refine H.st ?_; (conv => whnf); clear H; intro w H) | refine cT ?_ | refine cF ?_ | refine cN ?_ | refine cM ?_ | refine H.da (hc1 _ _ (by rfl)) ?_ | refine H.datw hc1 (by rfl) ?_ | refine H.datl hc1 (by rfl) ?_ | refine H.lw ?_ | refine H.ll ?_)); (conv => whnf))
      refine Rel.app1_0 (f := byC) (l := O) (x := UInt8.ofNat (d)) tabOk rfl rfl rfl rfl rfl (by decide) (fun _ => rfl) (by simp [Value.oneCell']) (H.blkEq (bv_ofNat (n := d) (by omega) (by first | omega | (show (_ : Int) % 256 = _; omega)))) (by simp; omega) (by simp; omega) ?_
      clear H
      intro rn w H
      ((repeat ((conv => whnf); first | refine an ?_ | ((first | refine H.nwD ?_ | refine H.nw ?_); clear H; intro w _ H) | refine H.ce ?_ | refine H.db ?_ | refine ea ?_ | refine ol ?_ | (refine H.st ?_; (conv => whnf); clear H; intro w H) | refine cT ?_ | refine cF ?_ | refine cN ?_ | refine cM ?_ | refine H.da (hc1 _ _ (by rfl)) ?_ | refine H.datw hc1 (by rfl) ?_ | refine H.datl hc1 (by rfl) ?_ | refine H.lw ?_ | refine H.ll ?_)); (conv => whnf))
      refine (unitSize_spec H.data rate ch 2).use ?_
      rintro q w ⟨rfl, K⟩
      (have hKb := K.base; replace H := H.call0 K)
      ((repeat ((conv => whnf); first | refine an ?_ | ((first | refine H.nwD ?_ | refine H.nw ?_); clear H; intro w _ H) | refine H.ce ?_ | refine H.db ?_ | refine ea ?_ | refine ol ?_ | (refine H.st ?_; (conv => whnf); clear H; intro w H) | refine cT ?_ | refine cF ?_ | refine cN ?_ | refine cM ?_ | refine H.da (hc1 _ _ (by rfl)) ?_ | refine H.datw hc1 (by rfl) ?_ | refine H.datl hc1 (by rfl) ?_ | refine H.lw ?_ | refine H.ll ?_)); (conv => whnf))
      refine ⟨(by repeat (first | exact trivial | refine ⟨rfl, ?_⟩)), (k + 1, rn5, rn), (by repeat (first | exact trivial | refine ⟨rfl, ?_⟩)), ⟨by dsimp only; omega, ?_⟩, by dsimp only; omega⟩
      dsimp only
      rw [hsu]
      try rw [List.append_assoc] at H
      exact H.sx
    · obtain ⟨d, hd⟩ : ∃ d, d = u := ⟨_, rfl⟩
      rw [show toDiff (isDiff 2) ch (fullOf (isWide 2)) U k = d by unfold toDiff; rw [if_neg (fun h => hdf h.2), hux, hd]] at hsu
      ((repeat ((conv => whnf); first | refine an ?_ | ((first | refine H.nwD ?_ | refine H.nw ?_); clear H; intro w _ H) | refine H.ce ?_ | refine H.db ?_ | refine ea ?_ | refine ol ?_ | (refine H.st ?_; (conv => whnf); clear H; intro w H) | refine cT ?_ | refine cF ?_ | refine cN ?_ | refine cM ?_ | refine H.da (hc1 _ _ (by rfl)) ?_ | refine H.datw hc1 (by rfl) ?_ | refine H.datl hc1 (by rfl) ?_ | refine H.lw ?_ | refine H.ll ?_)); (conv => whnf))
      refine Rel.app1_0 (f := byC) (l := O) (x := UInt8.ofNat (d)) tabOk rfl rfl rfl rfl rfl (by decide) (fun _ => rfl) (by simp [Value.oneCell']) (H.blkEq (bv_ofNat (n := d) (by omega) (by first | omega | (show (_ : Int) % 256 = _; omega)))) (by simp; omega) (by simp; omega) ?_
      clear H
      intro rn w H
      ((repeat ((conv => whnf); first | refine an ?_ | ((first | refine H.nwD ?_ | refine H.nw ?_); clear H; intro w _ H) | refine H.ce ?_ | refine H.db ?_ | refine ea ?_ | refine ol ?_ | (refine H.st ?_; (conv => whnf); clear H; intro w H) | refine cT ?_ | refine cF ?_ | refine cN ?_ | refine cM ?_ | refine H.da (hc1 _ _ (by rfl)) ?_ | refine H.datw hc1 (by rfl) ?_ | refine H.datl hc1 (by rfl) ?_ | refine H.lw ?_ | refine H.ll ?_)); (conv => whnf))
      refine (unitSize_spec H.data rate ch 2).use ?_
      rintro q w ⟨rfl, K⟩
      (have hKb := K.base; replace H := H.call0 K)
      ((repeat ((conv => whnf); first | refine an ?_ | ((first | refine H.nwD ?_ | refine H.nw ?_); clear H; intro w _ H) | refine H.ce ?_ | refine H.db ?_ | refine ea ?_ | refine ol ?_ | (refine H.st ?_; (conv => whnf); clear H; intro w H) | refine cT ?_ | refine cF ?_ | refine cN ?_ | refine cM ?_ | refine H.da (hc1 _ _ (by rfl)) ?_ | refine H.datw hc1 (by rfl) ?_ | refine H.datl hc1 (by rfl) ?_ | refine H.lw ?_ | refine H.ll ?_)); (conv => whnf))
      refine ⟨(by repeat (first | exact trivial | refine ⟨rfl, ?_⟩)), (k + 1, rn5, rn), (by repeat (first | exact trivial | refine ⟨rfl, ?_⟩)), ⟨by dsimp only; omega, ?_⟩, by dsimp only; omega⟩
      dsimp only
      rw [hsu]
      try rw [List.append_assoc] at H
      exact H.sx
  · have hand : bitsI .and .i64 3 2 = 2 := by decide +kernel
    have hxb := hb _ (List.getElem_mem hlt)
    obtain ⟨p0, d0⟩ := hs.at1 (g := iv) (fun _ => rfl) hlt
    obtain ⟨x, hx⟩ : ∃ x, x = l[k] := ⟨_, rfl⟩
    rw [← hx] at d0 hxb
    obtain ⟨U, hU⟩ : ∃ U, U = l.map (unitOf (isWide 3)) := ⟨_, rfl⟩
    have hUb : ∀ i : Nat, U[i]?.getD 0 < fullOf (isWide 3) := by rw [hU]; exact units_lt _ _
    obtain ⟨u, hu⟩ : ∃ u, u = unitOf (isWide 3) x := ⟨_, rfl⟩
    have hux : U[k]?.getD 0 = u := by rw [hU, List.getElem?_map, List.getElem?_eq_getElem hlt, hu, hx]; rfl
    have hub : u < 65536 := by have := hUb k; rw [hux] at this; exact this
    have hol := outU_len (isWide 3) (isDiff 3) ch U k
    have hl6 := (H.slfAt (i := 0) rfl (fun _ => rfl) (by decide)).len
    have hsu := outU_succ (isWide 3) (isDiff 3) ch U k
    rw [← hU] at H hl6 ⊢
    obtain ⟨O, hO⟩ : ∃ O, O = outU (isWide 3) (isDiff 3) ch U k := ⟨_, rfl⟩
    rw [← hO] at hol hl6 hsu H
    have hz : x % 65536 = (u : Int) := by rw [hu]; show _ = (((x % 65536).toNat : Nat) : Int); omega
    ((repeat ((conv => whnf); first | refine an ?_ | ((first | refine H.nwD ?_ | refine H.nw ?_); clear H; intro w _ H) | refine H.ce ?_ | refine H.db ?_ | refine ea ?_ | refine ol ?_ | (refine H.st ?_; (conv => whnf); clear H; intro w H) | refine cT ?_ | refine cF ?_ | refine cN ?_ | refine cM ?_ | refine H.da (hc1 _ _ (by rfl)) ?_ | refine H.datw hc1 (by rfl) ?_ | refine H.datl hc1 (by rfl) ?_ | refine H.lw ?_ | refine H.ll ?_)); (conv => whnf))
    rw [and16]
    ((repeat ((conv => whnf); first | refine an ?_ | ((first | refine H.nwD ?_ | refine H.nw ?_); clear H; intro w _ H) | refine H.ce ?_ | refine H.db ?_ | refine ea ?_ | refine ol ?_ | (refine H.st ?_; (conv => whnf); clear H; intro w H) | refine cT ?_ | refine cF ?_ | refine cN ?_ | refine cM ?_ | refine H.da (hc1 _ _ (by rfl)) ?_ | refine H.datw hc1 (by rfl) ?_ | refine H.datl hc1 (by rfl) ?_ | refine H.lw ?_ | refine H.ll ?_)); (conv => whnf))
    refine (unitSize_spec H.data rate ch 3).use ?_
    rintro q w ⟨rfl, K⟩
    (have hKb := K.base; replace H := H.call0 K)
    ((repeat ((conv => whnf); first | refine an ?_ | ((first | refine H.nwD ?_ | refine H.nw ?_); clear H; intro w _ H) | refine H.ce ?_ | refine H.db ?_ | refine ea ?_ | refine ol ?_ | (refine H.st ?_; (conv => whnf); clear H; intro w H) | refine cT ?_ | refine cF ?_ | refine cN ?_ | refine cM ?_ | refine H.da (hc1 _ _ (by rfl)) ?_ | refine H.datw hc1 (by rfl) ?_ | refine H.datl hc1 (by rfl) ?_ | refine H.lw ?_ | refine H.ll ?_)); (conv => whnf))
    refine Rel.app1_1 (f := itN) (l := (l.take k).map (unitOf (isWide 3))) (x := u) tabOk rfl rfl rfl rfl rfl (by decide) (fun _ => rfl) (List.all_eq_true.1 rfl) (H.blkEq (c' := itN u) (congrArg (fun z => [Value.int .i64 z]) hz)) (by simp; omega) (by simp; omega) ?_
    clear H
    intro rn5 w H
    rw [show (l.take k).map (unitOf (isWide 3)) ++ [u] = (l.take (k + 1)).map (unitOf (isWide 3)) by rw [List.take_succ_eq_append_getElem hlt, List.map_append, hu, hx]; rfl] at H
    have S5 := H.slfAt (i := 1) rfl (fun _ => rfl) (by decide)
    have hl5 := S5.len
    rw [List.length_map, List.length_take] at hl5
    ((repeat ((conv => whnf); first | refine an ?_ | ((first | refine H.nwD ?_ | refine H.nw ?_); clear H; intro w _ H) | refine H.ce ?_ | refine H.db ?_ | refine ea ?_ | refine ol ?_ | (refine H.st ?_; (conv => whnf); clear H; intro w H) | refine cT ?_ | refine cF ?_ | refine cN ?_ | refine cM ?_ | refine H.da (hc1 _ _ (by rfl)) ?_ | refine H.datw hc1 (by rfl) ?_ | refine H.datl hc1 (by rfl) ?_ | refine H.lw ?_ | refine H.ll ?_)); (conv => whnf))
    by_cases hdf : ch ≤ k
    · have hix : k - ch < ((l.take (k + 1)).map (unitOf (isWide 3))).length := by rw [List.length_map, List.length_take]; omega
      obtain ⟨q1, e1⟩ := S5.at1 (g := fun n : Nat => iv (n : Int)) (fun _ => rfl) (i := k - ch) hix
      obtain ⟨b, hb'⟩ : ∃ b, b = ((l.take (k + 1)).map (unitOf (isWide 3)))[k - ch] := ⟨_, rfl⟩
      rw [← hb'] at e1
      have hx1 : U[k - ch]?.getD 0 = b := by
        rw [hb', hU, List.getElem_map, List.getElem_take, List.getElem?_map, List.getElem?_eq_getElem (by omega)]
        rfl
      have hub1 := hUb (k - ch)
      rw [hx1] at hub1
      have ej : ((rn5.len : Int) - 1 - (ch : Int)) = ((k - ch : Nat) : Int) := by omega
      obtain ⟨d, hd⟩ : ∃ d, d = (u + 65536 - b) % 65536 := ⟨_, rfl⟩
      rw [show toDiff (isDiff 3) ch (fullOf (isWide 3)) U k = d by unfold toDiff; rw [if_pos (by exact ⟨by decide, hdf⟩), hux, hx1, hd]; rfl] at hsu
      have hub' : b < 65536 := hub1
      have hd65 : d < 65536 := by omega
      ((repeat ((conv => whnf); first | refine an ?_ | ((first | refine H.nwD ?_ | refine H.nw ?_); clear H; intro w _ H) | refine H.ce ?_ | refine H.db ?_ | refine ea ?_ | refine ol ?_ | (refine H.st ?_; (conv => whnf); clear H; intro w H) | refine cT ?_ | refine cF ?_ | refine cN ?_ | refine cM ?_ | refine H.da (hc1 _ _ (by rfl)) ?_ | refine H.datw hc1 (by rfl) ?_ | refine H.datl hc1 (by rfl) ?_ | refine H.lw ?_ | refine H.ll ?_)); (conv => whnf))
      rw [ej]
      ((repeat ((conv => whnf); first | refine an ?_ | ((first | refine H.nwD ?_ | refine H.nw ?_); clear H; intro w _ H) | refine H.ce ?_ | refine H.db ?_ | refine ea ?_ | refine ol ?_ | (refine H.st ?_; (conv => whnf); clear H; intro w H) | refine cT ?_ | refine cF ?_ | refine cN ?_ | refine cM ?_ | refine H.da (hc1 _ _ (by rfl)) ?_ | refine H.datw hc1 (by rfl) ?_ | refine H.datl hc1 (by rfl) ?_ | refine H.lw ?_ | refine H.ll ?_)); (conv => whnf))
      refine Rel.app1_0 (f := byC) (l := O) (x := UInt8.ofNat (d % 256)) tabOk rfl rfl rfl rfl rfl (by decide) (fun _ => rfl) (by simp [Value.oneCell']) (H.blkEq (bv_ofNat (n := d % 256) (by omega) (by first | omega | (show (_ : Int) % 256 = _; omega)))) (by simp; omega) (by simp; omega) ?_
      clear H
      intro rn w H
      ((repeat ((conv => whnf); first | refine an ?_ | ((first | refine H.nwD ?_ | refine H.nw ?_); clear H; intro w _ H) | refine H.ce ?_ | refine H.db ?_ | refine ea ?_ | refine ol ?_ | (refine H.st ?_; (conv => whnf); clear H; intro w H) | refine cT ?_ | refine cF ?_ | refine cN ?_ | refine cM ?_ | refine H.da (hc1 _ _ (by rfl)) ?_ | refine H.datw hc1 (by rfl) ?_ | refine H.datl hc1 (by rfl) ?_ | refine H.lw ?_ | refine H.ll ?_)); (conv => whnf))
      refine (unitSize_spec H.data rate ch 3).use ?_
      rintro q w ⟨rfl, K⟩
      (have hKb := K.base; replace H := H.call0 K)
      ((repeat ((conv => whnf); first | refine an ?_ | ((first | refine H.nwD ?_ | refine H.nw ?_); clear H; intro w _ H) | refine H.ce ?_ | refine H.db ?_ | refine ea ?_ | refine ol ?_ | (refine H.st ?_; (conv => whnf); clear H; intro w H) | refine cT ?_ | refine cF ?_ | refine cN ?_ | refine cM ?_ | refine H.da (hc1 _ _ (by rfl)) ?_ | refine H.datw hc1 (by rfl) ?_ | refine H.datl hc1 (by rfl) ?_ | refine H.lw ?_ | refine H.ll ?_)); (conv => whnf))
      try rw [shl8]
      try rw [shl8] at H
      ((repeat ((conv => whnf); first | refine an ?_ | ((first | refine H.nwD ?_ | refine H.nw ?_); clear H; intro w _ H) | refine H.ce ?_ | refine H.db ?_ | refine ea ?_ | refine ol ?_ | (refine H.st ?_; (conv => whnf); clear H; intro w H) | refine cT ?_ | refine cF ?_ | refine cN ?_ | refine cM ?_ | refine H.da (hc1 _ _ (by rfl)) ?_ | refine H.datw hc1 (by rfl) ?_ | refine H.datl hc1 (by rfl) ?_ | refine H.lw ?_ | refine H.ll ?_)); (conv => whnf))
      refine Rel.app1_0 (f := byC) (l := O ++ [UInt8.ofNat (d % 256)]) (x := UInt8.ofNat (d / 256)) tabOk rfl rfl rfl rfl rfl (by decide) (fun _ => rfl) (by simp [Value.oneCell']) (H.blkEq (bv_ofNat (n := d / 256) (by omega) (by first | omega | (show (_ : Int) % 256 = _; omega)))) (by simp; omega) (by simp; omega) ?_
      clear H
      intro rn w H
      ((repeat ((conv => whnf); first | refine an ?_ | ((first | refine H.nwD ?_ | refine H.nw ?_); clear H; intro w _ H) | refine H.ce ?_ | refine H.db ?_ | refine ea ?_ | refine ol ?_ | (refine H.st ?_; (conv => whnf); clear H; intro w H) | refine cT ?_ | refine cF ?_ | refine cN ?_ | refine cM ?_ | refine H.da (hc1 _ _ (by rfl)) ?_ | refine H.datw hc1 (by rfl) ?_ | refine H.datl hc1 (by rfl) ?_ | refine H.lw ?_ | refine H.ll ?_)); (conv => whnf))
      refine ⟨(by repeat (first | exact trivial | refine ⟨rfl, ?_⟩)), (k + 1, rn5, rn), (by repeat (first | exact trivial | refine ⟨rfl, ?_⟩)), ⟨by dsimp only; omega, ?_⟩, by dsimp only; omega⟩
      dsimp only
      rw [hsu]
      try rw [List.append_assoc] at H
      exact H.sx
    · obtain ⟨d, hd⟩ : ∃ d, d = u := ⟨_, rfl⟩
      rw [show toDiff (isDiff 3) ch (fullOf (isWide 3)) U k = d by unfold toDiff; rw [if_neg (fun h => hdf h.2), hux, hd]] at hsu
      ((repeat ((conv => whnf); first | refine an ?_ | ((first | refine H.nwD ?_ | refine H.nw ?_); clear H; intro w _ H) | refine H.ce ?_ | refine H.db ?_ | refine ea ?_ | refine ol ?_ | (refine H.st ?_; (conv => whnf); clear H; intro w H) | refine cT ?_ | refine cF ?_ | refine cN ?_ | refine cM ?_ | refine H.da (hc1 _ _ (by rfl)) ?_ | refine H.datw hc1 (by rfl) ?_ | refine H.datl hc1 (by rfl) ?_ | refine H.lw ?_ | refine H.ll ?_)); (conv => whnf))
      refine Rel.app1_0 (f := byC) (l := O) (x := UInt8.ofNat (d % 256)) tabOk rfl rfl rfl rfl rfl (by decide) (fun _ => rfl) (by simp [Value.oneCell']) (H.blkEq (bv_ofNat (n := d % 256) (by omega) (by first | omega | (show (_ : Int) % 256 = _; omega)))) (by simp; omega) (by simp; omega) ?_
      clear H
      intro rn w H
      ((repeat ((conv => whnf); first | refine an ?_ | ((first | refine H.nwD ?_ | refine H.nw ?_); clear H; intro w _ H) | refine H.ce ?_ | refine H.db ?_ | refine ea ?_ | refine ol ?_ | (refine H.st ?_; (conv => whnf); clear H; intro w H) | refine cT ?_ | refine cF ?_ | refine cN ?_ | refine cM ?_ | refine H.da (hc1 _ _ (by rfl)) ?_ | refine H.datw hc1 (by rfl) ?_ | refine H.datl hc1 (by rfl) ?_ | refine H.lw ?_ | refine H.ll ?_)); (conv => whnf))
      refine (unitSize_spec H.data rate ch 3).use ?_
      rintro q w ⟨rfl, K⟩
      (have hKb := K.base; replace H := H.call0 K)
      ((repeat ((conv => whnf); first | refine an ?_ | ((first | refine H.nwD ?_ | refine H.nw ?_); clear H; intro w _ H) | refine H.ce ?_ | refine H.db ?_ | refine ea ?_ | refine ol ?_ | (refine H.st ?_; (conv => whnf); clear H; intro w H) | refine cT ?_ | refine cF ?_ | refine cN ?_ | refine cM ?_ | refine H.da (hc1 _ _ (by rfl)) ?_ | refine H.datw hc1 (by rfl) ?_ | refine H.datl hc1 (by rfl) ?_ | refine H.lw ?_ | refine H.ll ?_)); (conv => whnf))
      try rw [shl8]
      try rw [shl8] at H
      ((repeat ((conv => whnf); first | refine an ?_ | ((first | refine H.nwD ?_ | refine H.nw ?_); clear H; intro w _ H) | refine H.ce ?_ | refine H.db ?_ | refine ea ?_ | refine ol ?_ | (refine H.st ?_; (conv => whnf); clear H; intro w H) | refine cT ?_ | refine cF ?_ | refine cN ?_ | refine cM ?_ | refine H.da (hc1 _ _ (by rfl)) ?_ | refine H.datw hc1 (by rfl) ?_ | refine H.datl hc1 (by rfl) ?_ | refine H.lw ?_ | refine H.ll ?_)); (conv => whnf))
      refine Rel.app1_0 (f := byC) (l := O ++ [UInt8.ofNat (d % 256)]) (x := UInt8.ofNat (d / 256)) tabOk rfl rfl rfl rfl rfl (by decide) (fun _ => rfl) (by simp [Value.oneCell']) (H.blkEq (bv_ofNat (n := d / 256) (by omega) (by first | omega | (show (_ : Int) % 256 = _; omega)))) (by simp; omega) (by simp; omega) ?_
      clear H
      intro rn w H
      ((repeat ((conv => whnf); first | refine an ?_ | ((first | refine H.nwD ?_ | refine H.nw ?_); clear H; intro w _ H) | refine H.ce ?_ | refine H.db ?_ | refine ea ?_ | refine ol ?_ | (refine H.st ?_; (conv => whnf); clear H; intro w H) | refine cT ?_ | refine cF ?_ | refine cN ?_ | refine cM ?_ | refine H.da (hc1 _ _ (by rfl)) ?_ | refine H.datw hc1 (by rfl) ?_ | refine H.datl hc1 (by rfl) ?_ | refine H.lw ?_ | refine H.ll ?_)); (conv => whnf))
      refine ⟨(by repeat (first | exact trivial | refine ⟨rfl, ?_⟩)), (k + 1, rn5, rn), (by repeat (first | exact trivial | refine ⟨rfl, ?_⟩)), ⟨by dsimp only; omega, ?_⟩, by dsimp only; omega⟩
      dsimp only
      rw [hsu]
      try rw [List.append_assoc] at H
      exact H.sx
end
end Go.Proofs.Ytjfcpnlacodjjaa
namespace Go.Proofs.Ytjfcpnlacodjjaa
open Go Go.RowKit

section
variable {V W : World}
theorem isData_spec (hV : Sub V W) (c : ChkH) : Ret Try.prog 76 [.agg (chkC c).toArray].toArray W fun v w' => v = .bool (decide (c.1 = 68)) ∧ Rel W V [] V w' := by
  have H := Rel.start hV
  refine cal_of_vc tabOk Try.func76 rfl (by kernel_rfl) 6 rfl (by simp) [0, 1, 2] ?_
  ((repeat ((conv => whnf); first | refine an ?_ | refine H.ce ?_ | refine H.db ?_ | refine ea ?_ | refine ol ?_ | (refine H.st ?_; (conv => whnf); clear H; intro w H) | refine cT ?_ | refine cF ?_ | refine cN ?_ | refine cM ?_ | refine H.da (hc1 _ _ (by rfl)) ?_ | refine H.datw hc1 (by rfl) ?_ | refine H.datl hc1 (by rfl) ?_ | refine H.lw ?_ | refine H.ll ?_)); (conv => whnf))
  ((first | refine Rel.nwD H ?_ | refine Rel.nw H ?_); clear H; intro w b1 H)
  ((repeat ((conv => whnf); first | refine an ?_ | ((first | refine H.nwD ?_ | refine H.nw ?_); clear H; intro w _ H) | refine H.ce ?_ | refine H.db ?_ | refine ea ?_ | refine ol ?_ | (refine H.st ?_; (conv => whnf); clear H; intro w H) | refine cT ?_ | refine cF ?_ | refine cN ?_ | refine cM ?_ | refine H.da (hc1 _ _ (by rfl)) ?_ | refine H.datw hc1 (by rfl) ?_ | refine H.datl hc1 (by rfl) ?_ | refine H.lw ?_ | refine H.ll ?_)); (conv => whnf))
  refine ⟨congrArg Value.bool (decide_eq_decide.2 ⟨fun h => ?_, fun h => ?_⟩), H.sx⟩
  · apply UInt8.toNat_inj.1
    show c.1.toNat = 68
    omega
  · rw [h]
    rfl
theorem dataAt_spec (hV : Sub V W) {s : Sl} {l : List ChkH} (hs : SlF chkC V s l) (hl : l.length ≤ 1000000) {i : Nat} (hi : i < l.length) (h1 : l[i].1 = 68) (h2 : ∀ k, k < i → (h : k < l.length) → l[k].1 ≠ 68) :
    Ret Try.prog 75 [s.v, .func (.func 76) #[] #[]].toArray W fun v w' => v = iv i ∧ Rel W V [] V w' := by
  have H := Rel.start hV
  have hlen := hs.len
  refine cal_of_vc tabOk Try.func75 rfl (by kernel_rfl) 19 rfl (by simp) [0, 1, 4, 5, 7, 8, 9, 16] ?_
  ((repeat ((conv => whnf); first | refine an ?_ | ((first | refine H.nwD ?_ | refine H.nw ?_); clear H; intro w _ H) | refine H.ce ?_ | refine H.db ?_ | refine ea ?_ | refine ol ?_ | (refine H.st ?_; (conv => whnf); clear H; intro w H) | refine cT ?_ | refine cF ?_ | refine cN ?_ | refine cM ?_ | refine H.da (hc1 _ _ (by rfl)) ?_ | refine H.datw hc1 (by rfl) ?_ | refine H.datl hc1 (by rfl) ?_ | refine H.lw ?_ | refine H.ll ?_)); (conv => whnf))
  refine loop_inv (S := Nat) tabOk [0, 1, 7] (fun k => [(8, iv k)]) (fun k w' => k ≤ i ∧ Rel W V [] V w') (fun k _ => l.length - k) 0 ?_
  (conv => whnf)
  refine ⟨(by repeat (first | exact trivial | refine ⟨rfl, ?_⟩)), ⟨by omega, H⟩, ?_⟩
  clear H
  rintro k w ⟨hk, H⟩
  have hlt : k < l.length := by omega
  obtain ⟨hp, hg⟩ := hs.get (n := 2) (fun _ => rfl) (by decide) hlt
  have hc0 := hg 0 _ rfl
  have hc1 := hg 1 _ rfl
  ((repeat ((conv => whnf); first | refine an ?_ | ((first | refine H.nwD ?_ | refine H.nw ?_); clear H; intro w _ H) | refine H.ce ?_ | refine H.db ?_ | refine ea ?_ | refine ol ?_ | (refine H.st ?_; (conv => whnf); clear H; intro w H) | refine cT ?_ | refine cF ?_ | refine cN ?_ | refine cM ?_ | refine H.da (hc1 _ _ (by rfl)) ?_ | refine H.datw hc1 (by rfl) ?_ | refine H.datl hc1 (by rfl) ?_ | refine H.lw ?_ | refine H.ll ?_)); (conv => whnf))
  refine (isData_spec H.data l[k]).use ?_
  rintro q w ⟨rfl, K⟩
  (have hKb := K.base; replace H := H.call0 K)
  by_cases he : k = i
  · subst he
    rw [h1, decide_eq_true rfl]
    ((repeat ((conv => whnf); first | refine an ?_ | ((first | refine H.nwD ?_ | refine H.nw ?_); clear H; intro w _ H) | refine H.ce ?_ | refine H.db ?_ | refine ea ?_ | refine ol ?_ | (refine H.st ?_; (conv => whnf); clear H; intro w H) | refine cT ?_ | refine cF ?_ | refine cN ?_ | refine cM ?_ | refine H.da (hc1 _ _ (by rfl)) ?_ | refine H.datw hc1 (by rfl) ?_ | refine H.datl hc1 (by rfl) ?_ | refine H.lw ?_ | refine H.ll ?_)); (conv => whnf))
    exact H.sx
  · rw [decide_eq_false (h2 k (by omega) hlt)]
    ((repeat ((conv => whnf); first | refine an ?_ | ((first | refine H.nwD ?_ | refine H.nw ?_); clear H; intro w _ H) | refine H.ce ?_ | refine H.db ?_ | refine ea ?_ | refine ol ?_ | (refine H.st ?_; (conv => whnf); clear H; intro w H) | refine cT ?_ | refine cF ?_ | refine cN ?_ | refine cM ?_ | refine H.da (hc1 _ _ (by rfl)) ?_ | refine H.datw hc1 (by rfl) ?_ | refine H.datl hc1 (by rfl) ?_ | refine H.lw ?_ | refine H.ll ?_)); (conv => whnf))
    exact ⟨(by repeat (first | exact trivial | refine ⟨rfl, ?_⟩)), k + 1, (by repeat (first | exact trivial | refine ⟨rfl, ?_⟩)), ⟨by omega, H.sx⟩, by omega⟩
end
end Go.Proofs.Ytjfcpnlacodjjaa
