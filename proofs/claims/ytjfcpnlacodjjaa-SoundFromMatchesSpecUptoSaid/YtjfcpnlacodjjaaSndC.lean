/-
  The samples of a sound file.
-/
import Derived.Test.YtjfcpnlacodjjaaSndA
namespace Go.Proofs.Ytjfcpnlacodjjaa
open Go Go.RowKit

abbrev itN (n : Nat) : List Value := [iv (n : Int)]
abbrev fmtC (rate ch coding : Nat) : List Value := [iv rate, iv ch, iv coding]
section
variable {V W : World}
theorem unitSize_spec (hV : Sub V W) (rate ch coding : Nat) : Ret Try.prog 77 [.agg (fmtC rate ch coding).toArray].toArray W fun v w' => v = iv ((coding % 2 + 1 : Nat) : Int) ∧ Rel W V [] V w' := by
  have H := Rel.start hV
  refine cal_of_vc tabOk Try.func77 rfl (by kernel_rfl) 7 rfl (by simp) [0, 1, 2] ?_
  ((repeat ((conv => whnf); first | refine an ?_ | refine H.ce ?_ | refine H.db ?_ | refine ea ?_ | refine ol ?_ | (refine H.st ?_; (conv => whnf); clear H; intro w H) | refine cT ?_ | refine cF ?_ | refine cN ?_ | refine cM ?_ | refine H.lw ?_ | refine H.ll ?_)); (conv => whnf))
  ((first | refine Rel.nwD H ?_ | refine Rel.nw H ?_); clear H; intro w b1 H)
  ((repeat ((conv => whnf); first | refine an ?_ | ((first | refine H.nwD ?_ | refine H.nw ?_); clear H; intro w _ H) | refine H.ce ?_ | refine H.db ?_ | refine ea ?_ | refine ol ?_ | (refine H.st ?_; (conv => whnf); clear H; intro w H) | refine cT ?_ | refine cF ?_ | refine cN ?_ | refine cM ?_ | refine H.lw ?_ | refine H.ll ?_)); (conv => whnf))
  exact H.sx
theorem rawU_lt (w : Bool) (l : List UInt8) : ∀ r ∈ rawU w l, r < fullOf w := by
  intro r hr
  have hb : ∀ i, at8 l i < 256 := fun i => UInt8.toNat_lt _
  unfold rawU at hr
  unfold fullOf
  split at hr
  · rename_i hw
    obtain ⟨k, _, rfl⟩ := List.mem_map.1 hr
    rw [if_pos hw]
    have := hb (2 * k)
    have := hb (2 * k + 1)
    omega
  · rename_i hw
    obtain ⟨k, _, rfl⟩ := List.mem_map.1 hr
    rw [if_neg hw]
    exact hb k
theorem unDiff_mem {df : Bool} {ch full : Nat} (hf : 0 < full) : ∀ (n : Nat) (l : List Nat), l.length = n → (∀ r ∈ l, r < full) → ∀ r ∈ unDiff df ch full l, r < full
  | 0, l, hn, _ => by rw [List.eq_nil_of_length_eq_zero hn]; simp [unDiff_nil]
  | n + 1, l, hn, h => by
    obtain ⟨i, x, rfl⟩ : ∃ i x, l = i ++ [x] := by
      rcases List.eq_nil_or_concat l with rfl | ⟨i, x, rfl⟩
      · simp at hn
      · exact ⟨i, x, by simp⟩
    intro r hr
    rw [unDiff_snoc] at hr
    rcases List.mem_append.1 hr with hr | hr
    · exact unDiff_mem hf n i (by simpa using hn) (fun y hy => h y (by simp [hy])) r hr
    · rw [List.mem_singleton] at hr
      rw [hr]
      split
      · exact Nat.mod_lt _ hf
      · exact h x (by simp)
theorem unDiff_lt {df : Bool} {ch full : Nat} {l : List Nat} (h : ∀ r ∈ l, r < full) (hf : 0 < full) (i : Nat) : (unDiff df ch full l)[i]?.getD 0 < full := by
  by_cases hi : i < (unDiff df ch full l).length
  · rw [List.getElem?_eq_getElem hi]
    exact unDiff_mem hf _ l rfl h _ (List.getElem_mem hi)
  · rw [List.getElem?_eq_none (by omega)]
    exact hf
set_option maxRecDepth 100000 in
set_option maxHeartbeats 1000000 in
theorem decode_spec (hV : Sub V W) {rate ch coding : Nat} (hc : coding < 4) (hch : 1 ≤ ch ∧ ch ≤ 2) {s : Sl} {l : List UInt8} (hs : Byt V s l) (hl : l.length ≤ 1000000) (hev : isWide coding = true → l.length % 2 = 0) :
    Ret Try.prog 78 [.agg (fmtC rate ch coding).toArray, s.v].toArray W fun v w' => ∃ r : Sl, v = r.v ∧ Rel W V [.row r 3 1 ((sndVals l coding ch).flatMap itC)] V w' := by
  have H := Rel.start hV
  have hlen := hs.len
  refine cal_of_vc tabOk Try.func78 rfl (by kernel_rfl) 77 rfl (by simp) [0, 1, 2, 4, 5, 6, 7, 8, 9, 10, 14, 26, 48, 61, 67] ?_
  ((repeat ((conv => whnf); first | refine an ?_ | refine H.ce ?_ | refine H.db ?_ | refine ea ?_ | refine ol ?_ | (refine H.st ?_; (conv => whnf); clear H; intro w H) | refine cT ?_ | refine cF ?_ | refine cN ?_ | refine cM ?_ | refine H.lw ?_ | refine H.ll ?_)); (conv => whnf))
  ((first | refine Rel.nwD H ?_ | refine Rel.nw H ?_); clear H; intro w b2 H)
  replace H := H.rowNil 3 1
  replace H := H.rowNil 3 1
  ((repeat ((conv => whnf); first | refine an ?_ | ((first | refine H.nwD ?_ | refine H.nw ?_); clear H; intro w _ H) | refine H.ce ?_ | refine H.db ?_ | refine ea ?_ | refine ol ?_ | (refine H.st ?_; (conv => whnf); clear H; intro w H) | refine cT ?_ | refine cF ?_ | refine cN ?_ | refine cM ?_ | refine H.lw ?_ | refine H.ll ?_)); (conv => whnf))
  refine loop_inv (S := Nat × Sl × Sl) tabOk [0, 1, 2, 4] (fun k => [(5, k.2.1.v), (6, k.2.2.v), (7, iv ((k.1 * (coding % 2 + 1) : Nat) : Int))]) (fun k w' => k.1 ≤ (rawU (isWide coding) l).length ∧ Rel W V [.row k.2.2 3 1 (((unDiff (isDiff coding) ch (fullOf (isWide coding)) ((rawU (isWide coding) l).take k.1)).map (valOfU (isWide coding))).flatMap itC), .row k.2.1 3 1 (((unDiff (isDiff coding) ch (fullOf (isWide coding)) ((rawU (isWide coding) l).take k.1))).flatMap itN), .blk b2 (fmtC rate ch coding) 64] V w') (fun k _ => (rawU (isWide coding) l).length - k.1) (0, ⟨none, 0, 0⟩, ⟨none, 0, 0⟩) ?_
  (conv => whnf)
  refine ⟨⟨rfl, rfl, ?_, trivial⟩, ⟨by omega, H⟩, ?_⟩
  · simp
    rfl
  clear H
  rintro ⟨k, r5, r6⟩ w ⟨hk, H⟩
  dsimp only at hk H ⊢
  have hrl := rawU_len (isWide coding) l
  have hUl : (unDiff (isDiff coding) ch (fullOf (isWide coding)) ((rawU (isWide coding) l).take k)).length = k := by rw [unDiff_len, List.length_take]; omega
  have hUb : ∀ i : Nat, (unDiff (isDiff coding) ch (fullOf (isWide coding)) ((rawU (isWide coding) l).take k))[i]?.getD 0 < fullOf (isWide coding) := fun i => unDiff_lt (fun r hr => rawU_lt _ _ r (List.mem_of_mem_take hr)) (by unfold fullOf; split <;> omega) i
  by_cases hlt : k < (rawU (isWide coding) l).length
  rotate_left
  · rw [List.take_of_length_le (by omega)] at H
    have hkv : ¬ ((k * (coding % 2 + 1) : Nat) : Int) < (s.len : Int) := by
      obtain rfl | rfl | rfl | rfl : coding = 0 ∨ coding = 1 ∨ coding = 2 ∨ coding = 3 := by omega
      · have := hrl.trans (if_neg (by decide : ¬ isWide 0 = true))
        simp only [Nat.reduceMod]
        omega
      · have := hrl.trans (if_pos (by decide : isWide 1 = true))
        have := hev (by decide)
        simp only [Nat.reduceMod]
        omega
      · have := hrl.trans (if_neg (by decide : ¬ isWide 2 = true))
        simp only [Nat.reduceMod]
        omega
      · have := hrl.trans (if_pos (by decide : isWide 3 = true))
        have := hev (by decide)
        simp only [Nat.reduceMod]
        omega
    ((repeat ((conv => whnf); first | refine an ?_ | ((first | refine H.nwD ?_ | refine H.nw ?_); clear H; intro w _ H) | refine H.ce ?_ | refine H.db ?_ | refine ea ?_ | refine ol ?_ | (refine H.st ?_; (conv => whnf); clear H; intro w H) | refine cT ?_ | refine cF ?_ | refine cN ?_ | refine cM ?_ | refine H.lw ?_ | refine H.ll ?_)); (conv => whnf))
    exact ⟨r6, rfl, H.sx⟩
  have hsucc := fun r h => unDiff_take (df := isDiff coding) (ch := ch) (full := fullOf (isWide coding)) (l := rawU (isWide coding) l) (k := k) (r := r) h
  obtain ⟨U, hU⟩ : ∃ U, U = unDiff (isDiff coding) ch (fullOf (isWide coding)) ((rawU (isWide coding) l).take k) := ⟨_, rfl⟩
  rw [← hU] at hUl H
  simp only [← hU] at hsucc hUb
  have hl5 := (H.slfAt (i := 1) rfl (fun _ => rfl) (by decide)).len
  have hl6 := (H.slfAt (i := 0) rfl (fun _ => rfl) (by decide)).len
  rw [List.length_map] at hl6
  have f256 : fullOf false = 256 := rfl
  have f65 : fullOf true = 65536 := rfl
  obtain rfl | rfl | rfl | rfl : coding = 0 ∨ coding = 1 ∨ coding = 2 ∨ coding = 3 := by omega
  · have hw : isWide 0 = false := rfl
    have hd : isDiff 0 = false := rfl
    simp only [hw, hd] at hrl hsucc hUb H hk hlt ⊢
    rw [if_neg (by simp)] at hrl
    have hsucc := hsucc _ (rawU_byte (by omega))
    rw [if_neg (by simp)] at hsucc
    obtain ⟨p0, d0⟩ := hs.cell8 (i := k) (by omega)
    have hand : bitsI .and .i64 0 2 = 0 := by decide +kernel
    have h256 : at8 l k < 256 := UInt8.toNat_lt _
    have hv : valOfU false (at8 l k) = ((at8 l k : Int) - 128) * 256 := rfl
    simp only [Nat.zero_mod, Nat.zero_add, Nat.mul_one]
    ((repeat ((conv => whnf); first | refine an ?_ | ((first | refine H.nwD ?_ | refine H.nw ?_); clear H; intro w _ H) | refine H.ce ?_ | refine H.db ?_ | refine ea ?_ | refine ol ?_ | (refine H.st ?_; (conv => whnf); clear H; intro w H) | refine cT ?_ | refine cF ?_ | refine cN ?_ | refine cM ?_ | refine H.lw ?_ | refine H.ll ?_)); (conv => whnf))
    refine (unitSize_spec H.data rate ch 0).use ?_
    rintro q w ⟨rfl, K⟩
    (have hKb := K.base; replace H := H.call0 K)
    ((repeat ((conv => whnf); first | refine an ?_ | ((first | refine H.nwD ?_ | refine H.nw ?_); clear H; intro w _ H) | refine H.ce ?_ | refine H.db ?_ | refine ea ?_ | refine ol ?_ | (refine H.st ?_; (conv => whnf); clear H; intro w H) | refine cT ?_ | refine cF ?_ | refine cN ?_ | refine cM ?_ | refine H.lw ?_ | refine H.ll ?_)); (conv => whnf))
    refine Rel.app1_1 (f := itN) (l := U) (x := at8 l k) tabOk rfl rfl rfl rfl rfl (by decide) (fun _ => rfl) (List.all_eq_true.1 rfl) H (by simp; omega) (by omega) ?_
    clear H
    intro rn5 w H
    ((repeat ((conv => whnf); first | refine an ?_ | ((first | refine H.nwD ?_ | refine H.nw ?_); clear H; intro w _ H) | refine H.ce ?_ | refine H.db ?_ | refine ea ?_ | refine ol ?_ | (refine H.st ?_; (conv => whnf); clear H; intro w H) | refine cT ?_ | refine cF ?_ | refine cN ?_ | refine cM ?_ | refine H.lw ?_ | refine H.ll ?_)); (conv => whnf))
    refine Rel.app1_0 (f := itC) (l := U.map (valOfU false)) (x := ((at8 l k : Int) - 128) * 256) tabOk rfl rfl rfl rfl rfl (by decide) (fun _ => rfl) (List.all_eq_true.1 rfl) H (by simp only [List.length_map]; omega) (by simp only [List.length_map]; omega) ?_
    clear H
    intro rn6 w H
    ((repeat ((conv => whnf); first | refine an ?_ | ((first | refine H.nwD ?_ | refine H.nw ?_); clear H; intro w _ H) | refine H.ce ?_ | refine H.db ?_ | refine ea ?_ | refine ol ?_ | (refine H.st ?_; (conv => whnf); clear H; intro w H) | refine cT ?_ | refine cF ?_ | refine cN ?_ | refine cM ?_ | refine H.lw ?_ | refine H.ll ?_)); (conv => whnf))
    refine (unitSize_spec H.data rate ch 0).use ?_
    rintro q w ⟨rfl, K⟩
    (have hKb := K.base; replace H := H.call0 K)
    ((repeat ((conv => whnf); first | refine an ?_ | ((first | refine H.nwD ?_ | refine H.nw ?_); clear H; intro w _ H) | refine H.ce ?_ | refine H.db ?_ | refine ea ?_ | refine ol ?_ | (refine H.st ?_; (conv => whnf); clear H; intro w H) | refine cT ?_ | refine cF ?_ | refine cN ?_ | refine cM ?_ | refine H.lw ?_ | refine H.ll ?_)); (conv => whnf))
    refine ⟨(by repeat (first | exact trivial | refine ⟨rfl, ?_⟩)), (k + 1, rn5, rn6), ⟨rfl, rfl, congrArg (fun z => some (Value.int .i64 z)) (by simp only [Nat.reduceMod, Nat.reduceAdd]; omega), trivial⟩, ⟨by dsimp only; omega, ?_⟩, by dsimp only; omega⟩
    dsimp only
    have hsx := hsucc
    try simp only [f256, f65] at hsx
    try simp only [f256, f65]
    rw [hsx, List.map_append, List.map_cons, List.map_nil, hv]
    exact H.sx
  · have hw : isWide 1 = true := rfl
    have hd : isDiff 1 = false := rfl
    simp only [hw, hd] at hrl hsucc hUb H hk hlt ⊢
    rw [if_pos (by simp)] at hrl
    have hl2 := hev rfl
    obtain ⟨u, hu0⟩ : ∃ u, u = 256 * at8 l (k * 2 + 1) + at8 l (k * 2) := ⟨_, rfl⟩
    have hsucc := hsucc u (by rw [rawU_wide (by omega), Nat.mul_comm 2 k, hu0, Nat.add_comm])
    obtain ⟨p0, d0⟩ := hs.cell8 (i := k * 2) (by omega)
    obtain ⟨p1, d1⟩ := hs.cell8 (i := k * 2 + 1) (by omega)
    have hand : bitsI .and .i64 1 2 = (if 1 = 3 then 2 else 0) := by decide +kernel
    have h256 : at8 l (k * 2) < 256 := UInt8.toNat_lt _
    have h257 : at8 l (k * 2 + 1) < 256 := UInt8.toNat_lt _
    have hu65 : u < 65536 := by omega
    simp only [Nat.reduceMod, Nat.reduceAdd]
    rw [if_neg (by simp)] at hsucc
    ((repeat ((conv => whnf); first | refine an ?_ | ((first | refine H.nwD ?_ | refine H.nw ?_); clear H; intro w _ H) | refine H.ce ?_ | refine H.db ?_ | refine ea ?_ | refine ol ?_ | (refine H.st ?_; (conv => whnf); clear H; intro w H) | refine cT ?_ | refine cF ?_ | refine cN ?_ | refine cM ?_ | refine H.lw ?_ | refine H.ll ?_)); (conv => whnf))
    refine (unitSize_spec H.data rate ch 1).use ?_
    rintro q w ⟨rfl, K⟩
    (have hKb := K.base; replace H := H.call0 K)
    ((repeat ((conv => whnf); first | refine an ?_ | ((first | refine H.nwD ?_ | refine H.nw ?_); clear H; intro w _ H) | refine H.ce ?_ | refine H.db ?_ | refine ea ?_ | refine ol ?_ | (refine H.st ?_; (conv => whnf); clear H; intro w H) | refine cT ?_ | refine cF ?_ | refine cN ?_ | refine cM ?_ | refine H.lw ?_ | refine H.ll ?_)); (conv => whnf))
    rw [show (((k * 2 : Nat) : Int) + 1) = ((k * 2 + 1 : Nat) : Int) by omega]
    ((repeat ((conv => whnf); first | refine an ?_ | ((first | refine H.nwD ?_ | refine H.nw ?_); clear H; intro w _ H) | refine H.ce ?_ | refine H.db ?_ | refine ea ?_ | refine ol ?_ | (refine H.st ?_; (conv => whnf); clear H; intro w H) | refine cT ?_ | refine cF ?_ | refine cN ?_ | refine cM ?_ | refine H.lw ?_ | refine H.ll ?_)); (conv => whnf))
    rw [shl8]
    ((repeat ((conv => whnf); first | refine an ?_ | ((first | refine H.nwD ?_ | refine H.nw ?_); clear H; intro w _ H) | refine H.ce ?_ | refine H.db ?_ | refine ea ?_ | refine ol ?_ | (refine H.st ?_; (conv => whnf); clear H; intro w H) | refine cT ?_ | refine cF ?_ | refine cN ?_ | refine cM ?_ | refine H.lw ?_ | refine H.ll ?_)); (conv => whnf))
    rw [or_lo h257 h256, ← hu0]
    try rw [or_lo h257 h256, ← hu0] at H
    ((repeat ((conv => whnf); first | refine an ?_ | ((first | refine H.nwD ?_ | refine H.nw ?_); clear H; intro w _ H) | refine H.ce ?_ | refine H.db ?_ | refine ea ?_ | refine ol ?_ | (refine H.st ?_; (conv => whnf); clear H; intro w H) | refine cT ?_ | refine cF ?_ | refine cN ?_ | refine cM ?_ | refine H.lw ?_ | refine H.ll ?_)); (conv => whnf))
    ((repeat ((conv => whnf); first | refine an ?_ | ((first | refine H.nwD ?_ | refine H.nw ?_); clear H; intro w _ H) | refine H.ce ?_ | refine H.db ?_ | refine ea ?_ | refine ol ?_ | (refine H.st ?_; (conv => whnf); clear H; intro w H) | refine cT ?_ | refine cF ?_ | refine cN ?_ | refine cM ?_ | refine H.lw ?_ | refine H.ll ?_)); (conv => whnf))
    refine Rel.app1_1 (f := itN) (l := U) (x := u) tabOk rfl rfl rfl rfl rfl (by decide) (fun _ => rfl) (List.all_eq_true.1 rfl) H (by simp; omega) (by omega) ?_
    clear H
    intro rn5 w H
    ((repeat ((conv => whnf); first | refine an ?_ | ((first | refine H.nwD ?_ | refine H.nw ?_); clear H; intro w _ H) | refine H.ce ?_ | refine H.db ?_ | refine ea ?_ | refine ol ?_ | (refine H.st ?_; (conv => whnf); clear H; intro w H) | refine cT ?_ | refine cF ?_ | refine cN ?_ | refine cM ?_ | refine H.lw ?_ | refine H.ll ?_)); (conv => whnf))
    by_cases h32 : 32768 ≤ u
    · have hv : valOfU true u = (u : Int) - 65536 := if_pos h32
      ((repeat ((conv => whnf); first | refine an ?_ | ((first | refine H.nwD ?_ | refine H.nw ?_); clear H; intro w _ H) | refine H.ce ?_ | refine H.db ?_ | refine ea ?_ | refine ol ?_ | (refine H.st ?_; (conv => whnf); clear H; intro w H) | refine cT ?_ | refine cF ?_ | refine cN ?_ | refine cM ?_ | refine H.lw ?_ | refine H.ll ?_)); (conv => whnf))
      refine Rel.app1_0 (f := itC) (l := U.map (valOfU true)) (x := (u : Int) - 65536) tabOk rfl rfl rfl rfl rfl (by decide) (fun _ => rfl) (List.all_eq_true.1 rfl) H (by simp only [List.length_map]; omega) (by simp only [List.length_map]; omega) ?_
      clear H
      intro rn6 w H
      ((repeat ((conv => whnf); first | refine an ?_ | ((first | refine H.nwD ?_ | refine H.nw ?_); clear H; intro w _ H) | refine H.ce ?_ | refine H.db ?_ | refine ea ?_ | refine ol ?_ | (refine H.st ?_; (conv => whnf); clear H; intro w H) | refine cT ?_ | refine cF ?_ | refine cN ?_ | refine cM ?_ | refine H.lw ?_ | refine H.ll ?_)); (conv => whnf))
      refine (unitSize_spec H.data rate ch 1).use ?_
      rintro q w ⟨rfl, K⟩
      (have hKb := K.base; replace H := H.call0 K)
      ((repeat ((conv => whnf); first | refine an ?_ | ((first | refine H.nwD ?_ | refine H.nw ?_); clear H; intro w _ H) | refine H.ce ?_ | refine H.db ?_ | refine ea ?_ | refine ol ?_ | (refine H.st ?_; (conv => whnf); clear H; intro w H) | refine cT ?_ | refine cF ?_ | refine cN ?_ | refine cM ?_ | refine H.lw ?_ | refine H.ll ?_)); (conv => whnf))
      refine ⟨(by repeat (first | exact trivial | refine ⟨rfl, ?_⟩)), (k + 1, rn5, rn6), ⟨rfl, rfl, congrArg (fun z => some (Value.int .i64 z)) (by simp only [Nat.reduceMod, Nat.reduceAdd]; omega), trivial⟩, ⟨by dsimp only; omega, ?_⟩, by dsimp only; omega⟩
      dsimp only
      have hsx := hsucc
      try simp only [f256, f65] at hsx
      try simp only [f256, f65]
      rw [hsx, List.map_append, List.map_cons, List.map_nil, hv]
      exact H.sx
    · have hv : valOfU true u = (u : Int) := if_neg h32
      ((repeat ((conv => whnf); first | refine an ?_ | ((first | refine H.nwD ?_ | refine H.nw ?_); clear H; intro w _ H) | refine H.ce ?_ | refine H.db ?_ | refine ea ?_ | refine ol ?_ | (refine H.st ?_; (conv => whnf); clear H; intro w H) | refine cT ?_ | refine cF ?_ | refine cN ?_ | refine cM ?_ | refine H.lw ?_ | refine H.ll ?_)); (conv => whnf))
      refine Rel.app1_0 (f := itC) (l := U.map (valOfU true)) (x := (u : Int)) tabOk rfl rfl rfl rfl rfl (by decide) (fun _ => rfl) (List.all_eq_true.1 rfl) H (by simp only [List.length_map]; omega) (by simp only [List.length_map]; omega) ?_
      clear H
      intro rn6 w H
      ((repeat ((conv => whnf); first | refine an ?_ | ((first | refine H.nwD ?_ | refine H.nw ?_); clear H; intro w _ H) | refine H.ce ?_ | refine H.db ?_ | refine ea ?_ | refine ol ?_ | (refine H.st ?_; (conv => whnf); clear H; intro w H) | refine cT ?_ | refine cF ?_ | refine cN ?_ | refine cM ?_ | refine H.lw ?_ | refine H.ll ?_)); (conv => whnf))
      refine (unitSize_spec H.data rate ch 1).use ?_
      rintro q w ⟨rfl, K⟩
      (have hKb := K.base; replace H := H.call0 K)
      ((repeat ((conv => whnf); first | refine an ?_ | ((first | refine H.nwD ?_ | refine H.nw ?_); clear H; intro w _ H) | refine H.ce ?_ | refine H.db ?_ | refine ea ?_ | refine ol ?_ | (refine H.st ?_; (conv => whnf); clear H; intro w H) | refine cT ?_ | refine cF ?_ | refine cN ?_ | refine cM ?_ | refine H.lw ?_ | refine H.ll ?_)); (conv => whnf))
      refine ⟨(by repeat (first | exact trivial | refine ⟨rfl, ?_⟩)), (k + 1, rn5, rn6), ⟨rfl, rfl, congrArg (fun z => some (Value.int .i64 z)) (by simp only [Nat.reduceMod, Nat.reduceAdd]; omega), trivial⟩, ⟨by dsimp only; omega, ?_⟩, by dsimp only; omega⟩
      dsimp only
      have hsx := hsucc
      try simp only [f256, f65] at hsx
      try simp only [f256, f65]
      rw [hsx, List.map_append, List.map_cons, List.map_nil, hv]
      exact H.sx
  · have hw : isWide 2 = false := rfl
    have hd : isDiff 2 = true := rfl
    simp only [hw, hd] at hrl hsucc hUb H hk hlt ⊢
    rw [if_neg (by simp)] at hrl
    have hsucc := hsucc _ (rawU_byte (by omega))
    rw [f256] at hsucc
    obtain ⟨p0, d0⟩ := hs.cell8 (i := k) (by omega)
    have hand : bitsI .and .i64 2 2 = 2 := by decide +kernel
    have h256 : at8 l k < 256 := UInt8.toNat_lt _
    simp only [Nat.reduceMod, Nat.zero_add, Nat.mul_one]
    ((repeat ((conv => whnf); first | refine an ?_ | ((first | refine H.nwD ?_ | refine H.nw ?_); clear H; intro w _ H) | refine H.ce ?_ | refine H.db ?_ | refine ea ?_ | refine ol ?_ | (refine H.st ?_; (conv => whnf); clear H; intro w H) | refine cT ?_ | refine cF ?_ | refine cN ?_ | refine cM ?_ | refine H.lw ?_ | refine H.ll ?_)); (conv => whnf))
    refine (unitSize_spec H.data rate ch 2).use ?_
    rintro q w ⟨rfl, K⟩
    (have hKb := K.base; replace H := H.call0 K)
    ((repeat ((conv => whnf); first | refine an ?_ | ((first | refine H.nwD ?_ | refine H.nw ?_); clear H; intro w _ H) | refine H.ce ?_ | refine H.db ?_ | refine ea ?_ | refine ol ?_ | (refine H.st ?_; (conv => whnf); clear H; intro w H) | refine cT ?_ | refine cF ?_ | refine cN ?_ | refine cM ?_ | refine H.lw ?_ | refine H.ll ?_)); (conv => whnf))
    by_cases hdf : ch ≤ k
    · rw [if_pos (by simp [hdf])] at hsucc
      have S5 := H.slfAt (i := 1) rfl (fun _ => rfl) (by decide)
      obtain ⟨q0, e0⟩ := S5.at1 (g := fun n : Nat => iv (n : Int)) (fun _ => rfl) (i := k - ch) (by omega)
      have ej : ((r5.len : Int) - (ch : Int)) = ((k - ch : Nat) : Int) := by omega
      obtain ⟨u, hu⟩ : ∃ u, u = (at8 l k + U[k - ch]?.getD 0) % 256 := ⟨_, rfl⟩
      have hbU := hUb (k - ch)
      simp only [f256, f65] at hbU
      rw [← hu] at hsucc
      have hx0 : U[k - ch]?.getD 0 = U[k - ch] := by rw [List.getElem?_eq_getElem (by omega)]; rfl
      rw [hx0] at hbU hu
      ((repeat ((conv => whnf); first | refine an ?_ | ((first | refine H.nwD ?_ | refine H.nw ?_); clear H; intro w _ H) | refine H.ce ?_ | refine H.db ?_ | refine ea ?_ | refine ol ?_ | (refine H.st ?_; (conv => whnf); clear H; intro w H) | refine cT ?_ | refine cF ?_ | refine cN ?_ | refine cM ?_ | refine H.lw ?_ | refine H.ll ?_)); (conv => whnf))
      have ez : (((at8 l k : Nat) : Int) + ((U[k - ch] : Nat) : Int)) % 256 = ((u : Nat) : Int) := by omega
      rw [ej]
      ((repeat ((conv => whnf); first | refine an ?_ | ((first | refine H.nwD ?_ | refine H.nw ?_); clear H; intro w _ H) | refine H.ce ?_ | refine H.db ?_ | refine ea ?_ | refine ol ?_ | (refine H.st ?_; (conv => whnf); clear H; intro w H) | refine cT ?_ | refine cF ?_ | refine cN ?_ | refine cM ?_ | refine H.lw ?_ | refine H.ll ?_)); (conv => whnf))
      try rw [ez] at H
      rw [ez]
      have hu65 : u < 256 := by omega
      have hv : valOfU false u = ((u : Int) - 128) * 256 := rfl
      ((repeat ((conv => whnf); first | refine an ?_ | ((first | refine H.nwD ?_ | refine H.nw ?_); clear H; intro w _ H) | refine H.ce ?_ | refine H.db ?_ | refine ea ?_ | refine ol ?_ | (refine H.st ?_; (conv => whnf); clear H; intro w H) | refine cT ?_ | refine cF ?_ | refine cN ?_ | refine cM ?_ | refine H.lw ?_ | refine H.ll ?_)); (conv => whnf))
      refine Rel.app1_1 (f := itN) (l := U) (x := u) tabOk rfl rfl rfl rfl rfl (by decide) (fun _ => rfl) (List.all_eq_true.1 rfl) H (by simp; omega) (by omega) ?_
      clear H
      intro rn5 w H
      ((repeat ((conv => whnf); first | refine an ?_ | ((first | refine H.nwD ?_ | refine H.nw ?_); clear H; intro w _ H) | refine H.ce ?_ | refine H.db ?_ | refine ea ?_ | refine ol ?_ | (refine H.st ?_; (conv => whnf); clear H; intro w H) | refine cT ?_ | refine cF ?_ | refine cN ?_ | refine cM ?_ | refine H.lw ?_ | refine H.ll ?_)); (conv => whnf))
      refine Rel.app1_0 (f := itC) (l := U.map (valOfU false)) (x := ((u : Int) - 128) * 256) tabOk rfl rfl rfl rfl rfl (by decide) (fun _ => rfl) (List.all_eq_true.1 rfl) H (by simp only [List.length_map]; omega) (by simp only [List.length_map]; omega) ?_
      clear H
      intro rn6 w H
      ((repeat ((conv => whnf); first | refine an ?_ | ((first | refine H.nwD ?_ | refine H.nw ?_); clear H; intro w _ H) | refine H.ce ?_ | refine H.db ?_ | refine ea ?_ | refine ol ?_ | (refine H.st ?_; (conv => whnf); clear H; intro w H) | refine cT ?_ | refine cF ?_ | refine cN ?_ | refine cM ?_ | refine H.lw ?_ | refine H.ll ?_)); (conv => whnf))
      refine (unitSize_spec H.data rate ch 2).use ?_
      rintro q w ⟨rfl, K⟩
      (have hKb := K.base; replace H := H.call0 K)
      ((repeat ((conv => whnf); first | refine an ?_ | ((first | refine H.nwD ?_ | refine H.nw ?_); clear H; intro w _ H) | refine H.ce ?_ | refine H.db ?_ | refine ea ?_ | refine ol ?_ | (refine H.st ?_; (conv => whnf); clear H; intro w H) | refine cT ?_ | refine cF ?_ | refine cN ?_ | refine cM ?_ | refine H.lw ?_ | refine H.ll ?_)); (conv => whnf))
      refine ⟨(by repeat (first | exact trivial | refine ⟨rfl, ?_⟩)), (k + 1, rn5, rn6), ⟨rfl, rfl, congrArg (fun z => some (Value.int .i64 z)) (by simp only [Nat.reduceMod, Nat.reduceAdd]; omega), trivial⟩, ⟨by dsimp only; omega, ?_⟩, by dsimp only; omega⟩
      dsimp only
      have hsx := hsucc
      try simp only [f256, f65] at hsx
      try simp only [f256, f65]
      rw [hsx, List.map_append, List.map_cons, List.map_nil, hv]
      exact H.sx
    · rw [if_neg (fun h => hdf h.2)] at hsucc
      have hv : valOfU false (at8 l k) = ((at8 l k : Int) - 128) * 256 := rfl
      ((repeat ((conv => whnf); first | refine an ?_ | ((first | refine H.nwD ?_ | refine H.nw ?_); clear H; intro w _ H) | refine H.ce ?_ | refine H.db ?_ | refine ea ?_ | refine ol ?_ | (refine H.st ?_; (conv => whnf); clear H; intro w H) | refine cT ?_ | refine cF ?_ | refine cN ?_ | refine cM ?_ | refine H.lw ?_ | refine H.ll ?_)); (conv => whnf))
      ((repeat ((conv => whnf); first | refine an ?_ | ((first | refine H.nwD ?_ | refine H.nw ?_); clear H; intro w _ H) | refine H.ce ?_ | refine H.db ?_ | refine ea ?_ | refine ol ?_ | (refine H.st ?_; (conv => whnf); clear H; intro w H) | refine cT ?_ | refine cF ?_ | refine cN ?_ | refine cM ?_ | refine H.lw ?_ | refine H.ll ?_)); (conv => whnf))
      refine Rel.app1_1 (f := itN) (l := U) (x := at8 l k) tabOk rfl rfl rfl rfl rfl (by decide) (fun _ => rfl) (List.all_eq_true.1 rfl) H (by simp; omega) (by omega) ?_
      clear H
      intro rn5 w H
      ((repeat ((conv => whnf); first | refine an ?_ | ((first | refine H.nwD ?_ | refine H.nw ?_); clear H; intro w _ H) | refine H.ce ?_ | refine H.db ?_ | refine ea ?_ | refine ol ?_ | (refine H.st ?_; (conv => whnf); clear H; intro w H) | refine cT ?_ | refine cF ?_ | refine cN ?_ | refine cM ?_ | refine H.lw ?_ | refine H.ll ?_)); (conv => whnf))
      refine Rel.app1_0 (f := itC) (l := U.map (valOfU false)) (x := ((at8 l k : Int) - 128) * 256) tabOk rfl rfl rfl rfl rfl (by decide) (fun _ => rfl) (List.all_eq_true.1 rfl) H (by simp only [List.length_map]; omega) (by simp only [List.length_map]; omega) ?_
      clear H
      intro rn6 w H
      ((repeat ((conv => whnf); first | refine an ?_ | ((first | refine H.nwD ?_ | refine H.nw ?_); clear H; intro w _ H) | refine H.ce ?_ | refine H.db ?_ | refine ea ?_ | refine ol ?_ | (refine H.st ?_; (conv => whnf); clear H; intro w H) | refine cT ?_ | refine cF ?_ | refine cN ?_ | refine cM ?_ | refine H.lw ?_ | refine H.ll ?_)); (conv => whnf))
      refine (unitSize_spec H.data rate ch 2).use ?_
      rintro q w ⟨rfl, K⟩
      (have hKb := K.base; replace H := H.call0 K)
      ((repeat ((conv => whnf); first | refine an ?_ | ((first | refine H.nwD ?_ | refine H.nw ?_); clear H; intro w _ H) | refine H.ce ?_ | refine H.db ?_ | refine ea ?_ | refine ol ?_ | (refine H.st ?_; (conv => whnf); clear H; intro w H) | refine cT ?_ | refine cF ?_ | refine cN ?_ | refine cM ?_ | refine H.lw ?_ | refine H.ll ?_)); (conv => whnf))
      refine ⟨(by repeat (first | exact trivial | refine ⟨rfl, ?_⟩)), (k + 1, rn5, rn6), ⟨rfl, rfl, congrArg (fun z => some (Value.int .i64 z)) (by simp only [Nat.reduceMod, Nat.reduceAdd]; omega), trivial⟩, ⟨by dsimp only; omega, ?_⟩, by dsimp only; omega⟩
      dsimp only
      have hsx := hsucc
      try simp only [f256, f65] at hsx
      try simp only [f256, f65]
      rw [hsx, List.map_append, List.map_cons, List.map_nil, hv]
      exact H.sx
  · have hw : isWide 3 = true := rfl
    have hd : isDiff 3 = true := rfl
    simp only [hw, hd] at hrl hsucc hUb H hk hlt ⊢
    rw [if_pos (by simp)] at hrl
    have hl2 := hev rfl
    obtain ⟨u, hu0⟩ : ∃ u, u = 256 * at8 l (k * 2 + 1) + at8 l (k * 2) := ⟨_, rfl⟩
    have hsucc := hsucc u (by rw [rawU_wide (by omega), Nat.mul_comm 2 k, hu0, Nat.add_comm])
    obtain ⟨p0, d0⟩ := hs.cell8 (i := k * 2) (by omega)
    obtain ⟨p1, d1⟩ := hs.cell8 (i := k * 2 + 1) (by omega)
    have hand : bitsI .and .i64 3 2 = (if 3 = 3 then 2 else 0) := by decide +kernel
    have h256 : at8 l (k * 2) < 256 := UInt8.toNat_lt _
    have h257 : at8 l (k * 2 + 1) < 256 := UInt8.toNat_lt _
    have hu65 : u < 65536 := by omega
    simp only [Nat.reduceMod, Nat.reduceAdd]
    rw [f65] at hsucc
    ((repeat ((conv => whnf); first | refine an ?_ | ((first | refine H.nwD ?_ | refine H.nw ?_); clear H; intro w _ H) | refine H.ce ?_ | refine H.db ?_ | refine ea ?_ | refine ol ?_ | (refine H.st ?_; (conv => whnf); clear H; intro w H) | refine cT ?_ | refine cF ?_ | refine cN ?_ | refine cM ?_ | refine H.lw ?_ | refine H.ll ?_)); (conv => whnf))
    refine (unitSize_spec H.data rate ch 3).use ?_
    rintro q w ⟨rfl, K⟩
    (have hKb := K.base; replace H := H.call0 K)
    ((repeat ((conv => whnf); first | refine an ?_ | ((first | refine H.nwD ?_ | refine H.nw ?_); clear H; intro w _ H) | refine H.ce ?_ | refine H.db ?_ | refine ea ?_ | refine ol ?_ | (refine H.st ?_; (conv => whnf); clear H; intro w H) | refine cT ?_ | refine cF ?_ | refine cN ?_ | refine cM ?_ | refine H.lw ?_ | refine H.ll ?_)); (conv => whnf))
    rw [show (((k * 2 : Nat) : Int) + 1) = ((k * 2 + 1 : Nat) : Int) by omega]
    ((repeat ((conv => whnf); first | refine an ?_ | ((first | refine H.nwD ?_ | refine H.nw ?_); clear H; intro w _ H) | refine H.ce ?_ | refine H.db ?_ | refine ea ?_ | refine ol ?_ | (refine H.st ?_; (conv => whnf); clear H; intro w H) | refine cT ?_ | refine cF ?_ | refine cN ?_ | refine cM ?_ | refine H.lw ?_ | refine H.ll ?_)); (conv => whnf))
    rw [shl8]
    ((repeat ((conv => whnf); first | refine an ?_ | ((first | refine H.nwD ?_ | refine H.nw ?_); clear H; intro w _ H) | refine H.ce ?_ | refine H.db ?_ | refine ea ?_ | refine ol ?_ | (refine H.st ?_; (conv => whnf); clear H; intro w H) | refine cT ?_ | refine cF ?_ | refine cN ?_ | refine cM ?_ | refine H.lw ?_ | refine H.ll ?_)); (conv => whnf))
    rw [or_lo h257 h256, ← hu0]
    try rw [or_lo h257 h256, ← hu0] at H
    ((repeat ((conv => whnf); first | refine an ?_ | ((first | refine H.nwD ?_ | refine H.nw ?_); clear H; intro w _ H) | refine H.ce ?_ | refine H.db ?_ | refine ea ?_ | refine ol ?_ | (refine H.st ?_; (conv => whnf); clear H; intro w H) | refine cT ?_ | refine cF ?_ | refine cN ?_ | refine cM ?_ | refine H.lw ?_ | refine H.ll ?_)); (conv => whnf))
    by_cases hdf : ch ≤ k
    · rw [if_pos (by simp [hdf])] at hsucc
      obtain ⟨y, hy⟩ : ∃ y, y = u := ⟨_, rfl⟩
      rw [← hy] at hu65 hsucc ⊢
      clear hy hu0 u
      have S5 := H.slfAt (i := 1) rfl (fun _ => rfl) (by decide)
      obtain ⟨q0, e0⟩ := S5.at1 (g := fun n : Nat => iv (n : Int)) (fun _ => rfl) (i := k - ch) (by omega)
      have ej : ((r5.len : Int) - (ch : Int)) = ((k - ch : Nat) : Int) := by omega
      obtain ⟨u, hu⟩ : ∃ u, u = (y + U[k - ch]?.getD 0) % 65536 := ⟨_, rfl⟩
      have hbU := hUb (k - ch)
      simp only [f256, f65] at hbU
      rw [← hu] at hsucc
      have hx0 : U[k - ch]?.getD 0 = U[k - ch] := by rw [List.getElem?_eq_getElem (by omega)]; rfl
      rw [hx0] at hbU hu
      ((repeat ((conv => whnf); first | refine an ?_ | ((first | refine H.nwD ?_ | refine H.nw ?_); clear H; intro w _ H) | refine H.ce ?_ | refine H.db ?_ | refine ea ?_ | refine ol ?_ | (refine H.st ?_; (conv => whnf); clear H; intro w H) | refine cT ?_ | refine cF ?_ | refine cN ?_ | refine cM ?_ | refine H.lw ?_ | refine H.ll ?_)); (conv => whnf))
      have ez : (((y : Nat) : Int) + ((U[k - ch] : Nat) : Int)) % 65536 = ((u : Nat) : Int) := by omega
      rw [ej]
      ((repeat ((conv => whnf); first | refine an ?_ | ((first | refine H.nwD ?_ | refine H.nw ?_); clear H; intro w _ H) | refine H.ce ?_ | refine H.db ?_ | refine ea ?_ | refine ol ?_ | (refine H.st ?_; (conv => whnf); clear H; intro w H) | refine cT ?_ | refine cF ?_ | refine cN ?_ | refine cM ?_ | refine H.lw ?_ | refine H.ll ?_)); (conv => whnf))
      try rw [ez] at H
      rw [ez]
      have hu65 : u < 65536 := by omega
      ((repeat ((conv => whnf); first | refine an ?_ | ((first | refine H.nwD ?_ | refine H.nw ?_); clear H; intro w _ H) | refine H.ce ?_ | refine H.db ?_ | refine ea ?_ | refine ol ?_ | (refine H.st ?_; (conv => whnf); clear H; intro w H) | refine cT ?_ | refine cF ?_ | refine cN ?_ | refine cM ?_ | refine H.lw ?_ | refine H.ll ?_)); (conv => whnf))
      refine Rel.app1_1 (f := itN) (l := U) (x := u) tabOk rfl rfl rfl rfl rfl (by decide) (fun _ => rfl) (List.all_eq_true.1 rfl) H (by simp; omega) (by omega) ?_
      clear H
      intro rn5 w H
      ((repeat ((conv => whnf); first | refine an ?_ | ((first | refine H.nwD ?_ | refine H.nw ?_); clear H; intro w _ H) | refine H.ce ?_ | refine H.db ?_ | refine ea ?_ | refine ol ?_ | (refine H.st ?_; (conv => whnf); clear H; intro w H) | refine cT ?_ | refine cF ?_ | refine cN ?_ | refine cM ?_ | refine H.lw ?_ | refine H.ll ?_)); (conv => whnf))
      by_cases h32 : 32768 ≤ u
      · have hv : valOfU true u = (u : Int) - 65536 := if_pos h32
        ((repeat ((conv => whnf); first | refine an ?_ | ((first | refine H.nwD ?_ | refine H.nw ?_); clear H; intro w _ H) | refine H.ce ?_ | refine H.db ?_ | refine ea ?_ | refine ol ?_ | (refine H.st ?_; (conv => whnf); clear H; intro w H) | refine cT ?_ | refine cF ?_ | refine cN ?_ | refine cM ?_ | refine H.lw ?_ | refine H.ll ?_)); (conv => whnf))
        refine Rel.app1_0 (f := itC) (l := U.map (valOfU true)) (x := (u : Int) - 65536) tabOk rfl rfl rfl rfl rfl (by decide) (fun _ => rfl) (List.all_eq_true.1 rfl) H (by simp only [List.length_map]; omega) (by simp only [List.length_map]; omega) ?_
        clear H
        intro rn6 w H
        ((repeat ((conv => whnf); first | refine an ?_ | ((first | refine H.nwD ?_ | refine H.nw ?_); clear H; intro w _ H) | refine H.ce ?_ | refine H.db ?_ | refine ea ?_ | refine ol ?_ | (refine H.st ?_; (conv => whnf); clear H; intro w H) | refine cT ?_ | refine cF ?_ | refine cN ?_ | refine cM ?_ | refine H.lw ?_ | refine H.ll ?_)); (conv => whnf))
        refine (unitSize_spec H.data rate ch 3).use ?_
        rintro q w ⟨rfl, K⟩
        (have hKb := K.base; replace H := H.call0 K)
        ((repeat ((conv => whnf); first | refine an ?_ | ((first | refine H.nwD ?_ | refine H.nw ?_); clear H; intro w _ H) | refine H.ce ?_ | refine H.db ?_ | refine ea ?_ | refine ol ?_ | (refine H.st ?_; (conv => whnf); clear H; intro w H) | refine cT ?_ | refine cF ?_ | refine cN ?_ | refine cM ?_ | refine H.lw ?_ | refine H.ll ?_)); (conv => whnf))
        refine ⟨(by repeat (first | exact trivial | refine ⟨rfl, ?_⟩)), (k + 1, rn5, rn6), ⟨rfl, rfl, congrArg (fun z => some (Value.int .i64 z)) (by simp only [Nat.reduceMod, Nat.reduceAdd]; omega), trivial⟩, ⟨by dsimp only; omega, ?_⟩, by dsimp only; omega⟩
        dsimp only
        have hsx := hsucc
        try simp only [f256, f65] at hsx
        try simp only [f256, f65]
        rw [hsx, List.map_append, List.map_cons, List.map_nil, hv]
        exact H.sx
      · have hv : valOfU true u = (u : Int) := if_neg h32
        ((repeat ((conv => whnf); first | refine an ?_ | ((first | refine H.nwD ?_ | refine H.nw ?_); clear H; intro w _ H) | refine H.ce ?_ | refine H.db ?_ | refine ea ?_ | refine ol ?_ | (refine H.st ?_; (conv => whnf); clear H; intro w H) | refine cT ?_ | refine cF ?_ | refine cN ?_ | refine cM ?_ | refine H.lw ?_ | refine H.ll ?_)); (conv => whnf))
        refine Rel.app1_0 (f := itC) (l := U.map (valOfU true)) (x := (u : Int)) tabOk rfl rfl rfl rfl rfl (by decide) (fun _ => rfl) (List.all_eq_true.1 rfl) H (by simp only [List.length_map]; omega) (by simp only [List.length_map]; omega) ?_
        clear H
        intro rn6 w H
        ((repeat ((conv => whnf); first | refine an ?_ | ((first | refine H.nwD ?_ | refine H.nw ?_); clear H; intro w _ H) | refine H.ce ?_ | refine H.db ?_ | refine ea ?_ | refine ol ?_ | (refine H.st ?_; (conv => whnf); clear H; intro w H) | refine cT ?_ | refine cF ?_ | refine cN ?_ | refine cM ?_ | refine H.lw ?_ | refine H.ll ?_)); (conv => whnf))
        refine (unitSize_spec H.data rate ch 3).use ?_
        rintro q w ⟨rfl, K⟩
        (have hKb := K.base; replace H := H.call0 K)
        ((repeat ((conv => whnf); first | refine an ?_ | ((first | refine H.nwD ?_ | refine H.nw ?_); clear H; intro w _ H) | refine H.ce ?_ | refine H.db ?_ | refine ea ?_ | refine ol ?_ | (refine H.st ?_; (conv => whnf); clear H; intro w H) | refine cT ?_ | refine cF ?_ | refine cN ?_ | refine cM ?_ | refine H.lw ?_ | refine H.ll ?_)); (conv => whnf))
        refine ⟨(by repeat (first | exact trivial | refine ⟨rfl, ?_⟩)), (k + 1, rn5, rn6), ⟨rfl, rfl, congrArg (fun z => some (Value.int .i64 z)) (by simp only [Nat.reduceMod, Nat.reduceAdd]; omega), trivial⟩, ⟨by dsimp only; omega, ?_⟩, by dsimp only; omega⟩
        dsimp only
        have hsx := hsucc
        try simp only [f256, f65] at hsx
        try simp only [f256, f65]
        rw [hsx, List.map_append, List.map_cons, List.map_nil, hv]
        exact H.sx
    · rw [if_neg (fun h => hdf h.2)] at hsucc
      ((repeat ((conv => whnf); first | refine an ?_ | ((first | refine H.nwD ?_ | refine H.nw ?_); clear H; intro w _ H) | refine H.ce ?_ | refine H.db ?_ | refine ea ?_ | refine ol ?_ | (refine H.st ?_; (conv => whnf); clear H; intro w H) | refine cT ?_ | refine cF ?_ | refine cN ?_ | refine cM ?_ | refine H.lw ?_ | refine H.ll ?_)); (conv => whnf))
      ((repeat ((conv => whnf); first | refine an ?_ | ((first | refine H.nwD ?_ | refine H.nw ?_); clear H; intro w _ H) | refine H.ce ?_ | refine H.db ?_ | refine ea ?_ | refine ol ?_ | (refine H.st ?_; (conv => whnf); clear H; intro w H) | refine cT ?_ | refine cF ?_ | refine cN ?_ | refine cM ?_ | refine H.lw ?_ | refine H.ll ?_)); (conv => whnf))
      refine Rel.app1_1 (f := itN) (l := U) (x := u) tabOk rfl rfl rfl rfl rfl (by decide) (fun _ => rfl) (List.all_eq_true.1 rfl) H (by simp; omega) (by omega) ?_
      clear H
      intro rn5 w H
      ((repeat ((conv => whnf); first | refine an ?_ | ((first | refine H.nwD ?_ | refine H.nw ?_); clear H; intro w _ H) | refine H.ce ?_ | refine H.db ?_ | refine ea ?_ | refine ol ?_ | (refine H.st ?_; (conv => whnf); clear H; intro w H) | refine cT ?_ | refine cF ?_ | refine cN ?_ | refine cM ?_ | refine H.lw ?_ | refine H.ll ?_)); (conv => whnf))
      by_cases h32 : 32768 ≤ u
      · have hv : valOfU true u = (u : Int) - 65536 := if_pos h32
        ((repeat ((conv => whnf); first | refine an ?_ | ((first | refine H.nwD ?_ | refine H.nw ?_); clear H; intro w _ H) | refine H.ce ?_ | refine H.db ?_ | refine ea ?_ | refine ol ?_ | (refine H.st ?_; (conv => whnf); clear H; intro w H) | refine cT ?_ | refine cF ?_ | refine cN ?_ | refine cM ?_ | refine H.lw ?_ | refine H.ll ?_)); (conv => whnf))
        refine Rel.app1_0 (f := itC) (l := U.map (valOfU true)) (x := (u : Int) - 65536) tabOk rfl rfl rfl rfl rfl (by decide) (fun _ => rfl) (List.all_eq_true.1 rfl) H (by simp only [List.length_map]; omega) (by simp only [List.length_map]; omega) ?_
        clear H
        intro rn6 w H
        ((repeat ((conv => whnf); first | refine an ?_ | ((first | refine H.nwD ?_ | refine H.nw ?_); clear H; intro w _ H) | refine H.ce ?_ | refine H.db ?_ | refine ea ?_ | refine ol ?_ | (refine H.st ?_; (conv => whnf); clear H; intro w H) | refine cT ?_ | refine cF ?_ | refine cN ?_ | refine cM ?_ | refine H.lw ?_ | refine H.ll ?_)); (conv => whnf))
        refine (unitSize_spec H.data rate ch 3).use ?_
        rintro q w ⟨rfl, K⟩
        (have hKb := K.base; replace H := H.call0 K)
        ((repeat ((conv => whnf); first | refine an ?_ | ((first | refine H.nwD ?_ | refine H.nw ?_); clear H; intro w _ H) | refine H.ce ?_ | refine H.db ?_ | refine ea ?_ | refine ol ?_ | (refine H.st ?_; (conv => whnf); clear H; intro w H) | refine cT ?_ | refine cF ?_ | refine cN ?_ | refine cM ?_ | refine H.lw ?_ | refine H.ll ?_)); (conv => whnf))
        refine ⟨(by repeat (first | exact trivial | refine ⟨rfl, ?_⟩)), (k + 1, rn5, rn6), ⟨rfl, rfl, congrArg (fun z => some (Value.int .i64 z)) (by simp only [Nat.reduceMod, Nat.reduceAdd]; omega), trivial⟩, ⟨by dsimp only; omega, ?_⟩, by dsimp only; omega⟩
        dsimp only
        have hsx := hsucc
        try simp only [f256, f65] at hsx
        try simp only [f256, f65]
        rw [hsx, List.map_append, List.map_cons, List.map_nil, hv]
        exact H.sx
      · have hv : valOfU true u = (u : Int) := if_neg h32
        ((repeat ((conv => whnf); first | refine an ?_ | ((first | refine H.nwD ?_ | refine H.nw ?_); clear H; intro w _ H) | refine H.ce ?_ | refine H.db ?_ | refine ea ?_ | refine ol ?_ | (refine H.st ?_; (conv => whnf); clear H; intro w H) | refine cT ?_ | refine cF ?_ | refine cN ?_ | refine cM ?_ | refine H.lw ?_ | refine H.ll ?_)); (conv => whnf))
        refine Rel.app1_0 (f := itC) (l := U.map (valOfU true)) (x := (u : Int)) tabOk rfl rfl rfl rfl rfl (by decide) (fun _ => rfl) (List.all_eq_true.1 rfl) H (by simp only [List.length_map]; omega) (by simp only [List.length_map]; omega) ?_
        clear H
        intro rn6 w H
        ((repeat ((conv => whnf); first | refine an ?_ | ((first | refine H.nwD ?_ | refine H.nw ?_); clear H; intro w _ H) | refine H.ce ?_ | refine H.db ?_ | refine ea ?_ | refine ol ?_ | (refine H.st ?_; (conv => whnf); clear H; intro w H) | refine cT ?_ | refine cF ?_ | refine cN ?_ | refine cM ?_ | refine H.lw ?_ | refine H.ll ?_)); (conv => whnf))
        refine (unitSize_spec H.data rate ch 3).use ?_
        rintro q w ⟨rfl, K⟩
        (have hKb := K.base; replace H := H.call0 K)
        ((repeat ((conv => whnf); first | refine an ?_ | ((first | refine H.nwD ?_ | refine H.nw ?_); clear H; intro w _ H) | refine H.ce ?_ | refine H.db ?_ | refine ea ?_ | refine ol ?_ | (refine H.st ?_; (conv => whnf); clear H; intro w H) | refine cT ?_ | refine cF ?_ | refine cN ?_ | refine cM ?_ | refine H.lw ?_ | refine H.ll ?_)); (conv => whnf))
        refine ⟨(by repeat (first | exact trivial | refine ⟨rfl, ?_⟩)), (k + 1, rn5, rn6), ⟨rfl, rfl, congrArg (fun z => some (Value.int .i64 z)) (by simp only [Nat.reduceMod, Nat.reduceAdd]; omega), trivial⟩, ⟨by dsimp only; omega, ?_⟩, by dsimp only; omega⟩
        dsimp only
        have hsx := hsucc
        try simp only [f256, f65] at hsx
        try simp only [f256, f65]
        rw [hsx, List.map_append, List.map_cons, List.map_nil, hv]
        exact H.sx
end
end Go.Proofs.Ytjfcpnlacodjjaa
