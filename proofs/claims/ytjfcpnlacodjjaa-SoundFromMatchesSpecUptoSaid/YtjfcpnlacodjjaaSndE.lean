/-
  SoundBytes of the reference.
-/
import Derived.Test.YtjfcpnlacodjjaaSndD
namespace Go.Proofs.Ytjfcpnlacodjjaa
open Go Go.RowKit

theorem unitOf_lt (w : Bool) (v : Int) : unitOf w v < fullOf w := by
  unfold unitOf fullOf
  split <;> omega
theorem units_lt (w : Bool) (l : List Int) (i : Nat) : (l.map (unitOf w))[i]?.getD 0 < fullOf w := by
  rw [List.getElem?_map]
  cases l[i]? with
  | none => show 0 < fullOf w; unfold fullOf; split <;> omega
  | some x => exact unitOf_lt w x
theorem toDiff_lt {df : Bool} {ch full : Nat} {l : List Nat} (hf : 0 < full) (h : ∀ i : Nat, l[i]?.getD 0 < full) (i : Nat) : toDiff df ch full l i < full := by
  unfold toDiff
  split
  · exact Nat.mod_lt _ hf
  · exact h i
/-- the bytes of the first k units -/
def outU (w df : Bool) (ch : Nat) (U : List Nat) (k : Nat) : List UInt8 := (List.range k).flatMap fun i => unitB w (toDiff df ch (fullOf w) U i)
theorem outU_succ (w df : Bool) (ch : Nat) (U : List Nat) (k : Nat) : outU w df ch U (k + 1) = outU w df ch U k ++ unitB w (toDiff df ch (fullOf w) U k) := by
  unfold outU
  rw [List.range_succ, List.flatMap_append]
  simp
theorem outU_len (w df : Bool) (ch : Nat) (U : List Nat) (k : Nat) : (outU w df ch U k).length ≤ 2 * k := by
  induction k with
  | zero => simp [outU]
  | succ k ih =>
    rw [outU_succ, List.length_append]
    have : (unitB w (toDiff df ch (fullOf w) U k)).length ≤ 2 := by unfold unitB; split <;> simp
    omega
theorem sndBytes_eq (l : List Int) (coding ch : Nat) : sndBytes l coding ch = outU (isWide coding) (isDiff coding) ch (l.map (unitOf (isWide coding))) l.length := rfl
theorem tmod_lo (x : Int) {m : Int} (hm : 0 < m) : -m < x.tmod m ∧ x.tmod m < m ∧ (x.tmod m + m) % m = x % m := by
  have h1 := Int.tmod_eq_emod (a := x) (b := m)
  have h2 := Int.emod_nonneg x (show m ≠ 0 by omega)
  have h3 := Int.emod_lt_of_pos x hm
  have hna : (m.natAbs : Int) = m := by omega
  have h4 : (x.tmod m + m) % m = x % m := by
    split at h1
    · rw [show x.tmod m = x % m by omega, Int.add_emod_right, Int.emod_eq_of_lt h2 h3]
    · rw [show x.tmod m + m = x % m by omega, Int.emod_eq_of_lt h2 h3]
  refine ⟨?_, ?_, h4⟩
  · split at h1 <;> omega
  · split at h1 <;> omega
theorem tdiv_lo (x : Int) : (x - x % 256).tdiv 256 = x / 256 := by
  rw [show x - x % 256 = x / 256 * 256 by omega]
  exact Int.mul_tdiv_cancel _ (by decide)
section
variable {V W : World}
set_option maxRecDepth 100000 in
set_option maxHeartbeats 1000000 in
theorem soundBytes_ref (hV : Sub V W) {ch coding : Nat} (hc : coding < 4) (hch : 1 ≤ ch ∧ ch ≤ 2) {s : Sl} {l : List Int} (hs : SlF itC V s l) (hl : l.length ≤ 1000000) (hb : ∀ x ∈ l, -32768 ≤ x ∧ x ≤ 32767) :
    Ret Try.prog 70 [s.v, iv coding, iv ch].toArray W fun v w' => ∃ r : Sl, v = r.v ∧ Rel W V [.row r 5 1 ((sndBytes l coding ch).flatMap byC)] V w' := by
  have H := Rel.start hV
  have hlen := hs.len
  have f256 : fullOf false = 256 := rfl
  have f65 : fullOf true = 65536 := rfl
  refine cal_of_vc tabOk Try.func70 rfl (by kernel_rfl) 91 rfl (by simp) [0, 1, 2, 6, 7, 8, 9, 10, 11, 12, 13, 16, 20, 28, 50, 63, 83] ?_
  ((repeat ((conv => whnf); first | refine an ?_ | refine H.ce ?_ | refine H.db ?_ | refine ea ?_ | refine ol ?_ | (refine H.st ?_; (conv => whnf); clear H; intro w H) | refine cT ?_ | refine cF ?_ | refine cN ?_ | refine cM ?_ | refine H.lw ?_ | refine H.ll ?_)); (conv => whnf))
  obtain rfl | rfl | rfl | rfl : coding = 0 ∨ coding = 1 ∨ coding = 2 ∨ coding = 3 := by omega
  · replace H := H.rowNil 3 1
    ((repeat ((conv => whnf); first | refine an ?_ | ((first | refine H.nwD ?_ | refine H.nw ?_); clear H; intro w _ H) | refine H.ce ?_ | refine H.db ?_ | refine ea ?_ | refine ol ?_ | (refine H.st ?_; (conv => whnf); clear H; intro w H) | refine cT ?_ | refine cF ?_ | refine cN ?_ | refine cM ?_ | refine H.lw ?_ | refine H.ll ?_)); (conv => whnf))
    refine loop_inv (S := Nat × Sl) tabOk [0, 1, 2, 6, 7, 11, 12, 13, 16, 50, 63, 83] (fun k => [(8, k.2.v), (9, iv k.1)]) (fun k w' => k.1 ≤ l.length ∧ Rel W V [.row k.2 3 1 (((l.take k.1).map (unitOf (isWide 0))).flatMap itN)] V w') (fun k _ => l.length - k.1) (0, ⟨none, 0, 0⟩) ?_
    (conv => whnf)
    refine ⟨(by repeat (first | exact trivial | refine ⟨rfl, ?_⟩)), ⟨by omega, H⟩, ?_⟩
    clear H
    rintro ⟨k, r8⟩ w ⟨hk, H⟩
    dsimp only at hk H ⊢
    have hl8 := (H.slfAt (i := 0) rfl (fun _ => rfl) (by decide)).len
    rw [List.length_map, List.length_take] at hl8
    by_cases hlt : k < l.length
    rotate_left
    · rw [List.take_of_length_le (by omega)] at H
      obtain ⟨U, hU⟩ : ∃ U, U = l.map (unitOf (isWide 0)) := ⟨_, rfl⟩
      rw [sndBytes_eq, ← hU]
      rw [← hU] at H
      have hUl : U.length = l.length := by rw [hU, List.length_map]
      rw [← hUl]
      have hUb : ∀ i : Nat, U[i]?.getD 0 < fullOf (isWide 0) := by rw [hU]; exact units_lt _ _
      clear hU
      replace H := H.rowNil 5 1
      ((repeat ((conv => whnf); first | refine an ?_ | ((first | refine H.nwD ?_ | refine H.nw ?_); clear H; intro w _ H) | refine H.ce ?_ | refine H.db ?_ | refine ea ?_ | refine ol ?_ | (refine H.st ?_; (conv => whnf); clear H; intro w H) | refine cT ?_ | refine cF ?_ | refine cN ?_ | refine cM ?_ | refine H.lw ?_ | refine H.ll ?_)); (conv => whnf))
      refine loop_inv (S := Nat × Sl) tabOk [0, 1, 2, 6, 7, 8, 9, 10, 16, 20, 28] (fun j => [(11, j.2.v), (12, iv j.1)]) (fun j w' => j.1 ≤ U.length ∧ Rel W V [.row j.2 5 1 ((outU (isWide 0) (isDiff 0) ch U j.1).flatMap byC), .row r8 3 1 (U.flatMap itN)] V w') (fun j _ => U.length - j.1) (0, ⟨none, 0, 0⟩) ?_
      (conv => whnf)
      refine ⟨(by repeat (first | exact trivial | refine ⟨rfl, ?_⟩)), ⟨by omega, H⟩, ?_⟩
      clear H
      rintro ⟨j, r11⟩ w ⟨hj, H⟩
      dsimp only at hj H ⊢
      by_cases hlt2 : j < U.length
      rotate_left
      · have ej : j = U.length := by omega
        rw [ej] at H
        ((repeat ((conv => whnf); first | refine an ?_ | ((first | refine H.nwD ?_ | refine H.nw ?_); clear H; intro w _ H) | refine H.ce ?_ | refine H.db ?_ | refine ea ?_ | refine ol ?_ | (refine H.st ?_; (conv => whnf); clear H; intro w H) | refine cT ?_ | refine cF ?_ | refine cN ?_ | refine cM ?_ | refine H.lw ?_ | refine H.ll ?_)); (conv => whnf))
        exact ⟨r11, rfl, H.sx⟩
      have S8 := H.slfAt (i := 1) rfl (fun _ => rfl) (by decide)
      obtain ⟨q0, e0⟩ := S8.at1 (g := fun n : Nat => iv (n : Int)) (fun _ => rfl) (i := j) hlt2
      have hol := outU_len (isWide 0) (isDiff 0) ch U j
      have hl11 := (H.slfAt (i := 0) rfl (fun _ => rfl) (by decide)).len
      have hl8' := S8.len
      have hsu := outU_succ (isWide 0) (isDiff 0) ch U j
      have hx0 : U[j]?.getD 0 = U[j] := by rw [List.getElem?_eq_getElem hlt2]; rfl
      have hub := hUb j
      rw [hx0] at hub
      obtain ⟨O, hO⟩ : ∃ O, O = outU (isWide 0) (isDiff 0) ch U j := ⟨_, rfl⟩
      rw [← hO] at hol hl11 hsu H
      obtain ⟨u, hu⟩ : ∃ u, u = U[j] := ⟨_, rfl⟩
      rw [← hu] at e0 hub hx0
      rw [show toDiff (isDiff 0) ch (fullOf (isWide 0)) U j = u by unfold toDiff; rw [if_neg (by simp [isDiff]), hx0]] at hsu
      have hub : u < 256 := hub
      ((repeat ((conv => whnf); first | refine an ?_ | ((first | refine H.nwD ?_ | refine H.nw ?_); clear H; intro w _ H) | refine H.ce ?_ | refine H.db ?_ | refine ea ?_ | refine ol ?_ | (refine H.st ?_; (conv => whnf); clear H; intro w H) | refine cT ?_ | refine cF ?_ | refine cN ?_ | refine cM ?_ | refine H.lw ?_ | refine H.ll ?_)); (conv => whnf))
      refine Rel.app1_0 (f := byC) (l := O) (x := UInt8.ofNat (u)) tabOk rfl rfl rfl rfl rfl (by decide) (fun _ => rfl) (by simp [Value.oneCell']) (H.blkEq (bv_ofNat (n := u) (by omega) (by first | omega | (show (_ : Int) % 256 = _; omega)))) (by simp; omega) (by simp; omega) ?_
      clear H
      intro rn w H
      ((repeat ((conv => whnf); first | refine an ?_ | ((first | refine H.nwD ?_ | refine H.nw ?_); clear H; intro w _ H) | refine H.ce ?_ | refine H.db ?_ | refine ea ?_ | refine ol ?_ | (refine H.st ?_; (conv => whnf); clear H; intro w H) | refine cT ?_ | refine cF ?_ | refine cN ?_ | refine cM ?_ | refine H.lw ?_ | refine H.ll ?_)); (conv => whnf))
      refine ⟨(by repeat (first | exact trivial | refine ⟨rfl, ?_⟩)), (j + 1, rn), (by repeat (first | exact trivial | refine ⟨rfl, ?_⟩)), ⟨by dsimp only; omega, ?_⟩, by dsimp only; omega⟩
      dsimp only
      rw [hsu]
      exact H.sx
    have hxb := hb _ (List.getElem_mem hlt)
    obtain ⟨p0, d0⟩ := hs.at1 (g := iv) (fun _ => rfl) hlt
    obtain ⟨x, hx⟩ : ∃ x, x = l[k] := ⟨_, rfl⟩
    rw [← hx] at d0 hxb
    ((repeat ((conv => whnf); first | refine an ?_ | ((first | refine H.nwD ?_ | refine H.nw ?_); clear H; intro w _ H) | refine H.ce ?_ | refine H.db ?_ | refine ea ?_ | refine ol ?_ | (refine H.st ?_; (conv => whnf); clear H; intro w H) | refine cT ?_ | refine cF ?_ | refine cN ?_ | refine cM ?_ | refine H.lw ?_ | refine H.ll ?_)); (conv => whnf))
    obtain ⟨ht1, ht2, ht3⟩ := tmod_lo x (m := 256) (by decide)
    refine .inr ⟨by omega, ?_⟩
    obtain ⟨t, ht⟩ : ∃ t, t = x.tmod 256 := ⟨_, rfl⟩
    rw [← ht] at ht1 ht2 ht3 ⊢
    ((repeat ((conv => whnf); first | refine an ?_ | ((first | refine H.nwD ?_ | refine H.nw ?_); clear H; intro w _ H) | refine H.ce ?_ | refine H.db ?_ | refine ea ?_ | refine ol ?_ | (refine H.st ?_; (conv => whnf); clear H; intro w H) | refine cT ?_ | refine cF ?_ | refine cN ?_ | refine cM ?_ | refine H.lw ?_ | refine H.ll ?_)); (conv => whnf))
    refine .inr ⟨by omega, ?_⟩
    rw [ht3, tdiv_lo]
    ((repeat ((conv => whnf); first | refine an ?_ | ((first | refine H.nwD ?_ | refine H.nw ?_); clear H; intro w _ H) | refine H.ce ?_ | refine H.db ?_ | refine ea ?_ | refine ol ?_ | (refine H.st ?_; (conv => whnf); clear H; intro w H) | refine cT ?_ | refine cF ?_ | refine cN ?_ | refine cM ?_ | refine H.lw ?_ | refine H.ll ?_)); (conv => whnf))
    refine Rel.app1_0 (f := itN) (l := (l.take k).map (unitOf (isWide 0))) (x := unitOf (isWide 0) x) tabOk rfl rfl rfl rfl rfl (by decide) (fun _ => rfl) (List.all_eq_true.1 rfl) (H.blkEq (c' := itN (unitOf (isWide 0) x)) (congrArg (fun z => [Value.int .i64 z]) (by show _ = ((((x / 256 + 128) % 256).toNat : Nat) : Int); omega))) (by simp; omega) (by simp; omega) ?_
    clear H
    intro rn8 w H
    ((repeat ((conv => whnf); first | refine an ?_ | ((first | refine H.nwD ?_ | refine H.nw ?_); clear H; intro w _ H) | refine H.ce ?_ | refine H.db ?_ | refine ea ?_ | refine ol ?_ | (refine H.st ?_; (conv => whnf); clear H; intro w H) | refine cT ?_ | refine cF ?_ | refine cN ?_ | refine cM ?_ | refine H.lw ?_ | refine H.ll ?_)); (conv => whnf))
    refine ⟨(by repeat (first | exact trivial | refine ⟨rfl, ?_⟩)), (k + 1, rn8), (by repeat (first | exact trivial | refine ⟨rfl, ?_⟩)), ⟨by dsimp only; omega, ?_⟩, by dsimp only; omega⟩
    dsimp only
    rw [List.take_succ_eq_append_getElem hlt, List.map_append, ← hx]
    exact H.sx
  · replace H := H.rowNil 3 1
    ((repeat ((conv => whnf); first | refine an ?_ | ((first | refine H.nwD ?_ | refine H.nw ?_); clear H; intro w _ H) | refine H.ce ?_ | refine H.db ?_ | refine ea ?_ | refine ol ?_ | (refine H.st ?_; (conv => whnf); clear H; intro w H) | refine cT ?_ | refine cF ?_ | refine cN ?_ | refine cM ?_ | refine H.lw ?_ | refine H.ll ?_)); (conv => whnf))
    refine loop_inv (S := Nat × Sl) tabOk [0, 1, 2, 6, 7, 11, 12, 13, 16, 50, 63, 83] (fun k => [(8, k.2.v), (9, iv k.1)]) (fun k w' => k.1 ≤ l.length ∧ Rel W V [.row k.2 3 1 (((l.take k.1).map (unitOf (isWide 1))).flatMap itN)] V w') (fun k _ => l.length - k.1) (0, ⟨none, 0, 0⟩) ?_
    (conv => whnf)
    refine ⟨(by repeat (first | exact trivial | refine ⟨rfl, ?_⟩)), ⟨by omega, H⟩, ?_⟩
    clear H
    rintro ⟨k, r8⟩ w ⟨hk, H⟩
    dsimp only at hk H ⊢
    have hl8 := (H.slfAt (i := 0) rfl (fun _ => rfl) (by decide)).len
    rw [List.length_map, List.length_take] at hl8
    by_cases hlt : k < l.length
    rotate_left
    · rw [List.take_of_length_le (by omega)] at H
      obtain ⟨U, hU⟩ : ∃ U, U = l.map (unitOf (isWide 1)) := ⟨_, rfl⟩
      rw [sndBytes_eq, ← hU]
      rw [← hU] at H
      have hUl : U.length = l.length := by rw [hU, List.length_map]
      rw [← hUl]
      have hUb : ∀ i : Nat, U[i]?.getD 0 < fullOf (isWide 1) := by rw [hU]; exact units_lt _ _
      clear hU
      replace H := H.rowNil 5 1
      ((repeat ((conv => whnf); first | refine an ?_ | ((first | refine H.nwD ?_ | refine H.nw ?_); clear H; intro w _ H) | refine H.ce ?_ | refine H.db ?_ | refine ea ?_ | refine ol ?_ | (refine H.st ?_; (conv => whnf); clear H; intro w H) | refine cT ?_ | refine cF ?_ | refine cN ?_ | refine cM ?_ | refine H.lw ?_ | refine H.ll ?_)); (conv => whnf))
      refine loop_inv (S := Nat × Sl) tabOk [0, 1, 2, 6, 7, 8, 9, 10, 16, 20, 28] (fun j => [(11, j.2.v), (12, iv j.1)]) (fun j w' => j.1 ≤ U.length ∧ Rel W V [.row j.2 5 1 ((outU (isWide 1) (isDiff 1) ch U j.1).flatMap byC), .row r8 3 1 (U.flatMap itN)] V w') (fun j _ => U.length - j.1) (0, ⟨none, 0, 0⟩) ?_
      (conv => whnf)
      refine ⟨(by repeat (first | exact trivial | refine ⟨rfl, ?_⟩)), ⟨by omega, H⟩, ?_⟩
      clear H
      rintro ⟨j, r11⟩ w ⟨hj, H⟩
      dsimp only at hj H ⊢
      by_cases hlt2 : j < U.length
      rotate_left
      · have ej : j = U.length := by omega
        rw [ej] at H
        ((repeat ((conv => whnf); first | refine an ?_ | ((first | refine H.nwD ?_ | refine H.nw ?_); clear H; intro w _ H) | refine H.ce ?_ | refine H.db ?_ | refine ea ?_ | refine ol ?_ | (refine H.st ?_; (conv => whnf); clear H; intro w H) | refine cT ?_ | refine cF ?_ | refine cN ?_ | refine cM ?_ | refine H.lw ?_ | refine H.ll ?_)); (conv => whnf))
        exact ⟨r11, rfl, H.sx⟩
      have S8 := H.slfAt (i := 1) rfl (fun _ => rfl) (by decide)
      obtain ⟨q0, e0⟩ := S8.at1 (g := fun n : Nat => iv (n : Int)) (fun _ => rfl) (i := j) hlt2
      have hol := outU_len (isWide 1) (isDiff 1) ch U j
      have hl11 := (H.slfAt (i := 0) rfl (fun _ => rfl) (by decide)).len
      have hl8' := S8.len
      have hsu := outU_succ (isWide 1) (isDiff 1) ch U j
      have hx0 : U[j]?.getD 0 = U[j] := by rw [List.getElem?_eq_getElem hlt2]; rfl
      have hub := hUb j
      rw [hx0] at hub
      obtain ⟨O, hO⟩ : ∃ O, O = outU (isWide 1) (isDiff 1) ch U j := ⟨_, rfl⟩
      rw [← hO] at hol hl11 hsu H
      obtain ⟨u, hu⟩ : ∃ u, u = U[j] := ⟨_, rfl⟩
      rw [← hu] at e0 hub hx0
      rw [show toDiff (isDiff 1) ch (fullOf (isWide 1)) U j = u by unfold toDiff; rw [if_neg (by simp [isDiff]), hx0]] at hsu
      have hub : u < 65536 := hub
      ((repeat ((conv => whnf); first | refine an ?_ | ((first | refine H.nwD ?_ | refine H.nw ?_); clear H; intro w _ H) | refine H.ce ?_ | refine H.db ?_ | refine ea ?_ | refine ol ?_ | (refine H.st ?_; (conv => whnf); clear H; intro w H) | refine cT ?_ | refine cF ?_ | refine cN ?_ | refine cM ?_ | refine H.lw ?_ | refine H.ll ?_)); (conv => whnf))
      refine Rel.app1_0 (f := byC) (l := O) (x := UInt8.ofNat (u % 256)) tabOk rfl rfl rfl rfl rfl (by decide) (fun _ => rfl) (by simp [Value.oneCell']) (H.blkEq (bv_ofNat (n := u % 256) (by omega) (by first | omega | (show (_ : Int) % 256 = _; omega)))) (by simp; omega) (by simp; omega) ?_
      clear H
      intro rn w H
      ((repeat ((conv => whnf); first | refine an ?_ | ((first | refine H.nwD ?_ | refine H.nw ?_); clear H; intro w _ H) | refine H.ce ?_ | refine H.db ?_ | refine ea ?_ | refine ol ?_ | (refine H.st ?_; (conv => whnf); clear H; intro w H) | refine cT ?_ | refine cF ?_ | refine cN ?_ | refine cM ?_ | refine H.lw ?_ | refine H.ll ?_)); (conv => whnf))
      refine Rel.app1_0 (f := byC) (l := O ++ [UInt8.ofNat (u % 256)]) (x := UInt8.ofNat (u / 256)) tabOk rfl rfl rfl rfl rfl (by decide) (fun _ => rfl) (by simp [Value.oneCell']) (H.blkEq (bv_ofNat (n := u / 256) (by omega) (by first | omega | (show (_ : Int) % 256 = _; omega)))) (by simp; omega) (by simp; omega) ?_
      clear H
      intro rn w H
      ((repeat ((conv => whnf); first | refine an ?_ | ((first | refine H.nwD ?_ | refine H.nw ?_); clear H; intro w _ H) | refine H.ce ?_ | refine H.db ?_ | refine ea ?_ | refine ol ?_ | (refine H.st ?_; (conv => whnf); clear H; intro w H) | refine cT ?_ | refine cF ?_ | refine cN ?_ | refine cM ?_ | refine H.lw ?_ | refine H.ll ?_)); (conv => whnf))
      refine ⟨(by repeat (first | exact trivial | refine ⟨rfl, ?_⟩)), (j + 1, rn), (by repeat (first | exact trivial | refine ⟨rfl, ?_⟩)), ⟨by dsimp only; omega, ?_⟩, by dsimp only; omega⟩
      dsimp only
      rw [hsu]
      rw [List.append_assoc] at H
      exact H.sx
    have hxb := hb _ (List.getElem_mem hlt)
    obtain ⟨p0, d0⟩ := hs.at1 (g := iv) (fun _ => rfl) hlt
    obtain ⟨x, hx⟩ : ∃ x, x = l[k] := ⟨_, rfl⟩
    rw [← hx] at d0 hxb
    ((repeat ((conv => whnf); first | refine an ?_ | ((first | refine H.nwD ?_ | refine H.nw ?_); clear H; intro w _ H) | refine H.ce ?_ | refine H.db ?_ | refine ea ?_ | refine ol ?_ | (refine H.st ?_; (conv => whnf); clear H; intro w H) | refine cT ?_ | refine cF ?_ | refine cN ?_ | refine cM ?_ | refine H.lw ?_ | refine H.ll ?_)); (conv => whnf))
    obtain ⟨ht1, ht2, ht3⟩ := tmod_lo x (m := 65536) (by decide)
    refine .inr ⟨by omega, ?_⟩
    obtain ⟨t, ht⟩ : ∃ t, t = x.tmod 65536 := ⟨_, rfl⟩
    rw [← ht] at ht1 ht2 ht3 ⊢
    ((repeat ((conv => whnf); first | refine an ?_ | ((first | refine H.nwD ?_ | refine H.nw ?_); clear H; intro w _ H) | refine H.ce ?_ | refine H.db ?_ | refine ea ?_ | refine ol ?_ | (refine H.st ?_; (conv => whnf); clear H; intro w H) | refine cT ?_ | refine cF ?_ | refine cN ?_ | refine cM ?_ | refine H.lw ?_ | refine H.ll ?_)); (conv => whnf))
    refine Rel.app1_0 (f := itN) (l := (l.take k).map (unitOf (isWide 1))) (x := unitOf (isWide 1) x) tabOk rfl rfl rfl rfl rfl (by decide) (fun _ => rfl) (List.all_eq_true.1 rfl) (H.blkEq (c' := itN (unitOf (isWide 1) x)) (congrArg (fun z => [Value.int .i64 z]) (by show _ = (((x % 65536).toNat : Nat) : Int); omega))) (by simp; omega) (by simp; omega) ?_
    clear H
    intro rn8 w H
    ((repeat ((conv => whnf); first | refine an ?_ | ((first | refine H.nwD ?_ | refine H.nw ?_); clear H; intro w _ H) | refine H.ce ?_ | refine H.db ?_ | refine ea ?_ | refine ol ?_ | (refine H.st ?_; (conv => whnf); clear H; intro w H) | refine cT ?_ | refine cF ?_ | refine cN ?_ | refine cM ?_ | refine H.lw ?_ | refine H.ll ?_)); (conv => whnf))
    refine ⟨(by repeat (first | exact trivial | refine ⟨rfl, ?_⟩)), (k + 1, rn8), (by repeat (first | exact trivial | refine ⟨rfl, ?_⟩)), ⟨by dsimp only; omega, ?_⟩, by dsimp only; omega⟩
    dsimp only
    rw [List.take_succ_eq_append_getElem hlt, List.map_append, ← hx]
    exact H.sx
  · replace H := H.rowNil 3 1
    ((repeat ((conv => whnf); first | refine an ?_ | ((first | refine H.nwD ?_ | refine H.nw ?_); clear H; intro w _ H) | refine H.ce ?_ | refine H.db ?_ | refine ea ?_ | refine ol ?_ | (refine H.st ?_; (conv => whnf); clear H; intro w H) | refine cT ?_ | refine cF ?_ | refine cN ?_ | refine cM ?_ | refine H.lw ?_ | refine H.ll ?_)); (conv => whnf))
    refine loop_inv (S := Nat × Sl) tabOk [0, 1, 2, 6, 7, 11, 12, 13, 16, 50, 63, 83] (fun k => [(8, k.2.v), (9, iv k.1)]) (fun k w' => k.1 ≤ l.length ∧ Rel W V [.row k.2 3 1 (((l.take k.1).map (unitOf (isWide 2))).flatMap itN)] V w') (fun k _ => l.length - k.1) (0, ⟨none, 0, 0⟩) ?_
    (conv => whnf)
    refine ⟨(by repeat (first | exact trivial | refine ⟨rfl, ?_⟩)), ⟨by omega, H⟩, ?_⟩
    clear H
    rintro ⟨k, r8⟩ w ⟨hk, H⟩
    dsimp only at hk H ⊢
    have hl8 := (H.slfAt (i := 0) rfl (fun _ => rfl) (by decide)).len
    rw [List.length_map, List.length_take] at hl8
    by_cases hlt : k < l.length
    rotate_left
    · rw [List.take_of_length_le (by omega)] at H
      obtain ⟨U, hU⟩ : ∃ U, U = l.map (unitOf (isWide 2)) := ⟨_, rfl⟩
      rw [sndBytes_eq, ← hU]
      rw [← hU] at H
      have hUl : U.length = l.length := by rw [hU, List.length_map]
      rw [← hUl]
      have hUb : ∀ i : Nat, U[i]?.getD 0 < fullOf (isWide 2) := by rw [hU]; exact units_lt _ _
      clear hU
      replace H := H.rowNil 5 1
      ((repeat ((conv => whnf); first | refine an ?_ | ((first | refine H.nwD ?_ | refine H.nw ?_); clear H; intro w _ H) | refine H.ce ?_ | refine H.db ?_ | refine ea ?_ | refine ol ?_ | (refine H.st ?_; (conv => whnf); clear H; intro w H) | refine cT ?_ | refine cF ?_ | refine cN ?_ | refine cM ?_ | refine H.lw ?_ | refine H.ll ?_)); (conv => whnf))
      refine loop_inv (S := Nat × Sl) tabOk [0, 1, 2, 6, 7, 8, 9, 10, 16, 20, 28] (fun j => [(11, j.2.v), (12, iv j.1)]) (fun j w' => j.1 ≤ U.length ∧ Rel W V [.row j.2 5 1 ((outU (isWide 2) (isDiff 2) ch U j.1).flatMap byC), .row r8 3 1 (U.flatMap itN)] V w') (fun j _ => U.length - j.1) (0, ⟨none, 0, 0⟩) ?_
      (conv => whnf)
      refine ⟨(by repeat (first | exact trivial | refine ⟨rfl, ?_⟩)), ⟨by omega, H⟩, ?_⟩
      clear H
      rintro ⟨j, r11⟩ w ⟨hj, H⟩
      dsimp only at hj H ⊢
      by_cases hlt2 : j < U.length
      rotate_left
      · have ej : j = U.length := by omega
        rw [ej] at H
        ((repeat ((conv => whnf); first | refine an ?_ | ((first | refine H.nwD ?_ | refine H.nw ?_); clear H; intro w _ H) | refine H.ce ?_ | refine H.db ?_ | refine ea ?_ | refine ol ?_ | (refine H.st ?_; (conv => whnf); clear H; intro w H) | refine cT ?_ | refine cF ?_ | refine cN ?_ | refine cM ?_ | refine H.lw ?_ | refine H.ll ?_)); (conv => whnf))
        exact ⟨r11, rfl, H.sx⟩
      have S8 := H.slfAt (i := 1) rfl (fun _ => rfl) (by decide)
      obtain ⟨q0, e0⟩ := S8.at1 (g := fun n : Nat => iv (n : Int)) (fun _ => rfl) (i := j) hlt2
      have hol := outU_len (isWide 2) (isDiff 2) ch U j
      have hl11 := (H.slfAt (i := 0) rfl (fun _ => rfl) (by decide)).len
      have hl8' := S8.len
      have hsu := outU_succ (isWide 2) (isDiff 2) ch U j
      have hx0 : U[j]?.getD 0 = U[j] := by rw [List.getElem?_eq_getElem hlt2]; rfl
      have hub := hUb j
      rw [hx0] at hub
      obtain ⟨O, hO⟩ : ∃ O, O = outU (isWide 2) (isDiff 2) ch U j := ⟨_, rfl⟩
      rw [← hO] at hol hl11 hsu H
      by_cases hdf : ch ≤ j
      · obtain ⟨q1, e1⟩ := S8.at1 (g := fun n : Nat => iv (n : Int)) (fun _ => rfl) (i := j - ch) (by omega)
        have hx1 : U[j - ch]?.getD 0 = U[j - ch] := by rw [List.getElem?_eq_getElem (by omega)]; rfl
        have hub1 := hUb (j - ch)
        rw [hx1] at hub1
        have ej : ((j : Int) - (ch : Int)) = ((j - ch : Nat) : Int) := by omega
        obtain ⟨a, ha⟩ : ∃ a, a = U[j] := ⟨_, rfl⟩
        obtain ⟨b, hb'⟩ : ∃ b, b = U[j - ch] := ⟨_, rfl⟩
        rw [← ha] at e0 hub hx0
        rw [← hb'] at e1 hub1 hx1
        obtain ⟨u, hu⟩ : ∃ u, u = (a + 256 - b) % 256 := ⟨_, rfl⟩
        rw [show toDiff (isDiff 2) ch (fullOf (isWide 2)) U j = u by unfold toDiff; rw [if_pos (by exact ⟨by decide, hdf⟩), hx0, hx1, hu]; rfl] at hsu
        have hub' : b < 256 := hub1
        have hua' : a < 256 := hub
        have hu65 : u < 256 := by omega
        have ez : ((a : Int) - (b : Int) + 256) % 256 = (u : Int) := by omega
        ((repeat ((conv => whnf); first | refine an ?_ | ((first | refine H.nwD ?_ | refine H.nw ?_); clear H; intro w _ H) | refine H.ce ?_ | refine H.db ?_ | refine ea ?_ | refine ol ?_ | (refine H.st ?_; (conv => whnf); clear H; intro w H) | refine cT ?_ | refine cF ?_ | refine cN ?_ | refine cM ?_ | refine H.lw ?_ | refine H.ll ?_)); (conv => whnf))
        rw [ej]
        ((repeat ((conv => whnf); first | refine an ?_ | ((first | refine H.nwD ?_ | refine H.nw ?_); clear H; intro w _ H) | refine H.ce ?_ | refine H.db ?_ | refine ea ?_ | refine ol ?_ | (refine H.st ?_; (conv => whnf); clear H; intro w H) | refine cT ?_ | refine cF ?_ | refine cN ?_ | refine cM ?_ | refine H.lw ?_ | refine H.ll ?_)); (conv => whnf))
        try rw [ez] at H
        rw [ez]
        ((repeat ((conv => whnf); first | refine an ?_ | ((first | refine H.nwD ?_ | refine H.nw ?_); clear H; intro w _ H) | refine H.ce ?_ | refine H.db ?_ | refine ea ?_ | refine ol ?_ | (refine H.st ?_; (conv => whnf); clear H; intro w H) | refine cT ?_ | refine cF ?_ | refine cN ?_ | refine cM ?_ | refine H.lw ?_ | refine H.ll ?_)); (conv => whnf))
        refine Rel.app1_0 (f := byC) (l := O) (x := UInt8.ofNat (u)) tabOk rfl rfl rfl rfl rfl (by decide) (fun _ => rfl) (by simp [Value.oneCell']) (H.blkEq (bv_ofNat (n := u) (by omega) (by first | omega | (show (_ : Int) % 256 = _; omega)))) (by simp; omega) (by simp; omega) ?_
        clear H
        intro rn w H
        ((repeat ((conv => whnf); first | refine an ?_ | ((first | refine H.nwD ?_ | refine H.nw ?_); clear H; intro w _ H) | refine H.ce ?_ | refine H.db ?_ | refine ea ?_ | refine ol ?_ | (refine H.st ?_; (conv => whnf); clear H; intro w H) | refine cT ?_ | refine cF ?_ | refine cN ?_ | refine cM ?_ | refine H.lw ?_ | refine H.ll ?_)); (conv => whnf))
        refine ⟨(by repeat (first | exact trivial | refine ⟨rfl, ?_⟩)), (j + 1, rn), (by repeat (first | exact trivial | refine ⟨rfl, ?_⟩)), ⟨by dsimp only; omega, ?_⟩, by dsimp only; omega⟩
        dsimp only
        rw [hsu]
        exact H.sx
      · obtain ⟨u, hu⟩ : ∃ u, u = U[j] := ⟨_, rfl⟩
        rw [← hu] at e0 hub hx0
        rw [show toDiff (isDiff 2) ch (fullOf (isWide 2)) U j = u by unfold toDiff; rw [if_neg (fun h => hdf h.2), hx0]] at hsu
        have hub : u < 256 := hub
        ((repeat ((conv => whnf); first | refine an ?_ | ((first | refine H.nwD ?_ | refine H.nw ?_); clear H; intro w _ H) | refine H.ce ?_ | refine H.db ?_ | refine ea ?_ | refine ol ?_ | (refine H.st ?_; (conv => whnf); clear H; intro w H) | refine cT ?_ | refine cF ?_ | refine cN ?_ | refine cM ?_ | refine H.lw ?_ | refine H.ll ?_)); (conv => whnf))
        refine Rel.app1_0 (f := byC) (l := O) (x := UInt8.ofNat (u)) tabOk rfl rfl rfl rfl rfl (by decide) (fun _ => rfl) (by simp [Value.oneCell']) (H.blkEq (bv_ofNat (n := u) (by omega) (by first | omega | (show (_ : Int) % 256 = _; omega)))) (by simp; omega) (by simp; omega) ?_
        clear H
        intro rn w H
        ((repeat ((conv => whnf); first | refine an ?_ | ((first | refine H.nwD ?_ | refine H.nw ?_); clear H; intro w _ H) | refine H.ce ?_ | refine H.db ?_ | refine ea ?_ | refine ol ?_ | (refine H.st ?_; (conv => whnf); clear H; intro w H) | refine cT ?_ | refine cF ?_ | refine cN ?_ | refine cM ?_ | refine H.lw ?_ | refine H.ll ?_)); (conv => whnf))
        refine ⟨(by repeat (first | exact trivial | refine ⟨rfl, ?_⟩)), (j + 1, rn), (by repeat (first | exact trivial | refine ⟨rfl, ?_⟩)), ⟨by dsimp only; omega, ?_⟩, by dsimp only; omega⟩
        dsimp only
        rw [hsu]
        exact H.sx
    have hxb := hb _ (List.getElem_mem hlt)
    obtain ⟨p0, d0⟩ := hs.at1 (g := iv) (fun _ => rfl) hlt
    obtain ⟨x, hx⟩ : ∃ x, x = l[k] := ⟨_, rfl⟩
    rw [← hx] at d0 hxb
    ((repeat ((conv => whnf); first | refine an ?_ | ((first | refine H.nwD ?_ | refine H.nw ?_); clear H; intro w _ H) | refine H.ce ?_ | refine H.db ?_ | refine ea ?_ | refine ol ?_ | (refine H.st ?_; (conv => whnf); clear H; intro w H) | refine cT ?_ | refine cF ?_ | refine cN ?_ | refine cM ?_ | refine H.lw ?_ | refine H.ll ?_)); (conv => whnf))
    obtain ⟨ht1, ht2, ht3⟩ := tmod_lo x (m := 256) (by decide)
    refine .inr ⟨by omega, ?_⟩
    obtain ⟨t, ht⟩ : ∃ t, t = x.tmod 256 := ⟨_, rfl⟩
    rw [← ht] at ht1 ht2 ht3 ⊢
    ((repeat ((conv => whnf); first | refine an ?_ | ((first | refine H.nwD ?_ | refine H.nw ?_); clear H; intro w _ H) | refine H.ce ?_ | refine H.db ?_ | refine ea ?_ | refine ol ?_ | (refine H.st ?_; (conv => whnf); clear H; intro w H) | refine cT ?_ | refine cF ?_ | refine cN ?_ | refine cM ?_ | refine H.lw ?_ | refine H.ll ?_)); (conv => whnf))
    refine .inr ⟨by omega, ?_⟩
    rw [ht3, tdiv_lo]
    ((repeat ((conv => whnf); first | refine an ?_ | ((first | refine H.nwD ?_ | refine H.nw ?_); clear H; intro w _ H) | refine H.ce ?_ | refine H.db ?_ | refine ea ?_ | refine ol ?_ | (refine H.st ?_; (conv => whnf); clear H; intro w H) | refine cT ?_ | refine cF ?_ | refine cN ?_ | refine cM ?_ | refine H.lw ?_ | refine H.ll ?_)); (conv => whnf))
    refine Rel.app1_0 (f := itN) (l := (l.take k).map (unitOf (isWide 2))) (x := unitOf (isWide 2) x) tabOk rfl rfl rfl rfl rfl (by decide) (fun _ => rfl) (List.all_eq_true.1 rfl) (H.blkEq (c' := itN (unitOf (isWide 2) x)) (congrArg (fun z => [Value.int .i64 z]) (by show _ = ((((x / 256 + 128) % 256).toNat : Nat) : Int); omega))) (by simp; omega) (by simp; omega) ?_
    clear H
    intro rn8 w H
    ((repeat ((conv => whnf); first | refine an ?_ | ((first | refine H.nwD ?_ | refine H.nw ?_); clear H; intro w _ H) | refine H.ce ?_ | refine H.db ?_ | refine ea ?_ | refine ol ?_ | (refine H.st ?_; (conv => whnf); clear H; intro w H) | refine cT ?_ | refine cF ?_ | refine cN ?_ | refine cM ?_ | refine H.lw ?_ | refine H.ll ?_)); (conv => whnf))
    refine ⟨(by repeat (first | exact trivial | refine ⟨rfl, ?_⟩)), (k + 1, rn8), (by repeat (first | exact trivial | refine ⟨rfl, ?_⟩)), ⟨by dsimp only; omega, ?_⟩, by dsimp only; omega⟩
    dsimp only
    rw [List.take_succ_eq_append_getElem hlt, List.map_append, ← hx]
    exact H.sx
  · replace H := H.rowNil 3 1
    ((repeat ((conv => whnf); first | refine an ?_ | ((first | refine H.nwD ?_ | refine H.nw ?_); clear H; intro w _ H) | refine H.ce ?_ | refine H.db ?_ | refine ea ?_ | refine ol ?_ | (refine H.st ?_; (conv => whnf); clear H; intro w H) | refine cT ?_ | refine cF ?_ | refine cN ?_ | refine cM ?_ | refine H.lw ?_ | refine H.ll ?_)); (conv => whnf))
    refine loop_inv (S := Nat × Sl) tabOk [0, 1, 2, 6, 7, 11, 12, 13, 16, 50, 63, 83] (fun k => [(8, k.2.v), (9, iv k.1)]) (fun k w' => k.1 ≤ l.length ∧ Rel W V [.row k.2 3 1 (((l.take k.1).map (unitOf (isWide 3))).flatMap itN)] V w') (fun k _ => l.length - k.1) (0, ⟨none, 0, 0⟩) ?_
    (conv => whnf)
    refine ⟨(by repeat (first | exact trivial | refine ⟨rfl, ?_⟩)), ⟨by omega, H⟩, ?_⟩
    clear H
    rintro ⟨k, r8⟩ w ⟨hk, H⟩
    dsimp only at hk H ⊢
    have hl8 := (H.slfAt (i := 0) rfl (fun _ => rfl) (by decide)).len
    rw [List.length_map, List.length_take] at hl8
    by_cases hlt : k < l.length
    rotate_left
    · rw [List.take_of_length_le (by omega)] at H
      obtain ⟨U, hU⟩ : ∃ U, U = l.map (unitOf (isWide 3)) := ⟨_, rfl⟩
      rw [sndBytes_eq, ← hU]
      rw [← hU] at H
      have hUl : U.length = l.length := by rw [hU, List.length_map]
      rw [← hUl]
      have hUb : ∀ i : Nat, U[i]?.getD 0 < fullOf (isWide 3) := by rw [hU]; exact units_lt _ _
      clear hU
      replace H := H.rowNil 5 1
      ((repeat ((conv => whnf); first | refine an ?_ | ((first | refine H.nwD ?_ | refine H.nw ?_); clear H; intro w _ H) | refine H.ce ?_ | refine H.db ?_ | refine ea ?_ | refine ol ?_ | (refine H.st ?_; (conv => whnf); clear H; intro w H) | refine cT ?_ | refine cF ?_ | refine cN ?_ | refine cM ?_ | refine H.lw ?_ | refine H.ll ?_)); (conv => whnf))
      refine loop_inv (S := Nat × Sl) tabOk [0, 1, 2, 6, 7, 8, 9, 10, 16, 20, 28] (fun j => [(11, j.2.v), (12, iv j.1)]) (fun j w' => j.1 ≤ U.length ∧ Rel W V [.row j.2 5 1 ((outU (isWide 3) (isDiff 3) ch U j.1).flatMap byC), .row r8 3 1 (U.flatMap itN)] V w') (fun j _ => U.length - j.1) (0, ⟨none, 0, 0⟩) ?_
      (conv => whnf)
      refine ⟨(by repeat (first | exact trivial | refine ⟨rfl, ?_⟩)), ⟨by omega, H⟩, ?_⟩
      clear H
      rintro ⟨j, r11⟩ w ⟨hj, H⟩
      dsimp only at hj H ⊢
      by_cases hlt2 : j < U.length
      rotate_left
      · have ej : j = U.length := by omega
        rw [ej] at H
        ((repeat ((conv => whnf); first | refine an ?_ | ((first | refine H.nwD ?_ | refine H.nw ?_); clear H; intro w _ H) | refine H.ce ?_ | refine H.db ?_ | refine ea ?_ | refine ol ?_ | (refine H.st ?_; (conv => whnf); clear H; intro w H) | refine cT ?_ | refine cF ?_ | refine cN ?_ | refine cM ?_ | refine H.lw ?_ | refine H.ll ?_)); (conv => whnf))
        exact ⟨r11, rfl, H.sx⟩
      have S8 := H.slfAt (i := 1) rfl (fun _ => rfl) (by decide)
      obtain ⟨q0, e0⟩ := S8.at1 (g := fun n : Nat => iv (n : Int)) (fun _ => rfl) (i := j) hlt2
      have hol := outU_len (isWide 3) (isDiff 3) ch U j
      have hl11 := (H.slfAt (i := 0) rfl (fun _ => rfl) (by decide)).len
      have hl8' := S8.len
      have hsu := outU_succ (isWide 3) (isDiff 3) ch U j
      have hx0 : U[j]?.getD 0 = U[j] := by rw [List.getElem?_eq_getElem hlt2]; rfl
      have hub := hUb j
      rw [hx0] at hub
      obtain ⟨O, hO⟩ : ∃ O, O = outU (isWide 3) (isDiff 3) ch U j := ⟨_, rfl⟩
      rw [← hO] at hol hl11 hsu H
      by_cases hdf : ch ≤ j
      · obtain ⟨q1, e1⟩ := S8.at1 (g := fun n : Nat => iv (n : Int)) (fun _ => rfl) (i := j - ch) (by omega)
        have hx1 : U[j - ch]?.getD 0 = U[j - ch] := by rw [List.getElem?_eq_getElem (by omega)]; rfl
        have hub1 := hUb (j - ch)
        rw [hx1] at hub1
        have ej : ((j : Int) - (ch : Int)) = ((j - ch : Nat) : Int) := by omega
        obtain ⟨a, ha⟩ : ∃ a, a = U[j] := ⟨_, rfl⟩
        obtain ⟨b, hb'⟩ : ∃ b, b = U[j - ch] := ⟨_, rfl⟩
        rw [← ha] at e0 hub hx0
        rw [← hb'] at e1 hub1 hx1
        obtain ⟨u, hu⟩ : ∃ u, u = (a + 65536 - b) % 65536 := ⟨_, rfl⟩
        rw [show toDiff (isDiff 3) ch (fullOf (isWide 3)) U j = u by unfold toDiff; rw [if_pos (by exact ⟨by decide, hdf⟩), hx0, hx1, hu]; rfl] at hsu
        have hub' : b < 65536 := hub1
        have hua' : a < 65536 := hub
        have hu65 : u < 65536 := by omega
        have ez : ((a : Int) - (b : Int) + 65536) % 65536 = (u : Int) := by omega
        ((repeat ((conv => whnf); first | refine an ?_ | ((first | refine H.nwD ?_ | refine H.nw ?_); clear H; intro w _ H) | refine H.ce ?_ | refine H.db ?_ | refine ea ?_ | refine ol ?_ | (refine H.st ?_; (conv => whnf); clear H; intro w H) | refine cT ?_ | refine cF ?_ | refine cN ?_ | refine cM ?_ | refine H.lw ?_ | refine H.ll ?_)); (conv => whnf))
        rw [ej]
        ((repeat ((conv => whnf); first | refine an ?_ | ((first | refine H.nwD ?_ | refine H.nw ?_); clear H; intro w _ H) | refine H.ce ?_ | refine H.db ?_ | refine ea ?_ | refine ol ?_ | (refine H.st ?_; (conv => whnf); clear H; intro w H) | refine cT ?_ | refine cF ?_ | refine cN ?_ | refine cM ?_ | refine H.lw ?_ | refine H.ll ?_)); (conv => whnf))
        try rw [ez] at H
        rw [ez]
        ((repeat ((conv => whnf); first | refine an ?_ | ((first | refine H.nwD ?_ | refine H.nw ?_); clear H; intro w _ H) | refine H.ce ?_ | refine H.db ?_ | refine ea ?_ | refine ol ?_ | (refine H.st ?_; (conv => whnf); clear H; intro w H) | refine cT ?_ | refine cF ?_ | refine cN ?_ | refine cM ?_ | refine H.lw ?_ | refine H.ll ?_)); (conv => whnf))
        refine Rel.app1_0 (f := byC) (l := O) (x := UInt8.ofNat (u % 256)) tabOk rfl rfl rfl rfl rfl (by decide) (fun _ => rfl) (by simp [Value.oneCell']) (H.blkEq (bv_ofNat (n := u % 256) (by omega) (by first | omega | (show (_ : Int) % 256 = _; omega)))) (by simp; omega) (by simp; omega) ?_
        clear H
        intro rn w H
        ((repeat ((conv => whnf); first | refine an ?_ | ((first | refine H.nwD ?_ | refine H.nw ?_); clear H; intro w _ H) | refine H.ce ?_ | refine H.db ?_ | refine ea ?_ | refine ol ?_ | (refine H.st ?_; (conv => whnf); clear H; intro w H) | refine cT ?_ | refine cF ?_ | refine cN ?_ | refine cM ?_ | refine H.lw ?_ | refine H.ll ?_)); (conv => whnf))
        refine Rel.app1_0 (f := byC) (l := O ++ [UInt8.ofNat (u % 256)]) (x := UInt8.ofNat (u / 256)) tabOk rfl rfl rfl rfl rfl (by decide) (fun _ => rfl) (by simp [Value.oneCell']) (H.blkEq (bv_ofNat (n := u / 256) (by omega) (by first | omega | (show (_ : Int) % 256 = _; omega)))) (by simp; omega) (by simp; omega) ?_
        clear H
        intro rn w H
        ((repeat ((conv => whnf); first | refine an ?_ | ((first | refine H.nwD ?_ | refine H.nw ?_); clear H; intro w _ H) | refine H.ce ?_ | refine H.db ?_ | refine ea ?_ | refine ol ?_ | (refine H.st ?_; (conv => whnf); clear H; intro w H) | refine cT ?_ | refine cF ?_ | refine cN ?_ | refine cM ?_ | refine H.lw ?_ | refine H.ll ?_)); (conv => whnf))
        refine ⟨(by repeat (first | exact trivial | refine ⟨rfl, ?_⟩)), (j + 1, rn), (by repeat (first | exact trivial | refine ⟨rfl, ?_⟩)), ⟨by dsimp only; omega, ?_⟩, by dsimp only; omega⟩
        dsimp only
        rw [hsu]
        rw [List.append_assoc] at H
        exact H.sx
      · obtain ⟨u, hu⟩ : ∃ u, u = U[j] := ⟨_, rfl⟩
        rw [← hu] at e0 hub hx0
        rw [show toDiff (isDiff 3) ch (fullOf (isWide 3)) U j = u by unfold toDiff; rw [if_neg (fun h => hdf h.2), hx0]] at hsu
        have hub : u < 65536 := hub
        ((repeat ((conv => whnf); first | refine an ?_ | ((first | refine H.nwD ?_ | refine H.nw ?_); clear H; intro w _ H) | refine H.ce ?_ | refine H.db ?_ | refine ea ?_ | refine ol ?_ | (refine H.st ?_; (conv => whnf); clear H; intro w H) | refine cT ?_ | refine cF ?_ | refine cN ?_ | refine cM ?_ | refine H.lw ?_ | refine H.ll ?_)); (conv => whnf))
        refine Rel.app1_0 (f := byC) (l := O) (x := UInt8.ofNat (u % 256)) tabOk rfl rfl rfl rfl rfl (by decide) (fun _ => rfl) (by simp [Value.oneCell']) (H.blkEq (bv_ofNat (n := u % 256) (by omega) (by first | omega | (show (_ : Int) % 256 = _; omega)))) (by simp; omega) (by simp; omega) ?_
        clear H
        intro rn w H
        ((repeat ((conv => whnf); first | refine an ?_ | ((first | refine H.nwD ?_ | refine H.nw ?_); clear H; intro w _ H) | refine H.ce ?_ | refine H.db ?_ | refine ea ?_ | refine ol ?_ | (refine H.st ?_; (conv => whnf); clear H; intro w H) | refine cT ?_ | refine cF ?_ | refine cN ?_ | refine cM ?_ | refine H.lw ?_ | refine H.ll ?_)); (conv => whnf))
        refine Rel.app1_0 (f := byC) (l := O ++ [UInt8.ofNat (u % 256)]) (x := UInt8.ofNat (u / 256)) tabOk rfl rfl rfl rfl rfl (by decide) (fun _ => rfl) (by simp [Value.oneCell']) (H.blkEq (bv_ofNat (n := u / 256) (by omega) (by first | omega | (show (_ : Int) % 256 = _; omega)))) (by simp; omega) (by simp; omega) ?_
        clear H
        intro rn w H
        ((repeat ((conv => whnf); first | refine an ?_ | ((first | refine H.nwD ?_ | refine H.nw ?_); clear H; intro w _ H) | refine H.ce ?_ | refine H.db ?_ | refine ea ?_ | refine ol ?_ | (refine H.st ?_; (conv => whnf); clear H; intro w H) | refine cT ?_ | refine cF ?_ | refine cN ?_ | refine cM ?_ | refine H.lw ?_ | refine H.ll ?_)); (conv => whnf))
        refine ⟨(by repeat (first | exact trivial | refine ⟨rfl, ?_⟩)), (j + 1, rn), (by repeat (first | exact trivial | refine ⟨rfl, ?_⟩)), ⟨by dsimp only; omega, ?_⟩, by dsimp only; omega⟩
        dsimp only
        rw [hsu]
        rw [List.append_assoc] at H
        exact H.sx
    have hxb := hb _ (List.getElem_mem hlt)
    obtain ⟨p0, d0⟩ := hs.at1 (g := iv) (fun _ => rfl) hlt
    obtain ⟨x, hx⟩ : ∃ x, x = l[k] := ⟨_, rfl⟩
    rw [← hx] at d0 hxb
    ((repeat ((conv => whnf); first | refine an ?_ | ((first | refine H.nwD ?_ | refine H.nw ?_); clear H; intro w _ H) | refine H.ce ?_ | refine H.db ?_ | refine ea ?_ | refine ol ?_ | (refine H.st ?_; (conv => whnf); clear H; intro w H) | refine cT ?_ | refine cF ?_ | refine cN ?_ | refine cM ?_ | refine H.lw ?_ | refine H.ll ?_)); (conv => whnf))
    obtain ⟨ht1, ht2, ht3⟩ := tmod_lo x (m := 65536) (by decide)
    refine .inr ⟨by omega, ?_⟩
    obtain ⟨t, ht⟩ : ∃ t, t = x.tmod 65536 := ⟨_, rfl⟩
    rw [← ht] at ht1 ht2 ht3 ⊢
    ((repeat ((conv => whnf); first | refine an ?_ | ((first | refine H.nwD ?_ | refine H.nw ?_); clear H; intro w _ H) | refine H.ce ?_ | refine H.db ?_ | refine ea ?_ | refine ol ?_ | (refine H.st ?_; (conv => whnf); clear H; intro w H) | refine cT ?_ | refine cF ?_ | refine cN ?_ | refine cM ?_ | refine H.lw ?_ | refine H.ll ?_)); (conv => whnf))
    refine Rel.app1_0 (f := itN) (l := (l.take k).map (unitOf (isWide 3))) (x := unitOf (isWide 3) x) tabOk rfl rfl rfl rfl rfl (by decide) (fun _ => rfl) (List.all_eq_true.1 rfl) (H.blkEq (c' := itN (unitOf (isWide 3) x)) (congrArg (fun z => [Value.int .i64 z]) (by show _ = (((x % 65536).toNat : Nat) : Int); omega))) (by simp; omega) (by simp; omega) ?_
    clear H
    intro rn8 w H
    ((repeat ((conv => whnf); first | refine an ?_ | ((first | refine H.nwD ?_ | refine H.nw ?_); clear H; intro w _ H) | refine H.ce ?_ | refine H.db ?_ | refine ea ?_ | refine ol ?_ | (refine H.st ?_; (conv => whnf); clear H; intro w H) | refine cT ?_ | refine cF ?_ | refine cN ?_ | refine cM ?_ | refine H.lw ?_ | refine H.ll ?_)); (conv => whnf))
    refine ⟨(by repeat (first | exact trivial | refine ⟨rfl, ?_⟩)), (k + 1, rn8), (by repeat (first | exact trivial | refine ⟨rfl, ?_⟩)), ⟨by dsimp only; omega, ?_⟩, by dsimp only; omega⟩
    dsimp only
    rw [List.take_succ_eq_append_getElem hlt, List.map_append, ← hx]
    exact H.sx
end
end Go.Proofs.Ytjfcpnlacodjjaa
