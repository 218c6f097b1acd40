/-
  Sound files: parts of a value; Explain.
-/
import Derived.Test.YtjfcpnlacodjjaaSndJ
import Derived.Test.YtjfcpnlacodjjaaSndR
import Derived.Test.YtjfcpnlacodjjaaVcQ
namespace Go.Proofs.Ytjfcpnlacodjjaa
open Go Go.RowKit

theorem unDiff_no (ch full : Nat) (l : List Nat) : unDiff false ch full l = l := by
  refine List.ext_getElem? fun i => ?_
  by_cases hi : i < l.length
  · rw [unDiff_at (List.getElem?_eq_getElem hi), if_neg (by simp), List.getElem?_eq_getElem hi]
  · rw [List.getElem?_eq_none (by rw [unDiff_len]; omega), List.getElem?_eq_none (by omega)]
theorem sndVals_one (b : List UInt8) (ch : Nat) : sndVals b 1 ch = (rawU true b).map (valOfU true) := by
  unfold sndVals
  rw [show isDiff 1 = false from rfl, show isWide 1 = true from rfl, unDiff_no]
theorem shape_not {v : Val} (h : ∀ r c s, v.parts = [r, c, s] → ¬ ShapeOk v r c s) : sndShape v = none := by
  unfold sndShape
  split
  · rename_i r c s hp
    rw [if_neg (h r c s hp)]
  · rfl
theorem three {v : Val} (h : v.parts.length = 3) : ∃ r c s, v.parts = [r, c, s] := by
  match hp : v.parts, h with
  | [r, c, s], _ => exact ⟨r, c, s, rfl⟩
theorem wrap_i16 (n : Nat) (h : n < 65536) : IntKind.i16.wrap (n : Int) = valOfU true n := by
  have key : ∀ m p : Int, m = 65536 → p = 32768 → (if (true && decide ((n : Int) % m ≥ p)) = true then (n : Int) % m - m else (n : Int) % m) = valOfU true n := by
    rintro m p rfl rfl
    simp only [Bool.true_and, ge_iff_le, decide_eq_true_eq, valOfU, if_true]
    split <;> split <;> omega
  exact key (2 ^ 16) (2 ^ 15) (by decide) (by decide)
theorem or_u16 {x y : Nat} (hx : x < 256) (hy : y < 256) : bitsI .or .u16 (x : Int) ((y * 2 ^ 8 : Nat) : Int) = ((x + 256 * y : Nat) : Int) := by
  show IntKind.u16.wrap ((BitVec.ofInt 16 (x : Int) ||| BitVec.ofInt 16 ((y * 2 ^ 8 : Nat) : Int)).toNat : Int) = _
  rw [BitVec.toNat_or, ofInt_nat (by simp only [Nat.reducePow]; omega), ofInt_nat (by simp only [Nat.reducePow]; omega)]
  have e : x ||| y * 2 ^ 8 = x + 256 * y := by
    rw [Nat.mul_comm, Nat.or_comm, ← Nat.two_pow_add_eq_or_of_lt (i := 8) hx]
    simp only [Nat.reducePow]
    omega
  rw [e, ← wr_eq]
  show ((x + 256 * y : Nat) : Int) % 65536 = _
  omega
theorem i16w {x y : Nat} (hx : x < 256) (hy : y < 256) : wr .i16 (bitsI .or .u16 (wr .u16 (x : Int)) (wr .u16 (wr .u16 (y : Int) * 2 ^ min (Int.toNat 8) IntKind.u16.bits))) = valOfU true (x + 256 * y) := by
  have e0 : (2 : Int) ^ min (Int.toNat 8) IntKind.u16.bits = 256 := by decide
  have e1 : wr .u16 (x : Int) = x := by show (x : Int) % 65536 = x; omega
  have e2 : wr .u16 (wr .u16 (y : Int) * 256) = ((y * 2 ^ 8 : Nat) : Int) := by
    show ((y : Int) % 65536 * 256) % 65536 = _
    simp only [Nat.reducePow]
    omega
  rw [e0, e1, e2, or_u16 hx hy, wr_eq, wrap_i16 _ (by omega)]
/-- what parts returns -/
structure PartR (W V : World) (res : Option (Nat × Nat × List UInt8)) (q : Value) (w' : World) : Prop where
  ex : ∃ (V' : World) (r : Sl), Sub V V' ∧ Rel W V [] V' w' ∧ (match res with
    | none => q = .tuple #[iv 0, iv 0, .slice none 0 0, .bool false]
    | some (rate, ch, b) => q = .tuple #[iv rate, iv ch, r.v, .bool true] ∧ SlF itC V' r (sndVals b 1 ch))
section
variable {V W : World}
theorem equal_strs (hV : Sub V W) {x y : Sl} {a b : List (List UInt8)} (hx : SlF strC V x a) (hy : SlF strC V y b) (ha : a.length ≤ 1099511627776) : Ret Try.prog 103 [x.v, y.v].toArray W fun v w' => v = .bool (decide (a = b)) ∧ Rel W V [] V w' := by
  have H := Rel.start hV
  have h1 := hx.len
  have h2 := hy.len
  refine cal_of_vc tabOk Try.func103 rfl (by kernel_rfl) 26 rfl (by simp) [0, 1, 4, 5, 10, 12, 13, 14, 24] ?_
  by_cases hl : a.length = b.length
  rotate_left
  · ((repeat ((conv => whnf); first | refine an ?_ | ((first | refine H.nwD ?_ | refine H.nw ?_); clear H; intro w _ H) | refine H.ce ?_ | refine H.db ?_ | refine ea ?_ | refine ol ?_ | (refine H.st ?_; (conv => whnf); clear H; intro w H) | refine cT ?_ | refine cF ?_ | refine cN ?_ | refine cM ?_ | refine H.lw ?_ | refine H.ll ?_)); (conv => whnf))
    rw [decide_eq_false (fun h => hl (by rw [h]))]
    exact ⟨rfl, H⟩
  ((repeat ((conv => whnf); first | refine an ?_ | ((first | refine H.nwD ?_ | refine H.nw ?_); clear H; intro w _ H) | refine H.ce ?_ | refine H.db ?_ | refine ea ?_ | refine ol ?_ | (refine H.st ?_; (conv => whnf); clear H; intro w H) | refine cT ?_ | refine cF ?_ | refine cN ?_ | refine cM ?_ | refine H.lw ?_ | refine H.ll ?_)); (conv => whnf))
  refine loop_inv (S := Nat) tabOk [0, 1, 10, 12] (fun k => [(13, iv k)]) (fun k w' => k ≤ a.length ∧ a.take k = b.take k ∧ Rel W V [] V w') (fun k _ => a.length - k) 0 ?_
  (conv => whnf)
  refine ⟨(by repeat (first | exact trivial | refine ⟨rfl, ?_⟩)), ⟨by omega, rfl, H⟩, ?_⟩
  clear H
  rintro k w ⟨hk, hz, H⟩
  by_cases hka : k < a.length
  rotate_left
  · rw [List.take_of_length_le (by omega), List.take_of_length_le (by omega)] at hz
    ((repeat ((conv => whnf); first | refine an ?_ | ((first | refine H.nwD ?_ | refine H.nw ?_); clear H; intro w _ H) | refine H.ce ?_ | refine H.db ?_ | refine ea ?_ | refine ol ?_ | (refine H.st ?_; (conv => whnf); clear H; intro w H) | refine cT ?_ | refine cF ?_ | refine cN ?_ | refine cM ?_ | refine H.lw ?_ | refine H.ll ?_)); (conv => whnf))
    rw [decide_eq_true hz]
    exact ⟨rfl, H⟩
  have hkb : k < b.length := by omega
  obtain ⟨hp, hc⟩ := hx.get1 (g := str) (fun _ => rfl) hka
  obtain ⟨hp', hc'⟩ := hy.get1 (g := str) (fun _ => rfl) hkb
  ((repeat ((conv => whnf); first | refine an ?_ | ((first | refine H.nwD ?_ | refine H.nw ?_); clear H; intro w _ H) | refine H.ce ?_ | refine H.db ?_ | refine ea ?_ | refine ol ?_ | (refine H.st ?_; (conv => whnf); clear H; intro w H) | refine cT ?_ | refine cF ?_ | refine cN ?_ | refine cM ?_ | refine H.lw ?_ | refine H.ll ?_)); (conv => whnf))
  ((first | refine draw_vc (id := 6) tabOk mixed [] [0, 1, 2, 3, 4, 5, 6, 7, 8] (by kernel_rfl) ?_); intro w hdw; replace H := Rel.ext H hdw.ext)
  ((repeat ((conv => whnf); first | refine an ?_ | ((first | refine H.nwD ?_ | refine H.nw ?_); clear H; intro w _ H) | refine H.ce ?_ | refine H.db ?_ | refine ea ?_ | refine ol ?_ | (refine H.st ?_; (conv => whnf); clear H; intro w H) | refine cT ?_ | refine cF ?_ | refine cN ?_ | refine cM ?_ | refine H.lw ?_ | refine H.ll ?_)); (conv => whnf))
  refine condG_ndec (fun h5 => ?_) (fun h5 => ?_)
  · ((repeat ((conv => whnf); first | refine an ?_ | ((first | refine H.nwD ?_ | refine H.nw ?_); clear H; intro w _ H) | refine H.ce ?_ | refine H.db ?_ | refine ea ?_ | refine ol ?_ | (refine H.st ?_; (conv => whnf); clear H; intro w H) | refine cT ?_ | refine cF ?_ | refine cN ?_ | refine cM ?_ | refine H.lw ?_ | refine H.ll ?_)); (conv => whnf))
    rw [decide_eq_false]
    · exact ⟨rfl, H.sx⟩
    · intro e
      subst e
      exact h5 rfl
  · ((repeat ((conv => whnf); first | refine an ?_ | ((first | refine H.nwD ?_ | refine H.nw ?_); clear H; intro w _ H) | refine H.ce ?_ | refine H.db ?_ | refine ea ?_ | refine ol ?_ | (refine H.st ?_; (conv => whnf); clear H; intro w H) | refine cT ?_ | refine cF ?_ | refine cN ?_ | refine cM ?_ | refine H.lw ?_ | refine H.ll ?_)); (conv => whnf))
    refine ⟨(by repeat (first | exact trivial | refine ⟨rfl, ?_⟩)), k + 1, (by repeat (first | exact trivial | refine ⟨rfl, ?_⟩)), ⟨by omega, ?_, H.sx⟩, by omega⟩
    rw [List.take_succ_eq_append_getElem hka, List.take_succ_eq_append_getElem hkb, hz, h5]
theorem isNum_spec (hV : Sub V W) (x : VH) (a b : Int) : Ret Try.prog 104 [valV x, iv a, iv b].toArray W fun q w' => q = .bool (decide (x.k = 1 ∧ a ≤ x.n ∧ x.n ≤ b)) ∧ Rel W V [] V w' := by
  have H := Rel.start hV
  obtain ⟨k, n, bs, ss, pl⟩ := x
  change Ret Try.prog 104 [.agg [iv k, iv n, bs.v, ss.v, pl.v].toArray, iv a, iv b].toArray W _
  refine cal_of_vc tabOk Try.func104 rfl (by kernel_rfl) 22 rfl (by simp) [0, 1, 2, 3, 6] ?_
  ((repeat ((conv => whnf); first | refine an ?_ | refine H.ce ?_ | refine H.db ?_ | refine ea ?_ | refine ol ?_ | (refine H.st ?_; (conv => whnf); clear H; intro w H) | refine cT ?_ | refine cF ?_ | refine cN ?_ | refine cM ?_ | refine H.lw ?_ | refine H.ll ?_)); (conv => whnf))
  ((first | refine Rel.nwD H ?_ | refine Rel.nw H ?_); clear H; intro w b3 H)
  by_cases h1 : k = 1
  rotate_left
  · rw [decide_eq_false (fun h => h1 h.1)]
    ((repeat ((conv => whnf); first | refine an ?_ | ((first | refine H.nwD ?_ | refine H.nw ?_); clear H; intro w _ H) | refine H.ce ?_ | refine H.db ?_ | refine ea ?_ | refine ol ?_ | (refine H.st ?_; (conv => whnf); clear H; intro w H) | refine cT ?_ | refine cF ?_ | refine cN ?_ | refine cM ?_ | refine H.lw ?_ | refine H.ll ?_)); (conv => whnf))
    exact H.sx
  by_cases h2 : a ≤ n
  rotate_left
  · rw [decide_eq_false (fun h => h2 h.2.1)]
    ((repeat ((conv => whnf); first | refine an ?_ | ((first | refine H.nwD ?_ | refine H.nw ?_); clear H; intro w _ H) | refine H.ce ?_ | refine H.db ?_ | refine ea ?_ | refine ol ?_ | (refine H.st ?_; (conv => whnf); clear H; intro w H) | refine cT ?_ | refine cF ?_ | refine cN ?_ | refine cM ?_ | refine H.lw ?_ | refine H.ll ?_)); (conv => whnf))
    exact H.sx
  by_cases h3 : n ≤ b
  rotate_left
  · rw [decide_eq_false (fun h => h3 h.2.2)]
    ((repeat ((conv => whnf); first | refine an ?_ | ((first | refine H.nwD ?_ | refine H.nw ?_); clear H; intro w _ H) | refine H.ce ?_ | refine H.db ?_ | refine ea ?_ | refine ol ?_ | (refine H.st ?_; (conv => whnf); clear H; intro w H) | refine cT ?_ | refine cF ?_ | refine cN ?_ | refine cM ?_ | refine H.lw ?_ | refine H.ll ?_)); (conv => whnf))
    rw [decide_eq_false h3]
    exact ⟨rfl, H.sx⟩
  rw [decide_eq_true (⟨h1, h2, h3⟩ : k = 1 ∧ a ≤ n ∧ n ≤ b)]
  ((repeat ((conv => whnf); first | refine an ?_ | ((first | refine H.nwD ?_ | refine H.nw ?_); clear H; intro w _ H) | refine H.ce ?_ | refine H.db ?_ | refine ea ?_ | refine ol ?_ | (refine H.st ?_; (conv => whnf); clear H; intro w H) | refine cT ?_ | refine cF ?_ | refine cN ?_ | refine cM ?_ | refine H.lw ?_ | refine H.ll ?_)); (conv => whnf))
  rw [decide_eq_true h3]
  exact ⟨rfl, H.sx⟩
set_option maxRecDepth 100000 in
set_option maxHeartbeats 1000000 in
theorem parts_spec (hV : Sub V W) {h : VH} {v : Val} (hv : ValAt V h v) (hB : VB 1048576 v) (hval : (vfault v).1 = 0) : Ret Try.prog 64 [valV h].toArray W (PartR W V (sndShape v)) := by
  have H := Rel.start hV
  have e1 := hv.kind
  have hns := hv.names
  have hpl := hv.plen
  have hnb := hB.names
  have hv0 := hv
  obtain ⟨k, n, bs, ss, pl⟩ := h
  dsimp only at e1 hns hpl
  subst e1
  change Ret Try.prog 64 [.agg [iv v.kind, iv n, bs.v, ss.v, pl.v].toArray].toArray W _
  refine cal_of_vc tabOk Try.func64 rfl (by kernel_rfl) 90 rfl (by simp) [0, 1, 2, 3, 4, 5, 6, 7, 8, 9, 10, 20, 57, 62] ?_
  ((repeat ((conv => whnf); first | refine an ?_ | refine H.ce ?_ | refine H.db ?_ | refine ea ?_ | refine ol ?_ | (refine H.st ?_; (conv => whnf); clear H; intro w H) | refine cT ?_ | refine cF ?_ | refine cN ?_ | refine cM ?_ | refine H.lw ?_ | refine H.ll ?_)); (conv => whnf))
  ((first | refine Rel.nwD H ?_ | refine Rel.nw H ?_); clear H; intro w b1 H)
  by_cases k4 : v.kind = 4
  rotate_left
  · rw [shape_not fun r c s _ h => k4 h.kind]
    ((repeat ((conv => whnf); first | refine an ?_ | ((first | refine H.nwD ?_ | refine H.nw ?_); clear H; intro w _ H) | refine H.ce ?_ | refine H.db ?_ | refine ea ?_ | refine ol ?_ | (refine H.st ?_; (conv => whnf); clear H; intro w H) | refine cT ?_ | refine cF ?_ | refine cN ?_ | refine cM ?_ | refine H.lw ?_ | refine H.ll ?_)); (conv => whnf))
    exact ⟨V, ⟨none, 0, 0⟩, Sub.refl _, Rel.back H.sx, rfl⟩
  obtain ⟨z1, z2, z3⟩ := valid_rec hval k4
  rw [k4] at H
  ((repeat ((conv => whnf); first | refine an ?_ | refine H.ce ?_ | refine H.db ?_ | refine ea ?_ | refine ol ?_ | (refine H.st ?_; (conv => whnf); clear H; intro w H) | refine cT ?_ | refine cF ?_ | refine cN ?_ | refine cM ?_ | refine H.lw ?_ | refine H.ll ?_)); (conv => whnf))
  ((first | refine Rel.nwD H ?_ | refine Rel.nw H ?_); clear H; intro w b17 H)
  have H0 : Rel W V [.blk b17 [str sRate, str sChannels, str sSamples] 9, .blk b1 [iv 4, iv n, bs.v, ss.v, pl.v] 27] V w := H
  obtain ⟨V2, hV2, H, hb17⟩ := H0.freezeBlk
  clear H0
  have hnm : SlF strC V2 ⟨some ⟨b17, 0, none⟩, 3, 3⟩ [sRate, sChannels, sSamples] := ⟨rfl, Nat.le_refl _, hb17.cells⟩
  ((repeat ((conv => whnf); first | refine an ?_ | ((first | refine H.nwD ?_ | refine H.nw ?_); clear H; intro w _ H) | refine H.ce ?_ | refine H.db ?_ | refine ea ?_ | refine ol ?_ | (refine H.st ?_; (conv => whnf); clear H; intro w H) | refine cT ?_ | refine cF ?_ | refine cN ?_ | refine cM ?_ | refine H.lw ?_ | refine H.ll ?_)); (conv => whnf))
  refine (equal_strs H.data (hns.up hV2) hnm (by omega)).use ?_
  rintro q w ⟨rfl, K⟩
  (have hKb := K.base; replace H := H.call0 K)
  by_cases hnn : v.names = [sRate, sChannels, sSamples]
  rotate_left
  · rw [shape_not fun r c s _ h => hnn h.names, decide_eq_false hnn]
    ((repeat ((conv => whnf); first | refine an ?_ | ((first | refine H.nwD ?_ | refine H.nw ?_); clear H; intro w _ H) | refine H.ce ?_ | refine H.db ?_ | refine ea ?_ | refine ol ?_ | (refine H.st ?_; (conv => whnf); clear H; intro w H) | refine cT ?_ | refine cF ?_ | refine cN ?_ | refine cM ?_ | refine H.lw ?_ | refine H.ll ?_)); (conv => whnf))
    exact ⟨V, ⟨none, 0, 0⟩, Sub.refl _, Rel.back H.sx, rfl⟩
  rw [decide_eq_true hnn]
  have h3 : v.parts.length = 3 := by rw [← z1, hnn]; rfl
  obtain ⟨r, c, s, hps⟩ := three h3
  have hsh : sndShape v = if ShapeOk v r c s then some (r.num.toNat, c.num.toNat, s.bytes) else none := by
    unfold sndShape
    rw [hps]
  obtain ⟨hp0, x0, hx0, a0, a1, a2, a3, a4⟩ := (hv0.up hV2).part5 (i := 0) (by omega)
  obtain ⟨_, x1, hx1, c0, c1, c2, c3, c4⟩ := (hv0.up hV2).part5 (i := 1) (by omega)
  obtain ⟨_, x2, hx2, d0, d1, d2, d3, d4⟩ := (hv0.up hV2).part5 (i := 2) (by omega)
  have g0 : v.parts[0] = r := by simp [hps]
  have g1 : v.parts[1] = c := by simp [hps]
  have g2 : v.parts[2] = s := by simp [hps]
  rw [g0] at hx0
  rw [g1] at hx1
  rw [g2] at hx2
  have k0 := hx0.kind
  have k1 := hx1.kind
  have k2 := hx2.kind
  have n0 := hx0.num
  have n1 := hx1.num
  have hbs := hx2.bytes
  have hbl := hbs.len
  have hsb : s.bytes.length ≤ 1048576 := (hB.part s (by rw [hps]; simp)).bytes
  have H0 : Rel W V [.blk b1 [iv 4, iv n, bs.v, ss.v, pl.v] 27] V2 w := H.sx
  obtain ⟨V3, hV3, H, hb1⟩ := H0.freezeBlk
  clear H0
  have o3 := hb1.cel (i := 4) rfl
  replace a0 := hV3.cell a0
  replace a1 := hV3.cell a1
  replace a2 := hV3.cell a2
  replace a3 := hV3.cell a3
  replace a4 := hV3.cell a4
  replace c0 := hV3.cell c0
  replace c1 := hV3.cell c1
  replace c2 := hV3.cell c2
  replace c3 := hV3.cell c3
  replace c4 := hV3.cell c4
  replace d0 := hV3.cell d0
  replace d1 := hV3.cell d1
  replace d2 := hV3.cell d2
  replace d3 := hV3.cell d3
  replace d4 := hV3.cell d4
  ((repeat ((conv => whnf); first | refine an ?_ | ((first | refine H.nwD ?_ | refine H.nw ?_); clear H; intro w _ H) | refine H.ce ?_ | refine H.db ?_ | refine ea ?_ | refine ol ?_ | (refine H.st ?_; (conv => whnf); clear H; intro w H) | refine cT ?_ | refine cF ?_ | refine cN ?_ | refine cM ?_ | refine H.lw ?_ | refine H.ll ?_)); (conv => whnf))
  refine SemC.cutN (fun q : Nat × Nat × Nat => [(1, .pointer (some ⟨b1, 0, none⟩)), (2, iv 0), (3, iv 0), (4, .slice none 0 0), (5, .bool false), (6, .pointer (some ⟨q.1, 0, none⟩)), (7, .pointer (some ⟨q.2.1, 0, none⟩)), (8, .pointer (some ⟨q.2.2, 0, none⟩))])
    (fun q w' => Rel W V [.blk q.1 (valC x0) 27, .blk q.2.1 (valC x1) 27, .blk q.2.2 (valC x2) 27] V3 w') ?_ ?_
  · ((first | refine draw_vcTX (id := 3) tabOk mixed (Kv V3) Kv.trans [12, 13, 14, 15, 16] [1, 3, 5, 7, 9, 11] [0, 1, 2, 3, 4, 5, 6, 7, 8, 9, 10, 11, 12, 13, 14, 15, 16, 17] [(12, []), (13, []), (14, []), (15, [12, 13, 14]), (16, [12, 13, 14, 15]), (17, [12, 13, 14, 15, 16])] (by kernel_rfl) ?_ | refine draw_vcTX (id := 10) tabOk mixed (Kv V3) Kv.trans [] [] [0, 1, 2, 3, 4, 5, 6, 7, 8, 9, 10, 11, 12, 13, 14, 15, 16, 17, 18, 19, 20] [(18, []), (19, [18])] (by kernel_rfl) ?_ | refine draw_vcTX (id := 11) tabOk mixed (Kv V3) Kv.trans [] [] [0, 1, 2, 3, 4, 5, 6, 7, 8] [] (by kernel_rfl) ?_); intro w hdw; replace H := Rel.ext H hdw.ext)
    repeat' (((repeat ((conv => whnf); first | refine an ?_ | refine H.ce ?_ | refine H.db ?_ | refine ea ?_ | refine ol ?_ | (refine H.st ?_; (conv => whnf); clear H; intro w H) | refine cT ?_ | refine cF ?_ | refine cN ?_ | refine cM ?_ | refine H.lw ?_ | refine H.ll ?_)); (conv => whnf)); (first | refine Kv.go H ?_ | refine Kv.go2 H (by assumption) ?_ | (refine And.intro (fun w1 hkp => ?_) ?_; focus ((first | have H := Kv.in H hkp | have H := Kv.in2 H (by assumption) hkp); ((repeat ((conv => whnf); first | refine an ?_ | refine H.ce ?_ | refine H.db ?_ | refine ea ?_ | refine ol ?_ | fail | refine cT ?_ | refine cF ?_ | refine cN ?_ | refine cM ?_ | refine H.lw ?_ | refine H.ll ?_)); (conv => whnf)); all_goals (first | exact ⟨rfl, rfl⟩ | exact rfl))) | refine And.intro ?_ ?_ | ((first | refine Rel.nwD H ?_ | refine Rel.nw H ?_); clear H; intro w _ H)))
    all_goals
      ((repeat ((conv => whnf); first | refine an ?_ | ((first | refine H.nwD ?_ | refine H.nw ?_); clear H; intro w _ H) | refine H.ce ?_ | refine H.db ?_ | refine ea ?_ | refine ol ?_ | (refine H.st ?_; (conv => whnf); clear H; intro w H) | refine cT ?_ | refine cF ?_ | refine cN ?_ | refine cM ?_ | refine H.lw ?_ | refine H.ll ?_)); (conv => whnf))
      exact ⟨(_, _, _), (by repeat (first | exact trivial | refine ⟨rfl, ?_⟩)), H.pick⟩
  clear H
  rintro ⟨b6, b7, b8⟩ w H
  dsimp only at H
  obtain ⟨xk0, xn0, xb0, xs0, xp0⟩ := x0
  obtain ⟨xk1, xn1, xb1, xs1, xp1⟩ := x1
  obtain ⟨xk2, xn2, xb2, xs2, xp2⟩ := x2
  dsimp only at k0 k1 k2 n0 n1 hbs hbl
  dsimp only [valC] at H
  ((repeat ((conv => whnf); first | refine an ?_ | ((first | refine H.nwD ?_ | refine H.nw ?_); clear H; intro w _ H) | refine H.ce ?_ | refine H.db ?_ | refine ea ?_ | refine ol ?_ | (refine H.st ?_; (conv => whnf); clear H; intro w H) | refine cT ?_ | refine cF ?_ | refine cN ?_ | refine cM ?_ | refine H.lw ?_ | refine H.ll ?_)); (conv => whnf))
  refine (isNum_spec H.data ⟨xk0, xn0, xb0, xs0, xp0⟩ 0 65535).use ?_
  rintro q w ⟨rfl, K⟩
  (have hKb := K.base; replace H := H.call0 K)
  by_cases q0 : xk0 = 1 ∧ 0 ≤ xn0 ∧ xn0 ≤ 65535
  rotate_left
  · rw [hsh, if_neg (fun h => q0 ⟨by rw [k0]; exact h.rk, by rw [n0]; exact h.r0⟩), decide_eq_false q0]
    ((repeat ((conv => whnf); first | refine an ?_ | ((first | refine H.nwD ?_ | refine H.nw ?_); clear H; intro w _ H) | refine H.ce ?_ | refine H.db ?_ | refine ea ?_ | refine ol ?_ | (refine H.st ?_; (conv => whnf); clear H; intro w H) | refine cT ?_ | refine cF ?_ | refine cN ?_ | refine cM ?_ | refine H.lw ?_ | refine H.ll ?_)); (conv => whnf))
    exact ⟨V, ⟨none, 0, 0⟩, Sub.refl _, Rel.back H.sx, rfl⟩
  rw [decide_eq_true q0]
  ((repeat ((conv => whnf); first | refine an ?_ | ((first | refine H.nwD ?_ | refine H.nw ?_); clear H; intro w _ H) | refine H.ce ?_ | refine H.db ?_ | refine ea ?_ | refine ol ?_ | (refine H.st ?_; (conv => whnf); clear H; intro w H) | refine cT ?_ | refine cF ?_ | refine cN ?_ | refine cM ?_ | refine H.lw ?_ | refine H.ll ?_)); (conv => whnf))
  refine (isNum_spec H.data ⟨xk1, xn1, xb1, xs1, xp1⟩ 1 2).use ?_
  rintro q w ⟨rfl, K⟩
  (have hKb := K.base; replace H := H.call0 K)
  by_cases q1 : xk1 = 1 ∧ 1 ≤ xn1 ∧ xn1 ≤ 2
  rotate_left
  · rw [hsh, if_neg (fun h => q1 ⟨by rw [k1]; exact h.ck, by rw [n1]; exact h.c0⟩), decide_eq_false q1]
    ((repeat ((conv => whnf); first | refine an ?_ | ((first | refine H.nwD ?_ | refine H.nw ?_); clear H; intro w _ H) | refine H.ce ?_ | refine H.db ?_ | refine ea ?_ | refine ol ?_ | (refine H.st ?_; (conv => whnf); clear H; intro w H) | refine cT ?_ | refine cF ?_ | refine cN ?_ | refine cM ?_ | refine H.lw ?_ | refine H.ll ?_)); (conv => whnf))
    exact ⟨V, ⟨none, 0, 0⟩, Sub.refl _, Rel.back H.sx, rfl⟩
  rw [decide_eq_true q1]
  obtain ⟨C, hC⟩ : ∃ C : Nat, xn1 = C := ⟨xn1.toNat, by omega⟩
  subst hC
  have hct : c.num.toNat = C := by rw [← n1]; simp
  by_cases q2 : xk2 = 2
  rotate_left
  · rw [hsh, if_neg (fun h => q2 (by rw [k2]; exact h.sk))]
    ((repeat ((conv => whnf); first | refine an ?_ | ((first | refine H.nwD ?_ | refine H.nw ?_); clear H; intro w _ H) | refine H.ce ?_ | refine H.db ?_ | refine ea ?_ | refine ol ?_ | (refine H.st ?_; (conv => whnf); clear H; intro w H) | refine cT ?_ | refine cF ?_ | refine cN ?_ | refine cM ?_ | refine H.lw ?_ | refine H.ll ?_)); (conv => whnf))
    exact ⟨V, ⟨none, 0, 0⟩, Sub.refl _, Rel.back H.sx, rfl⟩
  have hmod : ((xb2.len : Nat) : Int) % (2 * (C : Int)) = ((s.bytes.length % (2 * C) : Nat) : Int) := by rw [hbl]; push_cast; rfl
  have hmod2 : s.bytes.length % (2 * C) = s.bytes.length % 2 ∨ s.bytes.length % (2 * C) = s.bytes.length % 4 := by
    rcases (by omega : C = 1 ∨ C = 2) with rfl | rfl
    · left; rfl
    · right; rfl
  by_cases q3 : s.bytes.length % (2 * C) = 0
  rotate_left
  · rw [hsh, if_neg (fun h => q3 (by rw [← hct]; exact h.s0))]
    ((repeat ((conv => whnf); first | refine an ?_ | ((first | refine H.nwD ?_ | refine H.nw ?_); clear H; intro w _ H) | refine H.ce ?_ | refine H.db ?_ | refine ea ?_ | refine ol ?_ | (refine H.st ?_; (conv => whnf); clear H; intro w H) | refine cT ?_ | refine cF ?_ | refine cN ?_ | refine cM ?_ | refine H.lw ?_ | refine H.ll ?_)); (conv => whnf))
    exact ⟨V, ⟨none, 0, 0⟩, Sub.refl _, Rel.back H.sx, rfl⟩
  have hok : ShapeOk v r c s := ⟨k4, hnn, by omega, by omega, by omega, by omega, by omega, by rw [hct]; exact q3⟩
  rw [hsh, if_pos hok, hct]
  have hbr : SlF byC V3 xb2 s.bytes := hbs.up hV3
  have hrl := rawU_len true s.bytes
  rw [if_pos rfl] at hrl
  have hev : s.bytes.length % 2 = 0 := by omega
  ((repeat ((conv => whnf); first | refine an ?_ | ((first | refine H.nwD ?_ | refine H.nw ?_); clear H; intro w _ H) | refine H.ce ?_ | refine H.db ?_ | refine ea ?_ | refine ol ?_ | (refine H.st ?_; (conv => whnf); clear H; intro w H) | refine cT ?_ | refine cF ?_ | refine cN ?_ | refine cM ?_ | refine H.lw ?_ | refine H.ll ?_)); (conv => whnf))
  replace H := H.rowNil 3 1
  refine loop_inv (S := Nat × Sl) tabOk [0, 1, 2, 3, 5, 6, 7, 8, 9, 20, 57] (fun k => [(4, k.2.v), (10, iv ((k.1 * 2 : Nat) : Int))]) (fun k w' => k.1 * 2 ≤ s.bytes.length ∧ Rel W V [.row k.2 3 1 ((((rawU true s.bytes).take k.1).map (valOfU true)).flatMap itC), .blk b6 [iv xk0, iv xn0, xb0.v, xs0.v, xp0.v] 27, .blk b7 [iv xk1, iv C, xb1.v, xs1.v, xp1.v] 27, .blk b8 [iv xk2, iv xn2, xb2.v, xs2.v, xp2.v] 27] V3 w') (fun k _ => s.bytes.length - k.1 * 2) (0, ⟨none, 0, 0⟩) ?_
  (conv => whnf)
  refine ⟨(by repeat (first | exact trivial | refine ⟨rfl, ?_⟩)), ⟨by omega, H.sx⟩, ?_⟩
  clear H
  rintro ⟨k, r4⟩ w ⟨hk, H⟩
  dsimp only at hk H
  have hl4 := H.rowLen (i := 0) rfl (fun _ => rfl) (by decide)
  rw [List.length_map, List.length_take] at hl4
  by_cases hlt : k * 2 < s.bytes.length
  rotate_left
  · rw [List.take_of_length_le (by omega)] at H
    obtain ⟨V4, hV4, H, hr4⟩ := Rel.freezeF H (fun _ => rfl) (by decide)
    ((repeat ((conv => whnf); first | refine an ?_ | ((first | refine H.nwD ?_ | refine H.nw ?_); clear H; intro w _ H) | refine H.ce ?_ | refine H.db ?_ | refine ea ?_ | refine ol ?_ | (refine H.st ?_; (conv => whnf); clear H; intro w H) | refine cT ?_ | refine cF ?_ | refine cN ?_ | refine cM ?_ | refine H.lw ?_ | refine H.ll ?_)); (conv => whnf))
    ((first | refine draw_vc (id := 10) tabOk mixed [] [0, 1, 2, 3, 4, 5, 6, 7, 8, 9, 10, 11, 12, 13, 14, 15, 16, 17, 18, 19, 20] (by kernel_rfl) ?_ | refine draw_vc (id := 11) tabOk mixed [] [0, 1, 2, 3, 4, 5, 6, 7, 8] (by kernel_rfl) ?_); intro w hdw; replace H := Rel.ext H hdw.ext)
    ((repeat ((conv => whnf); first | refine an ?_ | ((first | refine H.nwD ?_ | refine H.nw ?_); clear H; intro w _ H) | refine H.ce ?_ | refine H.db ?_ | refine ea ?_ | refine ol ?_ | (refine H.st ?_; (conv => whnf); clear H; intro w H) | refine cT ?_ | refine cF ?_ | refine cN ?_ | refine cM ?_ | refine H.lw ?_ | refine H.ll ?_)); (conv => whnf))
    refine ⟨V4, r4, (hV2.trans hV3).trans hV4, H.sx, ?_, ?_⟩
    · rw [show (r.num.toNat : Int) = xn0 by omega]
    · rw [sndVals_one]
      exact hr4
  obtain ⟨p0, u0⟩ := hbr.cell8 (i := k * 2) (by omega)
  obtain ⟨_, u1⟩ := hbr.cell8 (i := k * 2 + 1) (by omega)
  have g0 : at8 s.bytes (k * 2) < 256 := UInt8.toNat_lt _
  have g1 : at8 s.bytes (k * 2 + 1) < 256 := UInt8.toNat_lt _
  have hlt2 : k < (rawU true s.bytes).length := by omega
  have hsu := snoc_take hlt2
  have hrw := rawU_wide (l := s.bytes) (k := k) (by omega)
  rw [List.getElem?_eq_getElem hlt2, Nat.mul_comm 2 k] at hrw
  replace hrw := Option.some.inj hrw
  rw [hrw] at hsu
  ((repeat ((conv => whnf); first | refine an ?_ | ((first | refine H.nwD ?_ | refine H.nw ?_); clear H; intro w _ H) | refine H.ce ?_ | refine H.db ?_ | refine ea ?_ | refine ol ?_ | (refine H.st ?_; (conv => whnf); clear H; intro w H) | refine cT ?_ | refine cF ?_ | refine cN ?_ | refine cM ?_ | refine H.lw ?_ | refine H.ll ?_)); (conv => whnf))
  ((first | refine draw_vc (id := 10) tabOk mixed [] [0, 1, 2, 3, 4, 5, 6, 7, 8, 9, 10, 11, 12, 13, 14, 15, 16, 17, 18, 19, 20] (by kernel_rfl) ?_ | refine draw_vc (id := 11) tabOk mixed [] [0, 1, 2, 3, 4, 5, 6, 7, 8] (by kernel_rfl) ?_); intro w hdw; replace H := Rel.ext H hdw.ext)
  ((repeat ((conv => whnf); first | refine an ?_ | ((first | refine H.nwD ?_ | refine H.nw ?_); clear H; intro w _ H) | refine H.ce ?_ | refine H.db ?_ | refine ea ?_ | refine ol ?_ | (refine H.st ?_; (conv => whnf); clear H; intro w H) | refine cT ?_ | refine cF ?_ | refine cN ?_ | refine cM ?_ | refine H.lw ?_ | refine H.ll ?_)); (conv => whnf))
  rw [i16w g0 g1]
  have hvr : -32768 ≤ valOfU true (at8 s.bytes (k * 2) + 256 * at8 s.bytes (k * 2 + 1)) ∧ valOfU true (at8 s.bytes (k * 2) + 256 * at8 s.bytes (k * 2 + 1)) ≤ 32767 := by
    unfold valOfU
    simp only [if_true]
    split <;> omega
  refine And.intro ⟨by omega, by omega⟩ ?_
  ((repeat ((conv => whnf); first | refine an ?_ | ((first | refine H.nwD ?_ | refine H.nw ?_); clear H; intro w _ H) | refine H.ce ?_ | refine H.db ?_ | refine ea ?_ | refine ol ?_ | (refine H.st ?_; (conv => whnf); clear H; intro w H) | refine cT ?_ | refine cF ?_ | refine cN ?_ | refine cM ?_ | refine H.lw ?_ | refine H.ll ?_)); (conv => whnf))
  refine Rel.app1_0 (f := itC) (l := ((rawU true s.bytes).take k).map (valOfU true)) (x := valOfU true (at8 s.bytes (k * 2) + 256 * at8 s.bytes (k * 2 + 1))) tabOk rfl rfl rfl rfl rfl (by decide) (fun _ => rfl) (List.all_eq_true.1 rfl) H (by rw [List.length_map, List.length_take]; simp; omega) (by rw [List.length_map, List.length_take]; omega) ?_
  clear H
  intro rn w H
  ((repeat ((conv => whnf); first | refine an ?_ | ((first | refine H.nwD ?_ | refine H.nw ?_); clear H; intro w _ H) | refine H.ce ?_ | refine H.db ?_ | refine ea ?_ | refine ol ?_ | (refine H.st ?_; (conv => whnf); clear H; intro w H) | refine cT ?_ | refine cF ?_ | refine cN ?_ | refine cM ?_ | refine H.lw ?_ | refine H.ll ?_)); (conv => whnf))
  refine ⟨(by repeat (first | exact trivial | refine ⟨rfl, ?_⟩)), (k + 1, rn), ⟨rfl, congrArg (fun z => some (Value.int .i64 z)) (by dsimp only; omega), trivial⟩, ⟨by dsimp only; omega, ?_⟩, by dsimp only; omega⟩
  dsimp only
  rw [hsu, List.map_append, List.map_cons, List.map_nil]
  exact H.sx
end
end Go.Proofs.Ytjfcpnlacodjjaa
