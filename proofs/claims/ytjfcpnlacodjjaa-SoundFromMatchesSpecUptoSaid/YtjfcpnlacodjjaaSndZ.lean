/-
  Sound files, the reference: SoundShape.
-/
import Derived.Test.YtjfcpnlacodjjaaSndM
namespace Go.Proofs.Ytjfcpnlacodjjaa
open Go Go.RowKit

section
variable {V W : World}
set_option maxRecDepth 100000 in
set_option maxHeartbeats 1000000 in
theorem soundShape_ref (hV : Sub V W) {h : VH} {v : Val} (hv : ValAt V h v) (hB : VB 1048576 v) (hval : (vfault v).1 = 0) : Ret Try.prog 32 [valV h].toArray W fun q w' => q = .bool (sndShape v).isSome ∧ Rel W V [] V w' := by
  have H := Rel.start hV
  have e1 := hv.kind
  have hns := hv.names
  have hpl := hv.plen
  have hnb := hB.names
  have hv0 := hv
  obtain ⟨k, n, bs, ss, pl⟩ := h
  dsimp only at e1 hns hpl
  subst e1
  change Ret Try.prog 32 [.agg [iv v.kind, iv n, bs.v, ss.v, pl.v].toArray].toArray W _
  refine cal_of_vc tabOk Try.func32 rfl (by kernel_rfl) 61 rfl (by simp) [0, 1, 2, 3, 4, 5, 15, 52] ?_
  ((repeat ((conv => whnf); first | refine an ?_ | refine H.ce ?_ | refine H.db ?_ | refine ea ?_ | refine ol ?_ | (refine H.st ?_; (conv => whnf); clear H; intro w H) | refine cT ?_ | refine cF ?_ | refine cN ?_ | refine cM ?_ | refine H.lw ?_ | refine H.ll ?_)); (conv => whnf))
  ((first | refine Rel.nwD H ?_ | refine Rel.nw H ?_); clear H; intro w b1 H)
  by_cases k4 : v.kind = 4
  rotate_left
  · rw [shape_not fun r c s _ h => k4 h.kind]
    ((repeat ((conv => whnf); first | refine an ?_ | ((first | refine H.nwD ?_ | refine H.nw ?_); clear H; intro w _ H) | refine H.ce ?_ | refine H.db ?_ | refine ea ?_ | refine ol ?_ | (refine H.st ?_; (conv => whnf); clear H; intro w H) | refine cT ?_ | refine cF ?_ | refine cN ?_ | refine cM ?_ | refine H.lw ?_ | refine H.ll ?_)); (conv => whnf))
    exact Rel.back H.sx
  obtain ⟨z1, z2, z3⟩ := valid_rec hval k4
  rw [k4] at H
  ((repeat ((conv => whnf); first | refine an ?_ | refine H.ce ?_ | refine H.db ?_ | refine ea ?_ | refine ol ?_ | (refine H.st ?_; (conv => whnf); clear H; intro w H) | refine cT ?_ | refine cF ?_ | refine cN ?_ | refine cM ?_ | refine H.lw ?_ | refine H.ll ?_)); (conv => whnf))
  ((first | refine Rel.nwD H ?_ | refine Rel.nw H ?_); clear H; intro w b17 H)
  have H0 : Rel W V [.blk b17 [str sRate, str sChannels, str sSamples] 9, .blk b1 [iv 4, iv n, bs.v, ss.v, pl.v] 27] V w := H
  obtain ⟨V2, hV2, H, hb17⟩ := H0.freezeBlk
  clear H0
  have hnm : SlF strC V2 ⟨some ⟨b17, 0, none⟩, 3, 3⟩ [sRate, sChannels, sSamples] := ⟨rfl, Nat.le_refl _, hb17.cells⟩
  ((repeat ((conv => whnf); first | refine an ?_ | ((first | refine H.nwD ?_ | refine H.nw ?_); clear H; intro w _ H) | refine H.ce ?_ | refine H.db ?_ | refine ea ?_ | refine ol ?_ | (refine H.st ?_; (conv => whnf); clear H; intro w H) | refine cT ?_ | refine cF ?_ | refine cN ?_ | refine cM ?_ | refine H.lw ?_ | refine H.ll ?_)); (conv => whnf))
  refine (strings_ref H.data (hns.up hV2) hnm (by omega)).use ?_
  rintro q w ⟨rfl, K⟩
  (have hKb := K.base; replace H := H.call0 K)
  by_cases hnn : v.names = [sRate, sChannels, sSamples]
  rotate_left
  · rw [shape_not fun r c s _ h => hnn h.names, decide_eq_false hnn]
    ((repeat ((conv => whnf); first | refine an ?_ | ((first | refine H.nwD ?_ | refine H.nw ?_); clear H; intro w _ H) | refine H.ce ?_ | refine H.db ?_ | refine ea ?_ | refine ol ?_ | (refine H.st ?_; (conv => whnf); clear H; intro w H) | refine cT ?_ | refine cF ?_ | refine cN ?_ | refine cM ?_ | refine H.lw ?_ | refine H.ll ?_)); (conv => whnf))
    exact Rel.back H.sx
  rw [decide_eq_true hnn]
  have h3 : v.parts.length = 3 := by rw [← z1, hnn]; rfl
  obtain ⟨r, c, s, hps⟩ := three h3
  have hsh : sndShape v = if ShapeOk v r c s then some (r.num.toNat, c.num.toNat, s.bytes) else none := by
    unfold sndShape
    rw [hps]
  have H0 : Rel W V [.blk b1 [iv 4, iv n, bs.v, ss.v, pl.v] 27] V2 w := H.sx
  obtain ⟨V3, hV3, H, hb1⟩ := H0.freezeBlk
  clear H0
  have o3 := hb1.cel (i := 4) rfl
  obtain ⟨hp0, x0, hx0, a0, a1, a2, a3, a4⟩ := (hv0.up (hV2.trans hV3)).part5 (i := 0) (by omega)
  obtain ⟨_, x1, hx1, c0, c1, c2, c3, c4⟩ := (hv0.up (hV2.trans hV3)).part5 (i := 1) (by omega)
  obtain ⟨_, x2, hx2, d0, d1, d2, d3, d4⟩ := (hv0.up (hV2.trans hV3)).part5 (i := 2) (by omega)
  have g0 : v.parts[0] = r := by simp [hps]
  have g1 : v.parts[1] = c := by simp [hps]
  have g2 : v.parts[2] = s := by simp [hps]
  rw [g0] at hx0
  rw [g1] at hx1
  rw [g2] at hx2
  have k0 := hx0.kind
  have k1 := hx1.kind
  have k2 := hx2.kind
  have n0 := hx0.num
  have n1 := hx1.num
  have hbl := hx2.bytes.len
  have hsb : s.bytes.length ≤ 1048576 := (hB.part s (by rw [hps]; simp)).bytes
  ((repeat ((conv => whnf); first | refine an ?_ | ((first | refine H.nwD ?_ | refine H.nw ?_); clear H; intro w _ H) | refine H.ce ?_ | refine H.db ?_ | refine ea ?_ | refine ol ?_ | (refine H.st ?_; (conv => whnf); clear H; intro w H) | refine cT ?_ | refine cF ?_ | refine cN ?_ | refine cM ?_ | refine H.lw ?_ | refine H.ll ?_)); (conv => whnf))
  refine SemC.cutN (fun q : Nat × Nat × Nat => [(1, .pointer (some ⟨b1, 0, none⟩)), (2, .bool false), (3, .pointer (some ⟨q.1, 0, none⟩)), (4, .pointer (some ⟨q.2.1, 0, none⟩)), (5, .pointer (some ⟨q.2.2, 0, none⟩))])
    (fun q w' => Rel W V [.blk q.1 (valC x0) 27, .blk q.2.1 (valC x1) 27, .blk q.2.2 (valC x2) 27] V3 w') ?_ ?_
  · ((first | refine draw_vcTX (id := 3) tabOk mixed (Kv V3) Kv.trans [12, 13, 14, 15, 16] [1, 3, 5, 7, 9, 11] [0, 1, 2, 3, 4, 5, 6, 7, 8, 9, 10, 11, 12, 13, 14, 15, 16, 17] [(12, []), (13, []), (14, []), (15, [12, 13, 14]), (16, [12, 13, 14, 15]), (17, [12, 13, 14, 15, 16])] (by kernel_rfl) ?_); intro w hdw; replace H := Rel.ext H hdw.ext)
    repeat' (((repeat ((conv => whnf); first | refine an ?_ | refine H.ce ?_ | refine H.db ?_ | refine ea ?_ | refine ol ?_ | (refine H.st ?_; (conv => whnf); clear H; intro w H) | refine cT ?_ | refine cF ?_ | refine cN ?_ | refine cM ?_ | refine H.lw ?_ | refine H.ll ?_)); (conv => whnf)); (first | refine Kv.go H ?_ | refine Kv.go2 H (by assumption) ?_ | (refine And.intro (fun w1 hkp => ?_) ?_; focus ((first | have H := Kv.in H hkp | have H := Kv.in2 H (by assumption) hkp); ((repeat ((conv => whnf); first | refine an ?_ | refine H.ce ?_ | refine H.db ?_ | refine ea ?_ | refine ol ?_ | fail | refine cT ?_ | refine cF ?_ | refine cN ?_ | refine cM ?_ | refine H.lw ?_ | refine H.ll ?_)); (conv => whnf)); all_goals (first | exact ⟨rfl, rfl⟩ | exact rfl))) | refine And.intro ?_ ?_ | ((first | refine Rel.nwD H ?_ | refine Rel.nw H ?_); clear H; intro w _ H)))
    all_goals
      ((repeat ((conv => whnf); first | refine an ?_ | ((first | refine H.nwD ?_ | refine H.nw ?_); clear H; intro w _ H) | refine H.ce ?_ | refine H.db ?_ | refine ea ?_ | refine ol ?_ | (refine H.st ?_; (conv => whnf); clear H; intro w H) | refine cT ?_ | refine cF ?_ | refine cN ?_ | refine cM ?_ | refine H.lw ?_ | refine H.ll ?_)); (conv => whnf))
      exact ⟨(_, _, _), (by repeat (first | exact trivial | refine ⟨rfl, ?_⟩)), H.pick⟩
  clear H
  rintro ⟨b3, b4, b5⟩ w H
  dsimp only at H
  obtain ⟨xk0, xn0, xb0, xs0, xp0⟩ := x0
  obtain ⟨xk1, xn1, xb1, xs1, xp1⟩ := x1
  obtain ⟨xk2, xn2, xb2, xs2, xp2⟩ := x2
  dsimp only at k0 k1 k2 n0 n1 hbl
  dsimp only [valC] at H
  by_cases q0 : xk0 = 1
  rotate_left
  · rw [hsh, if_neg (fun h => q0 (by rw [k0]; exact h.rk))]
    ((repeat ((conv => whnf); first | refine an ?_ | ((first | refine H.nwD ?_ | refine H.nw ?_); clear H; intro w _ H) | refine H.ce ?_ | refine H.db ?_ | refine ea ?_ | refine ol ?_ | (refine H.st ?_; (conv => whnf); clear H; intro w H) | refine cT ?_ | refine cF ?_ | refine cN ?_ | refine cM ?_ | refine H.lw ?_ | refine H.ll ?_)); (conv => whnf))
    exact Rel.back H.sx
  by_cases q1 : xk1 = 1
  rotate_left
  · rw [hsh, if_neg (fun h => q1 (by rw [k1]; exact h.ck))]
    ((repeat ((conv => whnf); first | refine an ?_ | ((first | refine H.nwD ?_ | refine H.nw ?_); clear H; intro w _ H) | refine H.ce ?_ | refine H.db ?_ | refine ea ?_ | refine ol ?_ | (refine H.st ?_; (conv => whnf); clear H; intro w H) | refine cT ?_ | refine cF ?_ | refine cN ?_ | refine cM ?_ | refine H.lw ?_ | refine H.ll ?_)); (conv => whnf))
    exact Rel.back H.sx
  by_cases q2 : xk2 = 2
  rotate_left
  · rw [hsh, if_neg (fun h => q2 (by rw [k2]; exact h.sk))]
    ((repeat ((conv => whnf); first | refine an ?_ | ((first | refine H.nwD ?_ | refine H.nw ?_); clear H; intro w _ H) | refine H.ce ?_ | refine H.db ?_ | refine ea ?_ | refine ol ?_ | (refine H.st ?_; (conv => whnf); clear H; intro w H) | refine cT ?_ | refine cF ?_ | refine cN ?_ | refine cM ?_ | refine H.lw ?_ | refine H.ll ?_)); (conv => whnf))
    exact Rel.back H.sx
  ((repeat ((conv => whnf); first | refine an ?_ | ((first | refine H.nwD ?_ | refine H.nw ?_); clear H; intro w _ H) | refine H.ce ?_ | refine H.db ?_ | refine ea ?_ | refine ol ?_ | (refine H.st ?_; (conv => whnf); clear H; intro w H) | refine cT ?_ | refine cF ?_ | refine cN ?_ | refine cM ?_ | refine H.lw ?_ | refine H.ll ?_)); (conv => whnf))
  refine (in_ref xn0 0 65535 w).use ?_
  rintro q w' ⟨rfl, rfl⟩
  by_cases q3 : 0 ≤ xn0 ∧ xn0 ≤ 65535
  rotate_left
  · rw [hsh, if_neg (fun h => q3 (by rw [n0]; exact h.r0)), decide_eq_false q3]
    ((repeat ((conv => whnf); first | refine an ?_ | ((first | refine H.nwD ?_ | refine H.nw ?_); clear H; intro w _ H) | refine H.ce ?_ | refine H.db ?_ | refine ea ?_ | refine ol ?_ | (refine H.st ?_; (conv => whnf); clear H; intro w H) | refine cT ?_ | refine cF ?_ | refine cN ?_ | refine cM ?_ | refine H.lw ?_ | refine H.ll ?_)); (conv => whnf))
    exact Rel.back H.sx
  rw [decide_eq_true q3]
  ((repeat ((conv => whnf); first | refine an ?_ | ((first | refine H.nwD ?_ | refine H.nw ?_); clear H; intro w _ H) | refine H.ce ?_ | refine H.db ?_ | refine ea ?_ | refine ol ?_ | (refine H.st ?_; (conv => whnf); clear H; intro w H) | refine cT ?_ | refine cF ?_ | refine cN ?_ | refine cM ?_ | refine H.lw ?_ | refine H.ll ?_)); (conv => whnf))
  refine (in_ref xn1 1 2 w).use ?_
  rintro q w' ⟨rfl, rfl⟩
  by_cases q4 : 1 ≤ xn1 ∧ xn1 ≤ 2
  rotate_left
  · rw [hsh, if_neg (fun h => q4 (by rw [n1]; exact h.c0)), decide_eq_false q4]
    ((repeat ((conv => whnf); first | refine an ?_ | ((first | refine H.nwD ?_ | refine H.nw ?_); clear H; intro w _ H) | refine H.ce ?_ | refine H.db ?_ | refine ea ?_ | refine ol ?_ | (refine H.st ?_; (conv => whnf); clear H; intro w H) | refine cT ?_ | refine cF ?_ | refine cN ?_ | refine cM ?_ | refine H.lw ?_ | refine H.ll ?_)); (conv => whnf))
    exact Rel.back H.sx
  rw [decide_eq_true q4]
  obtain ⟨C, hC⟩ : ∃ C : Nat, xn1 = C := ⟨xn1.toNat, by omega⟩
  subst hC
  have hct : c.num.toNat = C := by rw [← n1]; simp
  have hmod : ((xb2.len : Nat) : Int) % (2 * (C : Int)) = ((s.bytes.length % (2 * C) : Nat) : Int) := by rw [hbl]; push_cast; rfl
  have hiff : ShapeOk v r c s ↔ s.bytes.length % (2 * C) = 0 := ⟨fun h => by rw [← hct]; exact h.s0, fun h => ⟨k4, hnn, by omega, by omega, by omega, by omega, by omega, by rw [hct]; exact h⟩⟩
  ((repeat ((conv => whnf); first | refine an ?_ | ((first | refine H.nwD ?_ | refine H.nw ?_); clear H; intro w _ H) | refine H.ce ?_ | refine H.db ?_ | refine ea ?_ | refine ol ?_ | (refine H.st ?_; (conv => whnf); clear H; intro w H) | refine cT ?_ | refine cF ?_ | refine cN ?_ | refine cM ?_ | refine H.lw ?_ | refine H.ll ?_)); (conv => whnf))
  refine ⟨?_, Rel.back H.sx⟩
  rw [hsh]
  by_cases hok : s.bytes.length % (2 * C) = 0
  · rw [if_pos (hiff.2 hok)]
    exact congrArg Value.bool (decide_eq_true (by rw [hmod, hok]; rfl))
  · rw [if_neg (fun h => hok (hiff.1 h))]
    exact congrArg Value.bool (decide_eq_false (by rw [hmod]; omega))
end
end Go.Proofs.Ytjfcpnlacodjjaa
