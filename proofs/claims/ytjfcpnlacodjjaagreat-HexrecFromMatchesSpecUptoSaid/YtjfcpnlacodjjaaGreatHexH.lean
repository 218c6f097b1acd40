/-
  Files of hexadecimal records: To.
-/
import Derived.Test.YtjfcpnlacodjjaaGreatHexG
import Derived.Test.YtjfcpnlacodjjaaGreatHexP
import Derived.Test.YtjfcpnlacodjjaaGreatValE
namespace Go.Proofs.YtjfcpnlacodjjaaGreat
open Go Go.RowKit

section
variable {V W : World}
set_option maxRecDepth 100000 in
set_option maxHeartbeats 2000000 in
theorem to_hex (hV : Sub V W) (hM : MaxT V) {s : Sl} {l : List UInt8} (hs : Byt V s l) (hl : l.length ≤ 1099511627776) : Ret Tryz.prog 11 [s.v].toArray W (ToR W V (toRes (hexTo l) l.length)) := by
  have H := Rel.start hV
  have hlen := hs.len
  refine cal_of_vc tabOk Tryz.func11 rfl (by kernel_rfl) 38 rfl (by simp) [0, 2, 3, 4, 5, 6, 7, 8, 11, 14, 15, 23, 30] ?_
  (first | (refine H.wh ?_; clear H; intros; rename_i w H; constructor) | refine wk ?_)
  ((first | refine Rel.nwD H ?_ | refine Rel.nw H ?_); clear H; intro w b2 H)
  (first | (refine H.wh ?_; clear H; intros; rename_i w H; constructor) | refine wk ?_)
  ((first | refine Rel.nwD H ?_ | refine Rel.nw H ?_); clear H; intro w b4 H)
  by_cases hbig : 1000 < l.length
  · have e : toRes (hexTo l) l.length = ⟨zeroV, [], 3, -1⟩ := by unfold toRes; rw [if_pos hbig]
    rw [e]
    (first | (refine H.wg ?_; clear H; intros; rename_i w H; constructor) | refine wk ?_)
    refine (fault_hex H.data 3 (-1)).use ?_
    rintro v w ⟨rfl, K⟩
    (have hKb := K.base; replace H := H.call0 K)
    (first | (refine H.wg ?_; clear H; intros; rename_i w H; constructor) | refine wk ?_)
    exact ⟨V, zeroH, ⟨none, 0, 0⟩, Sub.refl _, H.sx, rfl, valAt_zero _, SlF.nil _ _⟩
  (first | (refine H.wg ?_; clear H; intros; rename_i w H; constructor) | refine wk ?_)
  refine loop_inv (S := Nat) tabOk [0, 2, 4, 11] (fun f => [(14, iv f)]) (fun f w' => f ≤ 4 ∧ (∀ g, g < f → hexOne g l = none) ∧ ∃ V2, Sub V V2 ∧ Rel W V [.blk b4 [iv 0, iv 0] 29, .blk b2 (valC zeroH) 26] V2 w') (fun f _ => 4 - f) 0 ?_
  (conv => whnf)
  refine ⟨(by repeat (first | exact trivial | refine ⟨rfl, ?_⟩)), ⟨by omega, fun g hg => by omega, V, Sub.refl _, H⟩, ?_⟩
  clear H
  rintro f w ⟨hf4, hno, V2, hV2, H⟩
  by_cases hf : f < 4
  rotate_left
  · obtain rfl : f = 4 := by omega
    have e : toRes (hexTo l) l.length = ⟨zeroV, [], 21, -1⟩ := by unfold toRes; rw [if_neg hbig, hexTo_no hno]
    rw [e]
    (first | (refine H.wg ?_; clear H; intros; rename_i w H; constructor) | refine wk ?_)
    refine (fault_hex H.data 21 (-1)).use ?_
    rintro v w ⟨rfl, K⟩
    (have hKb := K.base; replace H := H.call0 K)
    (first | (refine H.wg ?_; clear H; intros; rename_i w H; constructor) | refine wk ?_)
    exact ⟨V2, zeroH, ⟨none, 0, 0⟩, hV2, H.sx, rfl, valAt_zero _, SlF.nil _ _⟩
  (first | (refine H.wg ?_; clear H; intros; rename_i w H; constructor) | refine wk ?_)
  refine (read_hex H.data (hM.up hV2) (hs.up hV2) (by omega) hf).use ?_
  rintro v w ⟨V3, sg, sz, c, k, hV3, K, rfl, hres⟩
  (have hKb := K.base; replace H := H.call0 K)
  (first | (refine H.wh ?_; clear H; intros; rename_i w H; constructor) | refine wk ?_)
  ((first | refine Rel.nwD H ?_ | refine Rel.nw H ?_); clear H; intro w b6 H)
  have hV23 := hV2.trans hV3
  cases hr : hexRead f l with
  | none =>
    rw [hr] at hres
    obtain rfl := hres
    have hone : hexOne f l = none := by unfold hexOne; rw [hr]
    (first | (refine H.wg ?_; clear H; intros; rename_i w H; constructor) | refine wk ?_)
    exact ⟨(by repeat (first | exact trivial | refine ⟨rfl, ?_⟩)), f + 1, (by repeat (first | exact trivial | refine ⟨rfl, ?_⟩)), ⟨by omega, fun g hg => by
      by_cases e : g = f
      · rw [e]; exact hone
      · exact hno g (by omega), V3, hV23, H.sx⟩, by omega⟩
  | some p =>
    obtain ⟨S, Z⟩ := p
    rw [hr] at hres
    obtain ⟨rfl, rfl, hsg, hsz⟩ := hres
    have F := hexRead_some hr
    have hok := F.seg
    have hZl := F.len
    obtain ⟨init, _, i2, i3⟩ := F.ex
    have hSl := wrAll_len hok i2
    have hB := vb_hex hok (by omega)
    have hd : ∀ x ∈ S, x.2.length ≤ 65536 := fun x hx => by have := hok x hx; omega
    (first | (refine H.wg ?_; clear H; intros; rename_i w H; constructor) | refine wk ?_)
    refine (plain_hex H.data hsg (by omega)).use ?_
    rintro v w ⟨V4, h, hV4, K, rfl, hv⟩
    (have hKb := K.base; replace H := H.call0 K)
    (first | (refine H.wh ?_; clear H; intros; rename_i w H; constructor) | refine wk ?_)
    ((first | refine Rel.nwD H ?_ | refine Rel.nw H ?_); clear H; intro w b8 H)
    (first | (refine H.wg ?_; clear H; intros; rename_i w H; constructor) | refine wk ?_)
    refine (validate_value H.data hv hB).use ?_
    rintro q w ⟨rfl, K⟩
    (have hKb := K.base; replace H := H.call0 K)
    by_cases hvf : (vfault (hexVal S)).1 = 0
    rotate_left
    · have hone : hexOne f l = none := by unfold hexOne; rw [hr]; simp only; rw [if_neg hvf]
      (first | (refine H.wg ?_; clear H; intros; rename_i w H; constructor) | refine wk ?_)
      exact ⟨(by repeat (first | exact trivial | refine ⟨rfl, ?_⟩)), f + 1, (by repeat (first | exact trivial | refine ⟨rfl, ?_⟩)), ⟨by omega, fun g hg => by
        by_cases e : g = f
        · rw [e]; exact hone
        · exact hno g (by omega), V4, hV23.trans hV4, H.sx⟩, by omega⟩
    have hone : hexOne f l = some (hexVal S, resB f (szOf S Z)) := by unfold hexOne; rw [hr]; simp only; rw [if_pos hvf]
    have e : toRes (hexTo l) l.length = ⟨hexVal S, resB f (szOf S Z), 0, 0⟩ := by unfold toRes; rw [if_neg hbig, hexTo_of hf hno hone]
    rw [e, vfault_zz hvf]
    (first | (refine H.wg ?_; clear H; intros; rename_i w H; constructor) | refine wk ?_)
    ((first | refine draw_vc (id := 10) tabOk mixed [2] [0, 1, 3, 2, 4, 5, 6] (by kernel_rfl) ?_); intro w hdw; replace H := Rel.ext H hdw.ext)
    (first | (refine H.wg ?_; clear H; intros; rename_i w H; constructor) | refine wk ?_)
    refine (residue_hex H.data hf (hsg.up hV4) (hsz.up hV4) (by omega) (by omega) (fun n hn => (F.sz n hn).2) hd).use ?_
    rintro v w ⟨V5, r2, hV5, K, rfl, hr2⟩
    (have hKb := K.base; replace H := H.call0 K)
    (first | (refine H.wg ?_; clear H; intros; rename_i w H; constructor) | refine wk ?_)
    exact ⟨V5, _, r2, (hV23.trans hV4).trans hV5, H.sx, rfl, hv.up hV5, hr2⟩
end
end Go.Proofs.YtjfcpnlacodjjaaGreat
