/-
  Outside.
-/
import Derived.Test.YtlhgmigoncmcaaaGreatCatI
namespace Go.Proofs.YtlhgmigoncmcaaaGreat
open Go Go.RowKit

def outAdd (l : List Ent) (acc : List RefD) (r : RefD) : List RefD := if place l r = none ∧ r ∉ acc then acc ++ [r] else acc
def outAcc (l : List Ent) (acc rs : List RefD) : List RefD := rs.foldl (outAdd l) acc
def outL (l : List Ent) (k : Nat) : List RefD := (l.take k).foldl (fun acc e => outAcc l acc e.sources) []
theorem outAcc_take {l : List Ent} {acc rs : List RefD} {m : Nat} (hm : m < rs.length) : outAcc l acc (rs.take (m + 1)) = outAdd l (outAcc l acc (rs.take m)) rs[m] := by
  rw [outAcc, List.take_succ_eq_append_getElem hm, List.foldl_append]
  rfl
theorem outL_succ {l : List Ent} {k : Nat} (hk : k < l.length) : outL l (k + 1) = outAcc l (outL l k) l[k].sources := by
  rw [outL, List.take_succ_eq_append_getElem hk, List.foldl_append]
  rfl
theorem outAcc_len (l : List Ent) (rs acc : List RefD) : (outAcc l acc rs).length ≤ acc.length + rs.length := by
  induction rs generalizing acc with
  | nil => simp [outAcc]
  | cons r rs ih =>
    have := ih (outAdd l acc r)
    have h2 : (outAdd l acc r).length ≤ acc.length + 1 := by
      unfold outAdd
      split
      · simp
      · omega
    simp only [outAcc, List.foldl_cons, List.length_cons] at this ⊢
    omega
theorem outL_len {l : List Ent} (h : ∀ i, i < l.length → entriesCode l i = 0) {k : Nat} (hk : k ≤ l.length) : (outL l k).length ≤ 4 * k := by
  induction k with
  | zero => simp [outL]
  | succ k ih =>
    have h1 := ih (by omega)
    have h2 := (groups_le h (show k < l.length by omega)).2
    rw [outL_succ (by omega)]
    have := outAcc_len l l[k].sources (outL l k)
    omega
section
variable {V W : World}
/-- a list of references, or a fault -/
structure RefsOr (W V : World) (c i : Int) (xs : List RefD) (v : Value) (w' : World) : Prop where
  ex : ∃ V', Sub V V' ∧ Rel W V [] V' w' ∧ ((c ≠ 0 ∧ v = .tuple #[.slice none 0 0, faultV c i]) ∨ (c = 0 ∧ ∃ s : Sl, v = .tuple #[s.v, faultV 0 0] ∧ Refs V' s xs))
set_option maxRecDepth 100000 in
set_option maxHeartbeats 4000000 in
theorem outside_spec (hV : Sub V W) {s : Sl} {l : List Ent} (hs : Ents V s l) (hl : l.length ≤ 1099511627776) : Ret Tryz.prog 14 [catV s].toArray W (RefsOr W V (catFault l).1 (catFault l).2 (outL l l.length)) := by
  have H := Rel.start hV
  have hlen := hs.len
  refine cal_of_vc tabOk Tryz.func14 rfl (by kernel_rfl) 58 rfl (by simp) [0, 1, 2, 3, 4, 5, 6, 8, 10, 12, 17, 23, 24, 25, 26, 30, 31, 32, 33, 49] ?_
  ((repeat ((conv => whnf); first | refine an ?_ | refine H.ce ?_ | refine H.db ?_ | refine ea ?_ | (refine H.st ?_; (conv => whnf); clear H; intro w H) | refine condT fun _ => ?_ | refine condF fun _ => ?_ | refine condNT fun _ => ?_ | refine condNF fun _ => ?_ | refine H.da (hc1 _ _ (by rfl)) ?_ | refine H.datw hc1 (by rfl) ?_ | refine H.datl hc1 (by rfl) ?_ | refine H.da (hc2 _ _ (by rfl)) ?_ | refine H.datw hc2 (by rfl) ?_ | refine H.datl hc2 (by rfl) ?_ | refine H.lw ?_ | refine H.ll ?_)); (conv => whnf))
  ((first | refine Rel.nwD H ?_ | refine Rel.nw H ?_); clear H; intro w b1 H)
  ((repeat ((conv => whnf); first | refine an ?_ | refine H.ce ?_ | refine H.db ?_ | refine ea ?_ | (refine H.st ?_; (conv => whnf); clear H; intro w H) | refine condT fun _ => ?_ | refine condF fun _ => ?_ | refine condNT fun _ => ?_ | refine condNF fun _ => ?_ | refine H.da (hc1 _ _ (by rfl)) ?_ | refine H.datw hc1 (by rfl) ?_ | refine H.datl hc1 (by rfl) ?_ | refine H.da (hc2 _ _ (by rfl)) ?_ | refine H.datw hc2 (by rfl) ?_ | refine H.datl hc2 (by rfl) ?_ | refine H.lw ?_ | refine H.ll ?_)); (conv => whnf))
  ((first | refine Rel.nwD H ?_ | refine Rel.nw H ?_); clear H; intro w b3 H)
  ((repeat ((conv => whnf); first | refine an ?_ | ((first | refine H.nwD ?_ | refine H.nw ?_); clear H; intro w _ H) | refine H.ce ?_ | refine H.db ?_ | refine ea ?_ | (refine H.st ?_; (conv => whnf); clear H; intro w H) | refine condT fun _ => ?_ | refine condF fun _ => ?_ | refine condNT fun _ => ?_ | refine condNF fun _ => ?_ | refine H.da (hc1 _ _ (by rfl)) ?_ | refine H.datw hc1 (by rfl) ?_ | refine H.datl hc1 (by rfl) ?_ | refine H.da (hc2 _ _ (by rfl)) ?_ | refine H.datw hc2 (by rfl) ?_ | refine H.datl hc2 (by rfl) ?_ | refine H.lw ?_ | refine H.ll ?_)); (conv => whnf))
  refine (validate_spec H.data hs hl).use ?_
  rintro v w ⟨rfl, V1, hV1, K⟩
  replace H := H.call K
  by_cases hc : (catFault l).1 = 0
  rotate_left
  · ((repeat ((conv => whnf); first | refine an ?_ | ((first | refine H.nwD ?_ | refine H.nw ?_); clear H; intro w _ H) | refine H.ce ?_ | refine H.db ?_ | refine ea ?_ | (refine H.st ?_; (conv => whnf); clear H; intro w H) | refine condT fun _ => ?_ | refine condF fun _ => ?_ | refine condNT fun _ => ?_ | refine condNF fun _ => ?_ | refine H.da (hc1 _ _ (by rfl)) ?_ | refine H.datw hc1 (by rfl) ?_ | refine H.datl hc1 (by rfl) ?_ | refine H.da (hc2 _ _ (by rfl)) ?_ | refine H.datw hc2 (by rfl) ?_ | refine H.datl hc2 (by rfl) ?_ | refine H.lw ?_ | refine H.ll ?_)); (conv => whnf))
    ((first | refine draw_vc (id := 3) tabOk mixed [] [0, 1, 2] (by kernel_rfl) ?_); intro w hdw; replace H := Rel.ext H hdw.ext)
    ((repeat ((conv => whnf); first | refine an ?_ | ((first | refine H.nwD ?_ | refine H.nw ?_); clear H; intro w _ H) | refine H.ce ?_ | refine H.db ?_ | refine ea ?_ | (refine H.st ?_; (conv => whnf); clear H; intro w H) | refine condT fun _ => ?_ | refine condF fun _ => ?_ | refine condNT fun _ => ?_ | refine condNF fun _ => ?_ | refine H.da (hc1 _ _ (by rfl)) ?_ | refine H.datw hc1 (by rfl) ?_ | refine H.datl hc1 (by rfl) ?_ | refine H.da (hc2 _ _ (by rfl)) ?_ | refine H.datw hc2 (by rfl) ?_ | refine H.datl hc2 (by rfl) ?_ | refine H.lw ?_ | refine H.ll ?_)); (conv => whnf))
    exact ⟨V1, hV1, H.sx, .inl ⟨hc, rfl⟩⟩
  obtain ⟨hc0, h60, hent, hcyc⟩ := catFault_zero hc
  rw [hc0]
  ((repeat ((conv => whnf); first | refine an ?_ | ((first | refine H.nwD ?_ | refine H.nw ?_); clear H; intro w _ H) | refine H.ce ?_ | refine H.db ?_ | refine ea ?_ | (refine H.st ?_; (conv => whnf); clear H; intro w H) | refine condT fun _ => ?_ | refine condF fun _ => ?_ | refine condNT fun _ => ?_ | refine condNF fun _ => ?_ | refine H.da (hc1 _ _ (by rfl)) ?_ | refine H.datw hc1 (by rfl) ?_ | refine H.datl hc1 (by rfl) ?_ | refine H.da (hc2 _ _ (by rfl)) ?_ | refine H.datw hc2 (by rfl) ?_ | refine H.datl hc2 (by rfl) ?_ | refine H.lw ?_ | refine H.ll ?_)); (conv => whnf))
  refine (positions_spec H.data (hs.up hV1) hl (apart_of hent)).use ?_
  rintro v w ⟨bm, es, c, rfl, hm, K⟩
  replace H := H.call K
  replace H := H.rowNil 54 2
  ((repeat ((conv => whnf); first | refine an ?_ | ((first | refine H.nwD ?_ | refine H.nw ?_); clear H; intro w _ H) | refine H.ce ?_ | refine H.db ?_ | refine ea ?_ | (refine H.st ?_; (conv => whnf); clear H; intro w H) | refine condT fun _ => ?_ | refine condF fun _ => ?_ | refine condNT fun _ => ?_ | refine condNF fun _ => ?_ | refine H.da (hc1 _ _ (by rfl)) ?_ | refine H.datw hc1 (by rfl) ?_ | refine H.datl hc1 (by rfl) ?_ | refine H.da (hc2 _ _ (by rfl)) ?_ | refine H.datw hc2 (by rfl) ?_ | refine H.datl hc2 (by rfl) ?_ | refine H.lw ?_ | refine H.ll ?_)); (conv => whnf))
  refine loop_inv (S := Nat × Sl) tabOk [3, 5, 23, 24] (fun k => [(6, k.2.v), (25, iv k.1)]) (fun k w' => k.1 ≤ l.length ∧ Rel W V [.row k.2 54 2 ((outL l k.1).flatMap refC), .obj bm (.map es c), .blk b3 [iv 0, iv 0] 28] V1 w') (fun k _ => l.length - k.1) (0, ⟨none, 0, 0⟩) ?_
  (conv => whnf)
  refine ⟨(by repeat (first | exact trivial | refine ⟨rfl, ?_⟩)), ⟨by omega, H.sx⟩, ?_⟩
  clear H
  rintro ⟨k, r⟩ w ⟨hk, H⟩
  dsimp only at hk H
  by_cases hlt : k < l.length
  rotate_left
  · obtain rfl : k = l.length := by omega
    ((repeat ((conv => whnf); first | refine an ?_ | ((first | refine H.nwD ?_ | refine H.nw ?_); clear H; intro w _ H) | refine H.ce ?_ | refine H.db ?_ | refine ea ?_ | (refine H.st ?_; (conv => whnf); clear H; intro w H) | refine condT fun _ => ?_ | refine condF fun _ => ?_ | refine condNT fun _ => ?_ | refine condNF fun _ => ?_ | refine H.da (hc1 _ _ (by rfl)) ?_ | refine H.datw hc1 (by rfl) ?_ | refine H.datl hc1 (by rfl) ?_ | refine H.da (hc2 _ _ (by rfl)) ?_ | refine H.datw hc2 (by rfl) ?_ | refine H.datl hc2 (by rfl) ?_ | refine H.lw ?_ | refine H.ll ?_)); (conv => whnf))
    obtain ⟨V3, hV3, H, hr⟩ := Rel.freezeF H (fun _ => rfl) (by decide)
    exact ⟨V3, hV1.trans hV3, H.sx, .inr ⟨rfl, r, rfl, hr⟩⟩
  obtain ⟨hp, eh, hok, hc1⟩ := (hs.up hV1).get hlt
  have hso := hok.so.len
  have hsl := (groups_le hent hlt).2
  have hol := outL_len hent hk
  ((repeat ((conv => whnf); first | refine an ?_ | ((first | refine H.nwD ?_ | refine H.nw ?_); clear H; intro w _ H) | refine H.ce ?_ | refine H.db ?_ | refine ea ?_ | (refine H.st ?_; (conv => whnf); clear H; intro w H) | refine condT fun _ => ?_ | refine condF fun _ => ?_ | refine condNT fun _ => ?_ | refine condNF fun _ => ?_ | refine H.da (hc1 _ _ (by rfl)) ?_ | refine H.datw hc1 (by rfl) ?_ | refine H.datl hc1 (by rfl) ?_ | refine H.da (hc2 _ _ (by rfl)) ?_ | refine H.datw hc2 (by rfl) ?_ | refine H.datl hc2 (by rfl) ?_ | refine H.lw ?_ | refine H.ll ?_)); (conv => whnf))
  refine SemC.cut 2 (fun rn : Sl => [(3, .pointer (some ⟨b3, 0, none⟩)), (5, .map (some bm)), (6, rn.v), (23, s.v), (24, iv (s.len : Nat)), (25, iv k)]) (fun rn w' => Rel W V [.row rn 54 2 ((outL l (k + 1)).flatMap refC), .obj bm (.map es c), .blk b3 [iv 0, iv 0] 28] V1 w') ?_ ?_
  · refine loop_inv (S := Nat × Sl) tabOk [3, 5, 23, 24, 25, 30, 31] (fun m => [(6, m.2.v), (32, iv m.1)]) (fun m w' => m.1 ≤ l[k].sources.length ∧ Rel W V [.row m.2 54 2 ((outAcc l (outL l k) (l[k].sources.take m.1)).flatMap refC), .obj bm (.map es c), .blk b3 [iv 0, iv 0] 28] V1 w') (fun m _ => l[k].sources.length - m.1) (0, r) ?_
    (conv => whnf)
    refine ⟨(by repeat (first | exact trivial | refine ⟨rfl, ?_⟩)), ⟨by omega, H.sx⟩, ?_⟩
    clear H
    rintro ⟨m, q⟩ w ⟨hm', H⟩
    dsimp only at hm' H
    have hal := outAcc_len l (l[k].sources.take m) (outL l k)
    have hlt4 : (l[k].sources.take m).length ≤ 4 := by simp; omega
    by_cases hmlt : m < l[k].sources.length
    rotate_left
    · ((repeat ((conv => whnf); first | refine an ?_ | ((first | refine H.nwD ?_ | refine H.nw ?_); clear H; intro w _ H) | refine H.ce ?_ | refine H.db ?_ | refine ea ?_ | (refine H.st ?_; (conv => whnf); clear H; intro w H) | refine condT fun _ => ?_ | refine condF fun _ => ?_ | refine condNT fun _ => ?_ | refine condNF fun _ => ?_ | refine H.da (hc1 _ _ (by rfl)) ?_ | refine H.datw hc1 (by rfl) ?_ | refine H.datl hc1 (by rfl) ?_ | refine H.da (hc2 _ _ (by rfl)) ?_ | refine H.datw hc2 (by rfl) ?_ | refine H.datl hc2 (by rfl) ?_ | refine H.lw ?_ | refine H.ll ?_)); (conv => whnf))
      rw [List.take_of_length_le (by omega), ← outL_succ hlt] at H
      exact ⟨q, (by repeat (first | exact trivial | refine ⟨rfl, ?_⟩)), H⟩
    obtain ⟨hp2, hc2, hc2'⟩ := hok.so.get hmlt
    have e0 := outAcc_take (l := l) (acc := outL l k) hmlt
    ((repeat ((conv => whnf); first | refine an ?_ | refine H.ce ?_ | refine H.db ?_ | refine ea ?_ | (refine H.st ?_; (conv => whnf); clear H; intro w H) | refine condT fun _ => ?_ | refine condF fun _ => ?_ | refine condNT fun _ => ?_ | refine condNF fun _ => ?_ | refine H.da (hc1 _ _ (by rfl)) ?_ | refine H.datw hc1 (by rfl) ?_ | refine H.datl hc1 (by rfl) ?_ | refine H.da (hc2 _ _ (by rfl)) ?_ | refine H.datw hc2 (by rfl) ?_ | refine H.datl hc2 (by rfl) ?_ | refine H.lw ?_ | refine H.ll ?_)); (conv => whnf))
    ((first | refine Rel.nwD H ?_ | refine Rel.nw H ?_); clear H; intro w b10 H)
    ((repeat ((conv => whnf); first | refine an ?_ | ((first | refine H.nwD ?_ | refine H.nw ?_); clear H; intro w _ H) | refine H.ce ?_ | refine H.db ?_ | refine ea ?_ | (refine H.st ?_; (conv => whnf); clear H; intro w H) | refine condT fun _ => ?_ | refine condF fun _ => ?_ | refine condNT fun _ => ?_ | refine condNF fun _ => ?_ | refine H.da (hc1 _ _ (by rfl)) ?_ | refine H.datw hc1 (by rfl) ?_ | refine H.datl hc1 (by rfl) ?_ | refine H.da (hc2 _ _ (by rfl)) ?_ | refine H.datw hc2 (by rfl) ?_ | refine H.datl hc2 (by rfl) ?_ | refine H.lw ?_ | refine H.ll ?_)); (conv => whnf))
    refine Rel.lookupAt (r := l[k].sources[m]) (i := 2) H rfl hm ?_
    cases hpl : place l l[k].sources[m] with
    | some j =>
      have e1 : outAcc l (outL l k) (l[k].sources.take (m + 1)) = outAcc l (outL l k) (l[k].sources.take m) := by rw [e0, outAdd, if_neg (by simp [hpl])]
      ((repeat ((conv => whnf); first | refine an ?_ | ((first | refine H.nwD ?_ | refine H.nw ?_); clear H; intro w _ H) | refine H.ce ?_ | refine H.db ?_ | refine ea ?_ | (refine H.st ?_; (conv => whnf); clear H; intro w H) | refine condT fun _ => ?_ | refine condF fun _ => ?_ | refine condNT fun _ => ?_ | refine condNF fun _ => ?_ | refine H.da (hc1 _ _ (by rfl)) ?_ | refine H.datw hc1 (by rfl) ?_ | refine H.datl hc1 (by rfl) ?_ | refine H.da (hc2 _ _ (by rfl)) ?_ | refine H.datw hc2 (by rfl) ?_ | refine H.datl hc2 (by rfl) ?_ | refine H.lw ?_ | refine H.ll ?_)); (conv => whnf))
      refine ⟨(by repeat (first | exact trivial | refine ⟨rfl, ?_⟩)), (m + 1, q), (by repeat (first | exact trivial | refine ⟨rfl, ?_⟩)), ⟨by omega, ?_⟩, by omega⟩
      dsimp only
      rw [e1]
      exact H.sx
    | none =>
      ((repeat ((conv => whnf); first | refine an ?_ | ((first | refine H.nwD ?_ | refine H.nw ?_); clear H; intro w _ H) | refine H.ce ?_ | refine H.db ?_ | refine ea ?_ | (refine H.st ?_; (conv => whnf); clear H; intro w H) | refine condT fun _ => ?_ | refine condF fun _ => ?_ | refine condNT fun _ => ?_ | refine condNF fun _ => ?_ | refine H.da (hc1 _ _ (by rfl)) ?_ | refine H.datw hc1 (by rfl) ?_ | refine H.datl hc1 (by rfl) ?_ | refine H.da (hc2 _ _ (by rfl)) ?_ | refine H.datw hc2 (by rfl) ?_ | refine H.datl hc2 (by rfl) ?_ | refine H.lw ?_ | refine H.ll ?_)); (conv => whnf))
      obtain ⟨V2, hV2, H2, hr2⟩ := Rel.freezeF (Rel.front_1 H) (fun _ => rfl) (by decide)
      refine (contains_refs H2.data hr2 (by omega) l[k].sources[m]).use ?_
      rintro v w ⟨rfl, K⟩
      replace H := H.ext K.base
      clear H2 K
      (conv => whnf)
      refine condG_ndec (fun h1 => ?_) (fun h1 => ?_)
      · have e1 : outAcc l (outL l k) (l[k].sources.take (m + 1)) = outAcc l (outL l k) (l[k].sources.take m) ++ [l[k].sources[m]] := by rw [e0, outAdd, if_pos ⟨hpl, h1⟩]
        ((repeat ((conv => whnf); first | refine an ?_ | ((first | refine H.nwD ?_ | refine H.nw ?_); clear H; intro w _ H) | refine H.ce ?_ | refine H.db ?_ | refine ea ?_ | (refine H.st ?_; (conv => whnf); clear H; intro w H) | refine condT fun _ => ?_ | refine condF fun _ => ?_ | refine condNT fun _ => ?_ | refine condNF fun _ => ?_ | refine H.da (hc1 _ _ (by rfl)) ?_ | refine H.datw hc1 (by rfl) ?_ | refine H.datl hc1 (by rfl) ?_ | refine H.da (hc2 _ _ (by rfl)) ?_ | refine H.datw hc2 (by rfl) ?_ | refine H.datl hc2 (by rfl) ?_ | refine H.lw ?_ | refine H.ll ?_)); (conv => whnf))
        (refine Rel.app1_1 (f := refC) tabOk rfl rfl rfl rfl rfl (by decide) (fun _ => rfl) (by simp [Value.oneCell']) H (by simp; omega) (by omega) ?_; clear H; intro rn w H)
        ((repeat ((conv => whnf); first | refine an ?_ | ((first | refine H.nwD ?_ | refine H.nw ?_); clear H; intro w _ H) | refine H.ce ?_ | refine H.db ?_ | refine ea ?_ | (refine H.st ?_; (conv => whnf); clear H; intro w H) | refine condT fun _ => ?_ | refine condF fun _ => ?_ | refine condNT fun _ => ?_ | refine condNF fun _ => ?_ | refine H.da (hc1 _ _ (by rfl)) ?_ | refine H.datw hc1 (by rfl) ?_ | refine H.datl hc1 (by rfl) ?_ | refine H.da (hc2 _ _ (by rfl)) ?_ | refine H.datw hc2 (by rfl) ?_ | refine H.datl hc2 (by rfl) ?_ | refine H.lw ?_ | refine H.ll ?_)); (conv => whnf))
        refine ⟨(by repeat (first | exact trivial | refine ⟨rfl, ?_⟩)), (m + 1, rn), (by repeat (first | exact trivial | refine ⟨rfl, ?_⟩)), ⟨by omega, ?_⟩, by omega⟩
        dsimp only
        rw [e1]
        exact H.sx
      · have e1 : outAcc l (outL l k) (l[k].sources.take (m + 1)) = outAcc l (outL l k) (l[k].sources.take m) := by rw [e0, outAdd, if_neg (fun h => h.2 h1)]
        ((repeat ((conv => whnf); first | refine an ?_ | ((first | refine H.nwD ?_ | refine H.nw ?_); clear H; intro w _ H) | refine H.ce ?_ | refine H.db ?_ | refine ea ?_ | (refine H.st ?_; (conv => whnf); clear H; intro w H) | refine condT fun _ => ?_ | refine condF fun _ => ?_ | refine condNT fun _ => ?_ | refine condNF fun _ => ?_ | refine H.da (hc1 _ _ (by rfl)) ?_ | refine H.datw hc1 (by rfl) ?_ | refine H.datl hc1 (by rfl) ?_ | refine H.da (hc2 _ _ (by rfl)) ?_ | refine H.datw hc2 (by rfl) ?_ | refine H.datl hc2 (by rfl) ?_ | refine H.lw ?_ | refine H.ll ?_)); (conv => whnf))
        refine ⟨(by repeat (first | exact trivial | refine ⟨rfl, ?_⟩)), (m + 1, q), (by repeat (first | exact trivial | refine ⟨rfl, ?_⟩)), ⟨by omega, ?_⟩, by omega⟩
        dsimp only
        rw [e1]
        exact H.sx
  · rintro rn w H
    ((repeat ((conv => whnf); first | refine an ?_ | ((first | refine H.nwD ?_ | refine H.nw ?_); clear H; intro w _ H) | refine H.ce ?_ | refine H.db ?_ | refine ea ?_ | (refine H.st ?_; (conv => whnf); clear H; intro w H) | refine condT fun _ => ?_ | refine condF fun _ => ?_ | refine condNT fun _ => ?_ | refine condNF fun _ => ?_ | refine H.da (hc1 _ _ (by rfl)) ?_ | refine H.datw hc1 (by rfl) ?_ | refine H.datl hc1 (by rfl) ?_ | refine H.da (hc2 _ _ (by rfl)) ?_ | refine H.datw hc2 (by rfl) ?_ | refine H.datl hc2 (by rfl) ?_ | refine H.lw ?_ | refine H.ll ?_)); (conv => whnf))
    exact ⟨(by repeat (first | exact trivial | refine ⟨rfl, ?_⟩)), (k + 1, rn), (by repeat (first | exact trivial | refine ⟨rfl, ?_⟩)), ⟨by omega, H⟩, by omega⟩
end
end Go.Proofs.YtlhgmigoncmcaaaGreat
