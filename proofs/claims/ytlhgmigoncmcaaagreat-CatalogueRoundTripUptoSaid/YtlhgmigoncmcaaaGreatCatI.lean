/-
  Readers: CheckReader, maySee, Visible; ReaderFault, Sees.
-/
import Derived.Test.YtlhgmigoncmcaaaGreatCatH
import Derived.Test.YtlhgmigoncmcaaaGreatStrB
namespace Go.Proofs.YtlhgmigoncmcaaaGreat
open Go Go.RowKit

section
variable {V W : World}
/-! ### readers -/
abbrev rdC (g : Sl) (day : Int) : List Value := [g.v, iv day]
def rdFault (gs : List (List UInt8)) (day : Int) : Int × Int :=
  if 4 < gs.length then (2, -2) else if firstCode (grpAt gs) gs.length ≠ 0 then (firstCode (grpAt gs) gs.length, -2) else if ¬ (1 ≤ day ∧ day ≤ 3652059) then (4, -2) else (0, 0)
theorem checkReader_spec (hV : Sub V W) {g : Sl} {gs : List (List UInt8)} (hg : Strs V g gs) (day : Int) : Ret Tryz.prog 37 [.agg (rdC g day).toArray].toArray W fun v w' => v = faultV (rdFault gs day).1 (rdFault gs day).2 ∧ Rel W V [] V w' := by
  have H := Rel.start hV
  have hlen := hg.len
  have F : rdFault gs day = _ := rdFault.eq_1 gs day
  refine cal_of_vc tabOk Tryz.func37 rfl (by kernel_rfl) 22 rfl (by simp) [0, 1, 2, 3, 7, 13, 19] ?_
  by_cases h4 : 4 < gs.length
  · rw [if_pos h4] at F
    ((repeat ((conv => whnf); first | refine an ?_ | ((first | refine H.nwD ?_ | refine H.nw ?_); clear H; intro w _ H) | refine H.ce ?_ | refine H.db ?_ | refine ea ?_ | (refine H.st ?_; (conv => whnf); clear H; intro w H) | refine condT fun _ => ?_ | refine condF fun _ => ?_ | refine condNT fun _ => ?_ | refine condNF fun _ => ?_ | refine H.da (hc1 _ _ (by rfl)) ?_ | refine H.datw hc1 (by rfl) ?_ | refine H.datl hc1 (by rfl) ?_ | refine H.lw ?_ | refine H.ll ?_)); (conv => whnf))
    refine (fault_cat H.data 2 (-2)).use ?_
    rintro v w ⟨rfl, K⟩
    replace H := H.call K
    ((repeat ((conv => whnf); first | refine an ?_ | ((first | refine H.nwD ?_ | refine H.nw ?_); clear H; intro w _ H) | refine H.ce ?_ | refine H.db ?_ | refine ea ?_ | (refine H.st ?_; (conv => whnf); clear H; intro w H) | refine condT fun _ => ?_ | refine condF fun _ => ?_ | refine condNT fun _ => ?_ | refine condNF fun _ => ?_ | refine H.da (hc1 _ _ (by rfl)) ?_ | refine H.datw hc1 (by rfl) ?_ | refine H.datl hc1 (by rfl) ?_ | refine H.lw ?_ | refine H.ll ?_)); (conv => whnf))
    exact ⟨by rw [F], H.sx⟩
  rw [if_neg h4] at F
  ((repeat ((conv => whnf); first | refine an ?_ | ((first | refine H.nwD ?_ | refine H.nw ?_); clear H; intro w _ H) | refine H.ce ?_ | refine H.db ?_ | refine ea ?_ | (refine H.st ?_; (conv => whnf); clear H; intro w H) | refine condT fun _ => ?_ | refine condF fun _ => ?_ | refine condNT fun _ => ?_ | refine condNF fun _ => ?_ | refine H.da (hc1 _ _ (by rfl)) ?_ | refine H.datw hc1 (by rfl) ?_ | refine H.datl hc1 (by rfl) ?_ | refine H.lw ?_ | refine H.ll ?_)); (conv => whnf))
  refine (checkGroups_spec H.data hg (by omega)).use ?_
  rintro v w ⟨rfl, K⟩
  replace H := H.call K
  (conv => whnf)
  refine condG_dec (fun h1 => ?_) (fun h1 => ?_)
  · rw [if_pos h1] at F
    ((repeat ((conv => whnf); first | refine an ?_ | ((first | refine H.nwD ?_ | refine H.nw ?_); clear H; intro w _ H) | refine H.ce ?_ | refine H.db ?_ | refine ea ?_ | (refine H.st ?_; (conv => whnf); clear H; intro w H) | refine condT fun _ => ?_ | refine condF fun _ => ?_ | refine condNT fun _ => ?_ | refine condNF fun _ => ?_ | refine H.da (hc1 _ _ (by rfl)) ?_ | refine H.datw hc1 (by rfl) ?_ | refine H.datl hc1 (by rfl) ?_ | refine H.lw ?_ | refine H.ll ?_)); (conv => whnf))
    refine (fault_cat H.data _ (-2)).use ?_
    rintro v w ⟨rfl, K⟩
    replace H := H.call K
    ((repeat ((conv => whnf); first | refine an ?_ | ((first | refine H.nwD ?_ | refine H.nw ?_); clear H; intro w _ H) | refine H.ce ?_ | refine H.db ?_ | refine ea ?_ | (refine H.st ?_; (conv => whnf); clear H; intro w H) | refine condT fun _ => ?_ | refine condF fun _ => ?_ | refine condNT fun _ => ?_ | refine condNF fun _ => ?_ | refine H.da (hc1 _ _ (by rfl)) ?_ | refine H.datw hc1 (by rfl) ?_ | refine H.datl hc1 (by rfl) ?_ | refine H.lw ?_ | refine H.ll ?_)); (conv => whnf))
    exact ⟨by rw [F], H.sx⟩
  rw [if_neg h1] at F
  ((repeat ((conv => whnf); first | refine an ?_ | ((first | refine H.nwD ?_ | refine H.nw ?_); clear H; intro w _ H) | refine H.ce ?_ | refine H.db ?_ | refine ea ?_ | (refine H.st ?_; (conv => whnf); clear H; intro w H) | refine condT fun _ => ?_ | refine condF fun _ => ?_ | refine condNT fun _ => ?_ | refine condNF fun _ => ?_ | refine H.da (hc1 _ _ (by rfl)) ?_ | refine H.datw hc1 (by rfl) ?_ | refine H.datl hc1 (by rfl) ?_ | refine H.lw ?_ | refine H.ll ?_)); (conv => whnf))
  refine (in_cat _ _ _ _).use ?_
  rintro v w ⟨rfl, rfl⟩
  (conv => whnf)
  refine condG_ndec (fun h2 => ?_) (fun h2 => ?_)
  · rw [if_pos h2] at F
    ((repeat ((conv => whnf); first | refine an ?_ | ((first | refine H.nwD ?_ | refine H.nw ?_); clear H; intro w _ H) | refine H.ce ?_ | refine H.db ?_ | refine ea ?_ | (refine H.st ?_; (conv => whnf); clear H; intro w H) | refine condT fun _ => ?_ | refine condF fun _ => ?_ | refine condNT fun _ => ?_ | refine condNF fun _ => ?_ | refine H.da (hc1 _ _ (by rfl)) ?_ | refine H.datw hc1 (by rfl) ?_ | refine H.datl hc1 (by rfl) ?_ | refine H.lw ?_ | refine H.ll ?_)); (conv => whnf))
    refine (fault_cat H.data 4 (-2)).use ?_
    rintro v w ⟨rfl, K⟩
    replace H := H.call K
    ((repeat ((conv => whnf); first | refine an ?_ | ((first | refine H.nwD ?_ | refine H.nw ?_); clear H; intro w _ H) | refine H.ce ?_ | refine H.db ?_ | refine ea ?_ | (refine H.st ?_; (conv => whnf); clear H; intro w H) | refine condT fun _ => ?_ | refine condF fun _ => ?_ | refine condNT fun _ => ?_ | refine condNF fun _ => ?_ | refine H.da (hc1 _ _ (by rfl)) ?_ | refine H.datw hc1 (by rfl) ?_ | refine H.datl hc1 (by rfl) ?_ | refine H.lw ?_ | refine H.ll ?_)); (conv => whnf))
    exact ⟨by rw [F], H.sx⟩
  rw [if_neg (fun h => h h2)] at F
  ((repeat ((conv => whnf); first | refine an ?_ | ((first | refine H.nwD ?_ | refine H.nw ?_); clear H; intro w _ H) | refine H.ce ?_ | refine H.db ?_ | refine ea ?_ | (refine H.st ?_; (conv => whnf); clear H; intro w H) | refine condT fun _ => ?_ | refine condF fun _ => ?_ | refine condNT fun _ => ?_ | refine condNF fun _ => ?_ | refine H.da (hc1 _ _ (by rfl)) ?_ | refine H.datw hc1 (by rfl) ?_ | refine H.datl hc1 (by rfl) ?_ | refine H.lw ?_ | refine H.ll ?_)); (conv => whnf))
  exact ⟨by rw [F], H.sx⟩
/-- a reader may see an entry -/
def sees (e : Ent) (gs : List (List UInt8)) (day : Int) : Bool := decide (e.emb ≤ day) && (e.groups.isEmpty || e.groups.any fun g => decide (g ∈ gs))
theorem maySee_spec (hV : Sub V W) {e : Ent} {h : EntH} (he : EntOk V e h) (hel : e.groups.length ≤ 1099511627776) {g : Sl} {gs : List (List UInt8)} (hg : Strs V g gs) (hgl : gs.length ≤ 1099511627776) (day : Int) : Ret Tryz.prog 38 [.agg (entC e h).toArray, .agg (rdC g day).toArray].toArray W fun v w' => v = .bool (sees e gs day) ∧ ∃ V', Sub V V' ∧ Rel W V [] V' w' := by
  have H := Rel.start hV
  have hgr := he.gr.len
  refine cal_of_vc tabOk Tryz.func38 rfl (by kernel_rfl) 24 rfl (by simp) [0, 1, 2, 3, 4, 5] ?_
  by_cases h1 : e.emb ≤ day
  rotate_left
  · ((repeat ((conv => whnf); first | refine an ?_ | ((first | refine H.nwD ?_ | refine H.nw ?_); clear H; intro w _ H) | refine H.ce ?_ | refine H.db ?_ | refine ea ?_ | (refine H.st ?_; (conv => whnf); clear H; intro w H) | refine condT fun _ => ?_ | refine condF fun _ => ?_ | refine condNT fun _ => ?_ | refine condNF fun _ => ?_ | refine H.da (hc1 _ _ (by rfl)) ?_ | refine H.datw hc1 (by rfl) ?_ | refine H.datl hc1 (by rfl) ?_ | refine H.lw ?_ | refine H.ll ?_)); (conv => whnf))
    exact ⟨by simp [sees, h1], V, Sub.refl _, H.sx⟩
  by_cases h2 : e.groups.length = 0
  · ((repeat ((conv => whnf); first | refine an ?_ | ((first | refine H.nwD ?_ | refine H.nw ?_); clear H; intro w _ H) | refine H.ce ?_ | refine H.db ?_ | refine ea ?_ | (refine H.st ?_; (conv => whnf); clear H; intro w H) | refine condT fun _ => ?_ | refine condF fun _ => ?_ | refine condNT fun _ => ?_ | refine condNF fun _ => ?_ | refine H.da (hc1 _ _ (by rfl)) ?_ | refine H.datw hc1 (by rfl) ?_ | refine H.datl hc1 (by rfl) ?_ | refine H.lw ?_ | refine H.ll ?_)); (conv => whnf))
    exact ⟨by simp [sees, h1, List.eq_nil_of_length_eq_zero h2], V, Sub.refl _, H.sx⟩
  ((repeat ((conv => whnf); first | refine an ?_ | refine H.ce ?_ | refine H.db ?_ | refine ea ?_ | (refine H.st ?_; (conv => whnf); clear H; intro w H) | refine condT fun _ => ?_ | refine condF fun _ => ?_ | refine condNT fun _ => ?_ | refine condNF fun _ => ?_ | refine H.da (hc1 _ _ (by rfl)) ?_ | refine H.datw hc1 (by rfl) ?_ | refine H.datl hc1 (by rfl) ?_ | refine H.lw ?_ | refine H.ll ?_)); (conv => whnf))
  ((first | refine Rel.nwD H ?_ | refine Rel.nw H ?_); clear H; intro w b2 H)
  ((repeat ((conv => whnf); first | refine an ?_ | refine H.ce ?_ | refine H.db ?_ | refine ea ?_ | (refine H.st ?_; (conv => whnf); clear H; intro w H) | refine condT fun _ => ?_ | refine condF fun _ => ?_ | refine condNT fun _ => ?_ | refine condNF fun _ => ?_ | refine H.da (hc1 _ _ (by rfl)) ?_ | refine H.datw hc1 (by rfl) ?_ | refine H.datl hc1 (by rfl) ?_ | refine H.lw ?_ | refine H.ll ?_)); (conv => whnf))
  ((first | refine Rel.nwD H ?_ | refine Rel.nw H ?_); clear H; intro w b3 H)
  ((repeat ((conv => whnf); first | refine an ?_ | ((first | refine H.nwD ?_ | refine H.nw ?_); clear H; intro w _ H) | refine H.ce ?_ | refine H.db ?_ | refine ea ?_ | (refine H.st ?_; (conv => whnf); clear H; intro w H) | refine condT fun _ => ?_ | refine condF fun _ => ?_ | refine condNT fun _ => ?_ | refine condNF fun _ => ?_ | refine H.da (hc1 _ _ (by rfl)) ?_ | refine H.datw hc1 (by rfl) ?_ | refine H.datl hc1 (by rfl) ?_ | refine H.lw ?_ | refine H.ll ?_)); (conv => whnf))
  obtain ⟨V', hsub, H, hblk⟩ := (show Rel W V [.blk b3 (rdC g day) 50] V w from H.sx).freezeBlk
  refine (containsFunc_strs H.data (he.gr.up hsub) hel (p := fun x => decide (x ∈ gs)) (caps := [.pointer (some ⟨b3, 0, none⟩)]) (fun x w hw => ?_)).use ?_
  · have H := Rel.start hw
    have hc1 : ∀ j v, (rdC g day)[j]? = some v → V'.cell? ⟨b3, 0 + j, none⟩ = some v := fun j v hj => by rw [Nat.zero_add]; exact hblk.cel hj
    refine cal_of_vc tabOk Tryz.func77 rfl (by kernel_rfl) 8 rfl (by simp) [0, 1, 3] ?_
    ((repeat ((conv => whnf); first | refine an ?_ | ((first | refine H.nwD ?_ | refine H.nw ?_); clear H; intro w _ H) | refine H.ce ?_ | refine H.db ?_ | refine ea ?_ | (refine H.st ?_; (conv => whnf); clear H; intro w H) | refine condT fun _ => ?_ | refine condF fun _ => ?_ | refine condNT fun _ => ?_ | refine condNF fun _ => ?_ | refine H.da (hc1 _ _ (by rfl)) ?_ | refine H.datw hc1 (by rfl) ?_ | refine H.datl hc1 (by rfl) ?_ | refine H.lw ?_ | refine H.ll ?_)); (conv => whnf))
    refine (contains_strs H.data (hg.up hsub) hgl x).use ?_
    rintro v w ⟨rfl, K⟩
    replace H := H.call K
    ((repeat ((conv => whnf); first | refine an ?_ | ((first | refine H.nwD ?_ | refine H.nw ?_); clear H; intro w _ H) | refine H.ce ?_ | refine H.db ?_ | refine ea ?_ | (refine H.st ?_; (conv => whnf); clear H; intro w H) | refine condT fun _ => ?_ | refine condF fun _ => ?_ | refine condNT fun _ => ?_ | refine condNF fun _ => ?_ | refine H.da (hc1 _ _ (by rfl)) ?_ | refine H.datw hc1 (by rfl) ?_ | refine H.datl hc1 (by rfl) ?_ | refine H.lw ?_ | refine H.ll ?_)); (conv => whnf))
    exact H
  rintro v w ⟨rfl, K⟩
  replace H := H.call K
  (conv => whnf)
  refine ⟨?_, V', hsub, H⟩
  have : e.groups ≠ [] := by intro e; rw [e] at h2; exact h2 rfl
  simp [sees, h1, this]
def visCode (l : List Ent) (gs : List (List UInt8)) (day : Int) : Int × Int := if (catFault l).1 ≠ 0 then catFault l else rdFault gs day
def seen (l : List Ent) (gs : List (List UInt8)) (day : Int) (i : Nat) : Bool := sees (l[i]?.getD default) gs day
theorem groups_le {l : List Ent} (h : ∀ i, i < l.length → entriesCode l i = 0) {k : Nat} (hlt : k < l.length) : l[k].groups.length ≤ 4 ∧ l[k].sources.length ≤ 4 := by
  have h1 := h k hlt
  simp only [entriesCode, List.getElem?_eq_getElem hlt, Option.getD_some, entCode] at h1
  split at h1
  · contradiction
  · rename_i h2
    have h2 : entCode1 l[k] = 0 := Decidable.byContradiction h2
    rw [entCode1] at h2
    constructor
    · refine Decidable.byContradiction fun h4 => ?_
      have h4 : 4 < l[k].groups.length := by omega
      simp only [h4, if_true] at h2
      repeat' split at h2
      all_goals omega
    · refine Decidable.byContradiction fun h4 => ?_
      have h4 : 4 < l[k].sources.length := by omega
      simp only [h4, if_true] at h2
      repeat' split at h2
      all_goals omega
theorem rdFault_zero {gs : List (List UInt8)} {day : Int} (h : (rdFault gs day).1 = 0) : rdFault gs day = (0, 0) ∧ gs.length ≤ 4 := by
  unfold rdFault at h ⊢
  split at h
  · cases h
  · rename_i h1
    rw [if_neg h1]
    split at h
    · contradiction
    · rename_i h2
      rw [if_neg h2]
      split at h
      · cases h
      · rename_i h3
        rw [if_neg h3]
        exact ⟨rfl, by omega⟩
set_option maxRecDepth 100000 in
set_option maxHeartbeats 4000000 in
theorem visible_spec (hV : Sub V W) {s : Sl} {l : List Ent} (hs : Ents V s l) (hl : l.length ≤ 1099511627776) {g : Sl} {gs : List (List UInt8)} (hg : Strs V g gs) (hgl : gs.length ≤ 1099511627776) (day : Int) : Ret Tryz.prog 15 [catV s, .agg (rdC g day).toArray].toArray W (NumsOr W V (visCode l gs day).1 (visCode l gs day).2 (picks (seen l gs day) l.length)) := by
  have H := Rel.start hV
  have hlen := hs.len
  refine cal_of_vc tabOk Tryz.func15 rfl (by kernel_rfl) 41 rfl (by simp) [0, 1, 2, 3, 4, 5, 6, 7, 8, 9, 10, 15, 21, 24, 25, 26, 27, 33] ?_
  ((repeat ((conv => whnf); first | refine an ?_ | refine H.ce ?_ | refine H.db ?_ | refine ea ?_ | (refine H.st ?_; (conv => whnf); clear H; intro w H) | refine condT fun _ => ?_ | refine condF fun _ => ?_ | refine condNT fun _ => ?_ | refine condNF fun _ => ?_ | refine H.da (hc1 _ _ (by rfl)) ?_ | refine H.datw hc1 (by rfl) ?_ | refine H.datl hc1 (by rfl) ?_ | refine H.lw ?_ | refine H.ll ?_)); (conv => whnf))
  ((first | refine Rel.nwD H ?_ | refine Rel.nw H ?_); clear H; intro w b2 H)
  ((repeat ((conv => whnf); first | refine an ?_ | refine H.ce ?_ | refine H.db ?_ | refine ea ?_ | (refine H.st ?_; (conv => whnf); clear H; intro w H) | refine condT fun _ => ?_ | refine condF fun _ => ?_ | refine condNT fun _ => ?_ | refine condNF fun _ => ?_ | refine H.da (hc1 _ _ (by rfl)) ?_ | refine H.datw hc1 (by rfl) ?_ | refine H.datl hc1 (by rfl) ?_ | refine H.lw ?_ | refine H.ll ?_)); (conv => whnf))
  ((first | refine Rel.nwD H ?_ | refine Rel.nw H ?_); clear H; intro w b3 H)
  ((repeat ((conv => whnf); first | refine an ?_ | refine H.ce ?_ | refine H.db ?_ | refine ea ?_ | (refine H.st ?_; (conv => whnf); clear H; intro w H) | refine condT fun _ => ?_ | refine condF fun _ => ?_ | refine condNT fun _ => ?_ | refine condNF fun _ => ?_ | refine H.da (hc1 _ _ (by rfl)) ?_ | refine H.datw hc1 (by rfl) ?_ | refine H.datl hc1 (by rfl) ?_ | refine H.lw ?_ | refine H.ll ?_)); (conv => whnf))
  ((first | refine Rel.nwD H ?_ | refine Rel.nw H ?_); clear H; intro w b5 H)
  ((repeat ((conv => whnf); first | refine an ?_ | ((first | refine H.nwD ?_ | refine H.nw ?_); clear H; intro w _ H) | refine H.ce ?_ | refine H.db ?_ | refine ea ?_ | (refine H.st ?_; (conv => whnf); clear H; intro w H) | refine condT fun _ => ?_ | refine condF fun _ => ?_ | refine condNT fun _ => ?_ | refine condNF fun _ => ?_ | refine H.da (hc1 _ _ (by rfl)) ?_ | refine H.datw hc1 (by rfl) ?_ | refine H.datl hc1 (by rfl) ?_ | refine H.lw ?_ | refine H.ll ?_)); (conv => whnf))
  refine (validate_spec H.data hs hl).use ?_
  rintro v w ⟨rfl, V1, hV1, K⟩
  replace H := H.call K
  by_cases hc : (catFault l).1 = 0
  rotate_left
  · have e : visCode l gs day = catFault l := by simp [visCode, hc]
    rw [e]
    ((repeat ((conv => whnf); first | refine an ?_ | ((first | refine H.nwD ?_ | refine H.nw ?_); clear H; intro w _ H) | refine H.ce ?_ | refine H.db ?_ | refine ea ?_ | (refine H.st ?_; (conv => whnf); clear H; intro w H) | refine condT fun _ => ?_ | refine condF fun _ => ?_ | refine condNT fun _ => ?_ | refine condNF fun _ => ?_ | refine H.da (hc1 _ _ (by rfl)) ?_ | refine H.datw hc1 (by rfl) ?_ | refine H.datl hc1 (by rfl) ?_ | refine H.lw ?_ | refine H.ll ?_)); (conv => whnf))
    ((first | refine draw_vc (id := 3) tabOk mixed [] [0, 1, 2] (by kernel_rfl) ?_ | refine draw_vc (id := 6) tabOk mixed [] [0, 1, 2] (by kernel_rfl) ?_); intro w hdw; replace H := Rel.ext H hdw.ext)
    ((repeat ((conv => whnf); first | refine an ?_ | ((first | refine H.nwD ?_ | refine H.nw ?_); clear H; intro w _ H) | refine H.ce ?_ | refine H.db ?_ | refine ea ?_ | (refine H.st ?_; (conv => whnf); clear H; intro w H) | refine condT fun _ => ?_ | refine condF fun _ => ?_ | refine condNT fun _ => ?_ | refine condNF fun _ => ?_ | refine H.da (hc1 _ _ (by rfl)) ?_ | refine H.datw hc1 (by rfl) ?_ | refine H.datl hc1 (by rfl) ?_ | refine H.lw ?_ | refine H.ll ?_)); (conv => whnf))
    exact ⟨V1, hV1, H.sx, .inl ⟨hc, rfl⟩⟩
  obtain ⟨hc0, h60, hent, hcyc⟩ := catFault_zero hc
  rw [hc0]
  have e : visCode l gs day = rdFault gs day := by simp [visCode, hc]
  rw [e]
  ((repeat ((conv => whnf); first | refine an ?_ | ((first | refine H.nwD ?_ | refine H.nw ?_); clear H; intro w _ H) | refine H.ce ?_ | refine H.db ?_ | refine ea ?_ | (refine H.st ?_; (conv => whnf); clear H; intro w H) | refine condT fun _ => ?_ | refine condF fun _ => ?_ | refine condNT fun _ => ?_ | refine condNF fun _ => ?_ | refine H.da (hc1 _ _ (by rfl)) ?_ | refine H.datw hc1 (by rfl) ?_ | refine H.datl hc1 (by rfl) ?_ | refine H.lw ?_ | refine H.ll ?_)); (conv => whnf))
  refine (checkReader_spec H.data (hg.up hV1) day).use ?_
  rintro v w ⟨rfl, K⟩
  replace H := H.call K
  by_cases hr : (rdFault gs day).1 = 0
  rotate_left
  · ((repeat ((conv => whnf); first | refine an ?_ | ((first | refine H.nwD ?_ | refine H.nw ?_); clear H; intro w _ H) | refine H.ce ?_ | refine H.db ?_ | refine ea ?_ | (refine H.st ?_; (conv => whnf); clear H; intro w H) | refine condT fun _ => ?_ | refine condF fun _ => ?_ | refine condNT fun _ => ?_ | refine condNF fun _ => ?_ | refine H.da (hc1 _ _ (by rfl)) ?_ | refine H.datw hc1 (by rfl) ?_ | refine H.datl hc1 (by rfl) ?_ | refine H.lw ?_ | refine H.ll ?_)); (conv => whnf))
    ((first | refine draw_vc (id := 3) tabOk mixed [] [0, 1, 2] (by kernel_rfl) ?_ | refine draw_vc (id := 6) tabOk mixed [] [0, 1, 2] (by kernel_rfl) ?_); intro w hdw; replace H := Rel.ext H hdw.ext)
    ((repeat ((conv => whnf); first | refine an ?_ | ((first | refine H.nwD ?_ | refine H.nw ?_); clear H; intro w _ H) | refine H.ce ?_ | refine H.db ?_ | refine ea ?_ | (refine H.st ?_; (conv => whnf); clear H; intro w H) | refine condT fun _ => ?_ | refine condF fun _ => ?_ | refine condNT fun _ => ?_ | refine condNF fun _ => ?_ | refine H.da (hc1 _ _ (by rfl)) ?_ | refine H.datw hc1 (by rfl) ?_ | refine H.datl hc1 (by rfl) ?_ | refine H.lw ?_ | refine H.ll ?_)); (conv => whnf))
    exact ⟨V1, hV1, H.sx, .inl ⟨hr, rfl⟩⟩
  obtain ⟨hr0, hg4⟩ := rdFault_zero hr
  rw [hr0]
  ((repeat ((conv => whnf); first | refine an ?_ | ((first | refine H.nwD ?_ | refine H.nw ?_); clear H; intro w _ H) | refine H.ce ?_ | refine H.db ?_ | refine ea ?_ | (refine H.st ?_; (conv => whnf); clear H; intro w H) | refine condT fun _ => ?_ | refine condF fun _ => ?_ | refine condNT fun _ => ?_ | refine condNF fun _ => ?_ | refine H.da (hc1 _ _ (by rfl)) ?_ | refine H.datw hc1 (by rfl) ?_ | refine H.datl hc1 (by rfl) ?_ | refine H.lw ?_ | refine H.ll ?_)); (conv => whnf))
  replace H := H.rowNil 3 1
  refine loop_inv (S := Nat × Sl) tabOk [0, 1, 2, 3, 4, 5, 6, 7, 15, 21, 24, 25] (fun k => [(8, k.2.v), (26, iv k.1)]) (fun k w' => k.1 ≤ l.length ∧ ∃ V2, Sub V V2 ∧ Rel W V (.row k.2 3 1 ((picks (seen l gs day) k.1).flatMap intC) :: .blk b5 [iv 0, iv 0] 28 :: .blk b3 (rdC g day) 50 :: []) V2 w') (fun k _ => l.length - k.1) (0, ⟨none, 0, 0⟩) ?_
  (conv => whnf)
  refine ⟨(by repeat (first | exact trivial | refine ⟨rfl, ?_⟩)), ⟨by omega, V1, hV1, H.sx⟩, ?_⟩
  clear H
  rintro ⟨k, r⟩ w ⟨hk, V2, hV2, H⟩
  dsimp only at hk H
  have hpl := picks_len (seen l gs day) k
  by_cases hlt : k < l.length
  rotate_left
  · obtain rfl : k = l.length := by omega
    ((repeat ((conv => whnf); first | refine an ?_ | ((first | refine H.nwD ?_ | refine H.nw ?_); clear H; intro w _ H) | refine H.ce ?_ | refine H.db ?_ | refine ea ?_ | (refine H.st ?_; (conv => whnf); clear H; intro w H) | refine condT fun _ => ?_ | refine condF fun _ => ?_ | refine condNT fun _ => ?_ | refine condNF fun _ => ?_ | refine H.da (hc1 _ _ (by rfl)) ?_ | refine H.datw hc1 (by rfl) ?_ | refine H.datl hc1 (by rfl) ?_ | refine H.lw ?_ | refine H.ll ?_)); (conv => whnf))
    obtain ⟨V3, hV3, H, hr⟩ := Rel.freezeF H (fun _ => rfl) (by decide)
    exact ⟨V3, hV2.trans hV3, H.sx, .inr ⟨rfl, r, rfl, hr⟩⟩
  obtain ⟨hp, eh, hok, hc1⟩ := (hs.up hV2).get hlt
  have e0 : seen l gs day k = sees l[k] gs day := by simp [seen, hlt]
  have hgle := (groups_le hent hlt).1
  ((repeat ((conv => whnf); first | refine an ?_ | ((first | refine H.nwD ?_ | refine H.nw ?_); clear H; intro w _ H) | refine H.ce ?_ | refine H.db ?_ | refine ea ?_ | (refine H.st ?_; (conv => whnf); clear H; intro w H) | refine condT fun _ => ?_ | refine condF fun _ => ?_ | refine condNT fun _ => ?_ | refine condNF fun _ => ?_ | refine H.da (hc1 _ _ (by rfl)) ?_ | refine H.datw hc1 (by rfl) ?_ | refine H.datl hc1 (by rfl) ?_ | refine H.lw ?_ | refine H.ll ?_)); (conv => whnf))
  refine (maySee_spec H.data hok (by omega) (hg.up hV2) hgl day).use ?_
  rintro v w ⟨rfl, V3, hV3, K⟩
  replace H := H.call K
  (conv => whnf)
  refine condG_split (fun h2 => ?_) (fun h2 => ?_)
  · ((repeat ((conv => whnf); first | refine an ?_ | ((first | refine H.nwD ?_ | refine H.nw ?_); clear H; intro w _ H) | refine H.ce ?_ | refine H.db ?_ | refine ea ?_ | (refine H.st ?_; (conv => whnf); clear H; intro w H) | refine condT fun _ => ?_ | refine condF fun _ => ?_ | refine condNT fun _ => ?_ | refine condNF fun _ => ?_ | refine H.da (hc1 _ _ (by rfl)) ?_ | refine H.datw hc1 (by rfl) ?_ | refine H.datl hc1 (by rfl) ?_ | refine H.lw ?_ | refine H.ll ?_)); (conv => whnf))
    (refine Rel.app1_1 (f := intC) tabOk rfl rfl rfl rfl rfl (by decide) (fun _ => rfl) (by simp [Value.oneCell']) H (by simp; omega) (by omega) ?_; clear H; intro rn w H)
    ((repeat ((conv => whnf); first | refine an ?_ | ((first | refine H.nwD ?_ | refine H.nw ?_); clear H; intro w _ H) | refine H.ce ?_ | refine H.db ?_ | refine ea ?_ | (refine H.st ?_; (conv => whnf); clear H; intro w H) | refine condT fun _ => ?_ | refine condF fun _ => ?_ | refine condNT fun _ => ?_ | refine condNF fun _ => ?_ | refine H.da (hc1 _ _ (by rfl)) ?_ | refine H.datw hc1 (by rfl) ?_ | refine H.datl hc1 (by rfl) ?_ | refine H.lw ?_ | refine H.ll ?_)); (conv => whnf))
    refine ⟨(by repeat (first | exact trivial | refine ⟨rfl, ?_⟩)), (k + 1, rn), (by repeat (first | exact trivial | refine ⟨rfl, ?_⟩)), ⟨by omega, V3, hV2.trans hV3, ?_⟩, by omega⟩
    simp only [picks, e0, h2, if_true]
    exact H.sx
  · ((repeat ((conv => whnf); first | refine an ?_ | ((first | refine H.nwD ?_ | refine H.nw ?_); clear H; intro w _ H) | refine H.ce ?_ | refine H.db ?_ | refine ea ?_ | (refine H.st ?_; (conv => whnf); clear H; intro w H) | refine condT fun _ => ?_ | refine condF fun _ => ?_ | refine condNT fun _ => ?_ | refine condNF fun _ => ?_ | refine H.da (hc1 _ _ (by rfl)) ?_ | refine H.datw hc1 (by rfl) ?_ | refine H.datl hc1 (by rfl) ?_ | refine H.lw ?_ | refine H.ll ?_)); (conv => whnf))
    refine ⟨(by repeat (first | exact trivial | refine ⟨rfl, ?_⟩)), (k + 1, r), (by repeat (first | exact trivial | refine ⟨rfl, ?_⟩)), ⟨by omega, V3, hV2.trans hV3, ?_⟩, by omega⟩
    simp only [picks, e0, h2]
    exact H.sx
end
end Go.Proofs.YtlhgmigoncmcaaaGreat
