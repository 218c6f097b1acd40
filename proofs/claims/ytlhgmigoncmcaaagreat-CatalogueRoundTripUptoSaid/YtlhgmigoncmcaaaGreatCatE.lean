/-
  positions, Validate; Place, CatalogueFault.
-/
import Derived.Test.YtlhgmigoncmcaaaGreatCatC
namespace Go.Proofs.YtlhgmigoncmcaaaGreat
open Go Go.RowKit

/-! ### the plain law -/
def RefsApart (l : List Ent) : Prop := ∀ (i j : Nat) (hi : i < l.length) (hj : j < l.length), refOf l[i] = refOf l[j] → i = j
theorem place_none {l : List Ent} {r : RefD} (h : ∀ (i : Nat) (hi : i < l.length), refOf l[i] ≠ r) : place l r = none := by
  rw [place, List.findIdx?_eq_none_iff]
  intro e he
  obtain ⟨i, hi, rfl⟩ := List.getElem_of_mem he
  simp [h i hi]
theorem place_some {l : List Ent} {r : RefD} {i : Nat} (hi : i < l.length) (h : refOf l[i] = r) (hl : ∀ (j : Nat) (hj : j < i), refOf (l[j]'(by omega)) ≠ r) : place l r = some i := by
  rw [place, List.findIdx?_eq_some_iff_getElem]
  exact ⟨hi, by simp [h], fun j hj => by simp [hl j hj]⟩
theorem place_at {l : List Ent} {r : RefD} {i : Nat} (h : place l r = some i) : ∃ hi : i < l.length, refOf l[i] = r := by
  rw [place, List.findIdx?_eq_some_iff_getElem] at h
  obtain ⟨hi, h1, _⟩ := h
  exact ⟨hi, by simpa using h1⟩
/-- what is wrong with the entries by themselves and in their order -/
def entriesCode (l : List Ent) (i : Nat) : Int := entCode (l[i]?.getD default) (l.take i)
/-- a reference to an entry that is not before k -/
def cycR (l : List Ent) (k : Nat) (r : RefD) : Bool := match place l r with | some j => decide (k ≤ j) | none => false
def cycleAt (l : List Ent) (i : Nat) : Bool := ((l[i]?.getD default).sources).any (cycR l i)
/-- the first i below n with p i, or n -/
def firstAt (p : Nat → Bool) : Nat → Nat
  | 0 => 0
  | k + 1 => if firstAt p k < k then firstAt p k else if p k then k else k + 1
theorem firstAt_le (p : Nat → Bool) (n : Nat) : firstAt p n ≤ n := by
  induction n with
  | zero => simp [firstAt]
  | succ n ih =>
    simp only [firstAt]
    split
    · omega
    · split <;> omega
theorem firstAt_none {p : Nat → Bool} {k : Nat} (h : firstAt p k = k) (hp : p k = false) : firstAt p (k + 1) = k + 1 := by simp [firstAt, h, hp]
theorem firstAt_hit {p : Nat → Bool} {k n : Nat} (h : firstAt p k = k) (hp : p k = true) (hn : k < n) : firstAt p n = k := by
  have key : ∀ m, firstAt p (k + 1 + m) = k := by
    intro m
    induction m with
    | zero => simp [firstAt, h, hp]
    | succ m ih =>
      rw [← Nat.add_assoc, firstAt, ih, if_pos (by omega)]
  have := key (n - (k + 1))
  rwa [show k + 1 + (n - (k + 1)) = n by omega] at this
theorem firstAt_all {p : Nat → Bool} {n : Nat} (h : firstAt p n = n) {i : Nat} (hi : i < n) : p i = false := by
  induction n with
  | zero => omega
  | succ n ih =>
    have hle := firstAt_le p n
    simp only [firstAt] at h
    split at h
    · omega
    · split at h
      · omega
      · by_cases hin : i = n
        · subst hin
          rename_i h2
          simpa using h2
        · exact ih (by omega) (by omega)
/-- the fault of a catalogue: code and index -/
def catFault (l : List Ent) : Int × Int :=
  if 60 < l.length then (2, -1)
  else if firstAt (fun i => decide (entriesCode l i ≠ 0)) l.length < l.length then (entriesCode l (firstAt (fun i => decide (entriesCode l i ≠ 0)) l.length), (firstAt (fun i => decide (entriesCode l i ≠ 0)) l.length : Nat))
  else if firstAt (cycleAt l) l.length < l.length then (22, (firstAt (cycleAt l) l.length : Nat))
  else (0, 0)
theorem apart_of {l : List Ent} (h : ∀ i, i < l.length → entriesCode l i = 0) : RefsApart l := by
  have key : ∀ (i j : Nat) (hi : i < l.length) (hj : j < l.length), i < j → refOf l[i] ≠ refOf l[j] := by
    intro i j hi hj hij he
    have h1 := h j hj
    simp only [entriesCode, List.getElem?_eq_getElem hj, Option.getD_some, entCode] at h1
    split at h1
    · contradiction
    · split at h1
      · cases h1
      · rename_i h2
        refine h2 (List.any_eq_true.2 ⟨l[i], mem_take_of hij hi, ?_⟩)
        simp only [refOf, RefD.mk.injEq] at he
        simp only [later, decide_eq_true_eq]
        exact ⟨he.1, by rw [he.2]; exact Int.le_refl _⟩
  intro i j hi hj he
  rcases Nat.lt_trichotomy i j with h1 | h1 | h1
  · exact absurd he (key i j hi hj h1)
  · exact h1
  · exact absurd he.symm (key j i hj hi h1)
section
variable {V W : World}
theorem positions_spec (hV : Sub V W) {s : Sl} {l : List Ent} (hs : Ents V s l) (hl : l.length ≤ 1099511627776) (ha : RefsApart l) :
    Ret Tryz.prog 35 [s.v].toArray W fun v w' => ∃ b es c, v = .map (some b) ∧ MapIs es l ∧ Rel W V [.obj b (.map es c)] V w' := by
  have H := Rel.start hV
  have hlen := hs.len
  refine cal_of_vc tabOk Tryz.func35 rfl (by kernel_rfl) 20 rfl (by simp) [0, 2, 3, 4, 5, 7, 8, 9, 10] ?_
  ((repeat ((conv => whnf); first | refine an ?_ | ((first | refine H.nwD ?_ | refine H.nw ?_); clear H; intro w _ H) | refine H.ce ?_ | refine H.db ?_ | refine ea ?_ | (refine H.st ?_; (conv => whnf); clear H; intro w H) | refine condT fun _ => ?_ | refine condF fun _ => ?_ | refine condNT fun _ => ?_ | refine condNF fun _ => ?_ | refine H.da (hc1 _ _ (by rfl)) ?_ | refine H.datw hc1 (by rfl) ?_ | refine H.datl hc1 (by rfl) ?_ | refine H.da (hc2 _ _ (by rfl)) ?_ | refine H.datw hc2 (by rfl) ?_ | refine H.datl hc2 (by rfl) ?_ | refine H.lw ?_ | refine H.ll ?_)); (conv => whnf))
  refine Rel.makeMap H ?_
  clear H
  intro w b H
  ((repeat ((conv => whnf); first | refine an ?_ | ((first | refine H.nwD ?_ | refine H.nw ?_); clear H; intro w _ H) | refine H.ce ?_ | refine H.db ?_ | refine ea ?_ | (refine H.st ?_; (conv => whnf); clear H; intro w H) | refine condT fun _ => ?_ | refine condF fun _ => ?_ | refine condNT fun _ => ?_ | refine condNF fun _ => ?_ | refine H.da (hc1 _ _ (by rfl)) ?_ | refine H.datw hc1 (by rfl) ?_ | refine H.datl hc1 (by rfl) ?_ | refine H.da (hc2 _ _ (by rfl)) ?_ | refine H.datw hc2 (by rfl) ?_ | refine H.datl hc2 (by rfl) ?_ | refine H.lw ?_ | refine H.ll ?_)); (conv => whnf))
  refine loop_inv (S := Nat) tabOk [0, 2, 3, 7, 8] (fun k => [(9, iv k)]) (fun k w' => k ≤ l.length ∧ ∃ es c, MapIs es (l.take k) ∧ Rel W V [.obj b (.map es c)] V w') (fun k _ => l.length - k) 0 ?_
  (conv => whnf)
  refine ⟨(by repeat (first | exact trivial | refine ⟨rfl, ?_⟩)), ⟨by omega, #[], 0, MapIs.nil, H⟩, ?_⟩
  clear H
  rintro k w ⟨hk, es, c, hm, H⟩
  by_cases hlt : k < l.length
  rotate_left
  · ((repeat ((conv => whnf); first | refine an ?_ | ((first | refine H.nwD ?_ | refine H.nw ?_); clear H; intro w _ H) | refine H.ce ?_ | refine H.db ?_ | refine ea ?_ | (refine H.st ?_; (conv => whnf); clear H; intro w H) | refine condT fun _ => ?_ | refine condF fun _ => ?_ | refine condNT fun _ => ?_ | refine condNF fun _ => ?_ | refine H.da (hc1 _ _ (by rfl)) ?_ | refine H.datw hc1 (by rfl) ?_ | refine H.datl hc1 (by rfl) ?_ | refine H.da (hc2 _ _ (by rfl)) ?_ | refine H.datw hc2 (by rfl) ?_ | refine H.datl hc2 (by rfl) ?_ | refine H.lw ?_ | refine H.ll ?_)); (conv => whnf))
    rw [List.take_of_length_le (by omega)] at hm
    exact ⟨b, es, c, rfl, hm, H⟩
  obtain ⟨hp, eh, hok, hc1⟩ := hs.get hlt
  ((repeat ((conv => whnf); first | refine an ?_ | ((first | refine H.nwD ?_ | refine H.nw ?_); clear H; intro w _ H) | refine H.ce ?_ | refine H.db ?_ | refine ea ?_ | (refine H.st ?_; (conv => whnf); clear H; intro w H) | refine condT fun _ => ?_ | refine condF fun _ => ?_ | refine condNT fun _ => ?_ | refine condNF fun _ => ?_ | refine H.da (hc1 _ _ (by rfl)) ?_ | refine H.datw hc1 (by rfl) ?_ | refine H.datl hc1 (by rfl) ?_ | refine H.da (hc2 _ _ (by rfl)) ?_ | refine H.datw hc2 (by rfl) ?_ | refine H.datl hc2 (by rfl) ?_ | refine H.lw ?_ | refine H.ll ?_)); (conv => whnf))
  refine (reference_spec H.data l[k] eh).use ?_
  rintro v w ⟨rfl, K⟩
  replace H := H.call K
  (conv => whnf)
  replace H : Rel W V [.obj b (.map es c)] V w := H.sx
  have hkt : (l.take k).length = k := by simp; omega
  have hpn : place (l.take k) (refOf l[k]) = none := place_none fun i hi he => by
    simp only [List.getElem_take] at he
    simp at hi
    have := ha i k (by omega) hlt he
    omega
  have hput := @Rel.mapPut W V V w [] b c es (l.take k) l[k] H hm hpn
  rw [hkt] at hput
  refine hput ?_
  clear H
  intro w es' c' hm' H
  rw [← List.take_succ_eq_append_getElem hlt] at hm'
  ((repeat ((conv => whnf); first | refine an ?_ | ((first | refine H.nwD ?_ | refine H.nw ?_); clear H; intro w _ H) | refine H.ce ?_ | refine H.db ?_ | refine ea ?_ | (refine H.st ?_; (conv => whnf); clear H; intro w H) | refine condT fun _ => ?_ | refine condF fun _ => ?_ | refine condNT fun _ => ?_ | refine condNF fun _ => ?_ | refine H.da (hc1 _ _ (by rfl)) ?_ | refine H.datw hc1 (by rfl) ?_ | refine H.datl hc1 (by rfl) ?_ | refine H.da (hc2 _ _ (by rfl)) ?_ | refine H.datw hc2 (by rfl) ?_ | refine H.datl hc2 (by rfl) ?_ | refine H.lw ?_ | refine H.ll ?_)); (conv => whnf))
  exact ⟨(by repeat (first | exact trivial | refine ⟨rfl, ?_⟩)), k + 1, (by repeat (first | exact trivial | refine ⟨rfl, ?_⟩)), ⟨by omega, es', c', hm', H⟩, by omega⟩
abbrev catV (s : Sl) : Value := .agg #[s.v]
set_option maxRecDepth 100000 in
set_option maxHeartbeats 4000000 in
theorem validate_spec (hV : Sub V W) {s : Sl} {l : List Ent} (hs : Ents V s l) (hl : l.length ≤ 1099511627776) : Ret Tryz.prog 18 [catV s].toArray W fun v w' => v = faultV (catFault l).1 (catFault l).2 ∧ ∃ V', Sub V V' ∧ Rel W V [] V' w' := by
  have H := Rel.start hV
  have hlen := hs.len
  have hcap := hs.cap
  have F : catFault l = _ := catFault.eq_1 l
  refine cal_of_vc tabOk Tryz.func18 rfl (by kernel_rfl) 73 rfl (by simp) [0, 1, 2, 3, 4, 5, 6, 7, 8, 10, 11, 12, 16, 19, 20, 21, 22, 33, 42, 43, 44, 45, 50, 51, 52, 53, 67] ?_
  ((repeat ((conv => whnf); first | refine an ?_ | refine H.ce ?_ | refine H.db ?_ | refine ea ?_ | (refine H.st ?_; (conv => whnf); clear H; intro w H) | refine condT fun _ => ?_ | refine condF fun _ => ?_ | refine condNT fun _ => ?_ | refine condNF fun _ => ?_ | refine H.da (hc1 _ _ (by rfl)) ?_ | refine H.datw hc1 (by rfl) ?_ | refine H.datl hc1 (by rfl) ?_ | refine H.da (hc2 _ _ (by rfl)) ?_ | refine H.datw hc2 (by rfl) ?_ | refine H.datl hc2 (by rfl) ?_ | refine H.lw ?_ | refine H.ll ?_)); (conv => whnf))
  ((first | refine Rel.nwD H ?_ | refine Rel.nw H ?_); clear H; intro w b1 H)
  ((repeat ((conv => whnf); first | refine an ?_ | refine H.ce ?_ | refine H.db ?_ | refine ea ?_ | (refine H.st ?_; (conv => whnf); clear H; intro w H) | refine condT fun _ => ?_ | refine condF fun _ => ?_ | refine condNT fun _ => ?_ | refine condNF fun _ => ?_ | refine H.da (hc1 _ _ (by rfl)) ?_ | refine H.datw hc1 (by rfl) ?_ | refine H.datl hc1 (by rfl) ?_ | refine H.da (hc2 _ _ (by rfl)) ?_ | refine H.datw hc2 (by rfl) ?_ | refine H.datl hc2 (by rfl) ?_ | refine H.lw ?_ | refine H.ll ?_)); (conv => whnf))
  ((first | refine Rel.nwD H ?_ | refine Rel.nw H ?_); clear H; intro w b2 H)
  by_cases h60 : 60 < l.length
  · rw [if_pos h60] at F
    ((repeat ((conv => whnf); first | refine an ?_ | ((first | refine H.nwD ?_ | refine H.nw ?_); clear H; intro w _ H) | refine H.ce ?_ | refine H.db ?_ | refine ea ?_ | (refine H.st ?_; (conv => whnf); clear H; intro w H) | refine condT fun _ => ?_ | refine condF fun _ => ?_ | refine condNT fun _ => ?_ | refine condNF fun _ => ?_ | refine H.da (hc1 _ _ (by rfl)) ?_ | refine H.datw hc1 (by rfl) ?_ | refine H.datl hc1 (by rfl) ?_ | refine H.da (hc2 _ _ (by rfl)) ?_ | refine H.datw hc2 (by rfl) ?_ | refine H.datl hc2 (by rfl) ?_ | refine H.lw ?_ | refine H.ll ?_)); (conv => whnf))
    refine (fault_cat H.data 2 (-1)).use ?_
    rintro v w ⟨rfl, K⟩
    replace H := H.call K
    ((repeat ((conv => whnf); first | refine an ?_ | ((first | refine H.nwD ?_ | refine H.nw ?_); clear H; intro w _ H) | refine H.ce ?_ | refine H.db ?_ | refine ea ?_ | (refine H.st ?_; (conv => whnf); clear H; intro w H) | refine condT fun _ => ?_ | refine condF fun _ => ?_ | refine condNT fun _ => ?_ | refine condNF fun _ => ?_ | refine H.da (hc1 _ _ (by rfl)) ?_ | refine H.datw hc1 (by rfl) ?_ | refine H.datl hc1 (by rfl) ?_ | refine H.da (hc2 _ _ (by rfl)) ?_ | refine H.datw hc2 (by rfl) ?_ | refine H.datl hc2 (by rfl) ?_ | refine H.lw ?_ | refine H.ll ?_)); (conv => whnf))
    exact ⟨by rw [F], V, Sub.refl _, H.sx⟩
  rw [if_neg h60] at F
  ((repeat ((conv => whnf); first | refine an ?_ | ((first | refine H.nwD ?_ | refine H.nw ?_); clear H; intro w _ H) | refine H.ce ?_ | refine H.db ?_ | refine ea ?_ | (refine H.st ?_; (conv => whnf); clear H; intro w H) | refine condT fun _ => ?_ | refine condF fun _ => ?_ | refine condNT fun _ => ?_ | refine condNF fun _ => ?_ | refine H.da (hc1 _ _ (by rfl)) ?_ | refine H.datw hc1 (by rfl) ?_ | refine H.datl hc1 (by rfl) ?_ | refine H.da (hc2 _ _ (by rfl)) ?_ | refine H.datw hc2 (by rfl) ?_ | refine H.datl hc2 (by rfl) ?_ | refine H.lw ?_ | refine H.ll ?_)); (conv => whnf))
  refine SemC.cut 0 (fun _ : Unit => [(1, .pointer (some ⟨b1, 0, none⟩)), (2, .pointer (some ⟨b2, 0, none⟩))]) (fun _ w' => firstAt (fun i => decide (entriesCode l i ≠ 0)) l.length = l.length ∧ ∃ V', Sub V V' ∧ Rel W V [.blk b2 [iv 0, iv 0] 28, .blk b1 [s.v] 24] V' w') ?_ ?_
  · refine loop_inv (S := Nat) tabOk [0, 1, 2, 6, 7, 8, 10, 11, 12, 16, 19, 20, 42, 43, 44, 45, 50, 51, 52, 53, 67] (fun k => [(21, iv k)]) (fun k w' => k ≤ l.length ∧ firstAt (fun i => decide (entriesCode l i ≠ 0)) k = k ∧ ∃ V', Sub V V' ∧ Rel W V [.blk b2 [iv 0, iv 0] 28, .blk b1 [s.v] 24] V' w') (fun k _ => l.length - k) 0 ?_
    (conv => whnf)
    refine ⟨(by repeat (first | exact trivial | refine ⟨rfl, ?_⟩)), ⟨by omega, rfl, V, Sub.refl _, H⟩, ?_⟩
    clear H
    rintro k w ⟨hk, hz, V1, hV1, H⟩
    by_cases hlt : k < l.length
    rotate_left
    · ((repeat ((conv => whnf); first | refine an ?_ | ((first | refine H.nwD ?_ | refine H.nw ?_); clear H; intro w _ H) | refine H.ce ?_ | refine H.db ?_ | refine ea ?_ | (refine H.st ?_; (conv => whnf); clear H; intro w H) | refine condT fun _ => ?_ | refine condF fun _ => ?_ | refine condNT fun _ => ?_ | refine condNF fun _ => ?_ | refine H.da (hc1 _ _ (by rfl)) ?_ | refine H.datw hc1 (by rfl) ?_ | refine H.datl hc1 (by rfl) ?_ | refine H.da (hc2 _ _ (by rfl)) ?_ | refine H.datw hc2 (by rfl) ?_ | refine H.datl hc2 (by rfl) ?_ | refine H.lw ?_ | refine H.ll ?_)); (conv => whnf))
      have hkl : l.length = k := by omega
      exact ⟨(), (by repeat (first | exact trivial | refine ⟨rfl, ?_⟩)), by rw [hkl]; exact hz, V1, hV1, H⟩
    obtain ⟨hp, eh, hok, hc1⟩ := (hs.up hV1).get hlt
    have e0 : entriesCode l k = entCode l[k] (l.take k) := by simp [entriesCode, hlt]
    ((repeat ((conv => whnf); first | refine an ?_ | ((first | refine H.nwD ?_ | refine H.nw ?_); clear H; intro w _ H) | refine H.ce ?_ | refine H.db ?_ | refine ea ?_ | (refine H.st ?_; (conv => whnf); clear H; intro w H) | refine condT fun _ => ?_ | refine condF fun _ => ?_ | refine condNT fun _ => ?_ | refine condNF fun _ => ?_ | refine H.da (hc1 _ _ (by rfl)) ?_ | refine H.datw hc1 (by rfl) ?_ | refine H.datl hc1 (by rfl) ?_ | refine H.da (hc2 _ _ (by rfl)) ?_ | refine H.datw hc2 (by rfl) ?_ | refine H.datl hc2 (by rfl) ?_ | refine H.lw ?_ | refine H.ll ?_)); (conv => whnf))
    ((first | refine draw_vc (id := 6) tabOk mixed [] [0, 1, 2, 3, 4, 5, 6] (by kernel_rfl) ?_); intro w hdw; replace H := Rel.ext H hdw.ext)
    ((repeat ((conv => whnf); first | refine an ?_ | ((first | refine H.nwD ?_ | refine H.nw ?_); clear H; intro w _ H) | refine H.ce ?_ | refine H.db ?_ | refine ea ?_ | (refine H.st ?_; (conv => whnf); clear H; intro w H) | refine condT fun _ => ?_ | refine condF fun _ => ?_ | refine condNT fun _ => ?_ | refine condNF fun _ => ?_ | refine H.da (hc1 _ _ (by rfl)) ?_ | refine H.datw hc1 (by rfl) ?_ | refine H.datl hc1 (by rfl) ?_ | refine H.da (hc2 _ _ (by rfl)) ?_ | refine H.datw hc2 (by rfl) ?_ | refine H.datl hc2 (by rfl) ?_ | refine H.lw ?_ | refine H.ll ?_)); (conv => whnf))
    refine (checkEntry_spec H.data hok ((hs.up hV1).ctake hk) (by simp; omega)).use ?_
    rintro v w ⟨rfl, V2, hV2, K⟩
    replace H := H.call K
    (conv => whnf)
    refine condG_dec (fun h1 => ?_) (fun h1 => ?_)
    · have hf : firstAt (fun i => decide (entriesCode l i ≠ 0)) l.length = k := firstAt_hit hz (by rw [e0]; simpa using h1) hlt
      rw [hf, if_pos hlt, e0] at F
      ((repeat ((conv => whnf); first | refine an ?_ | ((first | refine H.nwD ?_ | refine H.nw ?_); clear H; intro w _ H) | refine H.ce ?_ | refine H.db ?_ | refine ea ?_ | (refine H.st ?_; (conv => whnf); clear H; intro w H) | refine condT fun _ => ?_ | refine condF fun _ => ?_ | refine condNT fun _ => ?_ | refine condNF fun _ => ?_ | refine H.da (hc1 _ _ (by rfl)) ?_ | refine H.datw hc1 (by rfl) ?_ | refine H.datl hc1 (by rfl) ?_ | refine H.da (hc2 _ _ (by rfl)) ?_ | refine H.datw hc2 (by rfl) ?_ | refine H.datl hc2 (by rfl) ?_ | refine H.lw ?_ | refine H.ll ?_)); (conv => whnf))
      refine (fault_cat H.data _ _).use ?_
      rintro v w ⟨rfl, K⟩
      replace H := H.call K
      ((repeat ((conv => whnf); first | refine an ?_ | ((first | refine H.nwD ?_ | refine H.nw ?_); clear H; intro w _ H) | refine H.ce ?_ | refine H.db ?_ | refine ea ?_ | (refine H.st ?_; (conv => whnf); clear H; intro w H) | refine condT fun _ => ?_ | refine condF fun _ => ?_ | refine condNT fun _ => ?_ | refine condNF fun _ => ?_ | refine H.da (hc1 _ _ (by rfl)) ?_ | refine H.datw hc1 (by rfl) ?_ | refine H.datl hc1 (by rfl) ?_ | refine H.da (hc2 _ _ (by rfl)) ?_ | refine H.datw hc2 (by rfl) ?_ | refine H.datl hc2 (by rfl) ?_ | refine H.lw ?_ | refine H.ll ?_)); (conv => whnf))
      exact ⟨by rw [F], V2, hV1.trans hV2, H.sx⟩
    · ((repeat ((conv => whnf); first | refine an ?_ | ((first | refine H.nwD ?_ | refine H.nw ?_); clear H; intro w _ H) | refine H.ce ?_ | refine H.db ?_ | refine ea ?_ | (refine H.st ?_; (conv => whnf); clear H; intro w H) | refine condT fun _ => ?_ | refine condF fun _ => ?_ | refine condNT fun _ => ?_ | refine condNF fun _ => ?_ | refine H.da (hc1 _ _ (by rfl)) ?_ | refine H.datw hc1 (by rfl) ?_ | refine H.datl hc1 (by rfl) ?_ | refine H.da (hc2 _ _ (by rfl)) ?_ | refine H.datw hc2 (by rfl) ?_ | refine H.datl hc2 (by rfl) ?_ | refine H.lw ?_ | refine H.ll ?_)); (conv => whnf))
      exact ⟨(by repeat (first | exact trivial | refine ⟨rfl, ?_⟩)), k + 1, (by repeat (first | exact trivial | refine ⟨rfl, ?_⟩)), ⟨by omega, firstAt_none hz (by rw [e0]; simpa using h1), V2, hV1.trans hV2, H.sx⟩, by omega⟩
  rintro _ w ⟨hz, V1, hV1, H⟩
  rw [if_neg (by omega)] at F
  have ha : RefsApart l := apart_of fun i hi => by simpa using firstAt_all hz hi
  ((repeat ((conv => whnf); first | refine an ?_ | ((first | refine H.nwD ?_ | refine H.nw ?_); clear H; intro w _ H) | refine H.ce ?_ | refine H.db ?_ | refine ea ?_ | (refine H.st ?_; (conv => whnf); clear H; intro w H) | refine condT fun _ => ?_ | refine condF fun _ => ?_ | refine condNT fun _ => ?_ | refine condNF fun _ => ?_ | refine H.da (hc1 _ _ (by rfl)) ?_ | refine H.datw hc1 (by rfl) ?_ | refine H.datl hc1 (by rfl) ?_ | refine H.da (hc2 _ _ (by rfl)) ?_ | refine H.datw hc2 (by rfl) ?_ | refine H.datl hc2 (by rfl) ?_ | refine H.lw ?_ | refine H.ll ?_)); (conv => whnf))
  refine (positions_spec H.data (hs.up hV1) hl ha).use ?_
  rintro v w ⟨bm, es, c, rfl, hm, K⟩
  replace H := H.call K
  ((repeat ((conv => whnf); first | refine an ?_ | ((first | refine H.nwD ?_ | refine H.nw ?_); clear H; intro w _ H) | refine H.ce ?_ | refine H.db ?_ | refine ea ?_ | (refine H.st ?_; (conv => whnf); clear H; intro w H) | refine condT fun _ => ?_ | refine condF fun _ => ?_ | refine condNT fun _ => ?_ | refine condNF fun _ => ?_ | refine H.da (hc1 _ _ (by rfl)) ?_ | refine H.datw hc1 (by rfl) ?_ | refine H.datl hc1 (by rfl) ?_ | refine H.da (hc2 _ _ (by rfl)) ?_ | refine H.datw hc2 (by rfl) ?_ | refine H.datl hc2 (by rfl) ?_ | refine H.lw ?_ | refine H.ll ?_)); (conv => whnf))
  refine SemC.cut 2 (fun _ : Unit => [(2, .pointer (some ⟨b2, 0, none⟩))]) (fun _ w' => firstAt (cycleAt l) l.length = l.length ∧ Rel W V [.obj bm (.map es c), .blk b2 [iv 0, iv 0] 28, .blk b1 [s.v] 24] V1 w') ?_ ?_
  · refine loop_inv (S := Nat) tabOk [0, 1, 2, 3, 4, 5, 6, 16, 19, 20, 21, 22, 33, 42, 43] (fun k => [(44, iv k)]) (fun k w' => k ≤ l.length ∧ firstAt (cycleAt l) k = k ∧ Rel W V [.obj bm (.map es c), .blk b2 [iv 0, iv 0] 28, .blk b1 [s.v] 24] V1 w') (fun k _ => l.length - k) 0 ?_
    (conv => whnf)
    refine ⟨(by repeat (first | exact trivial | refine ⟨rfl, ?_⟩)), ⟨by omega, rfl, H⟩, ?_⟩
    clear H
    rintro k w ⟨hk, hz2, H⟩
    by_cases hlt : k < l.length
    rotate_left
    · ((repeat ((conv => whnf); first | refine an ?_ | ((first | refine H.nwD ?_ | refine H.nw ?_); clear H; intro w _ H) | refine H.ce ?_ | refine H.db ?_ | refine ea ?_ | (refine H.st ?_; (conv => whnf); clear H; intro w H) | refine condT fun _ => ?_ | refine condF fun _ => ?_ | refine condNT fun _ => ?_ | refine condNF fun _ => ?_ | refine H.da (hc1 _ _ (by rfl)) ?_ | refine H.datw hc1 (by rfl) ?_ | refine H.datl hc1 (by rfl) ?_ | refine H.da (hc2 _ _ (by rfl)) ?_ | refine H.datw hc2 (by rfl) ?_ | refine H.datl hc2 (by rfl) ?_ | refine H.lw ?_ | refine H.ll ?_)); (conv => whnf))
      have hkl : l.length = k := by omega
      exact ⟨(), (by repeat (first | exact trivial | refine ⟨rfl, ?_⟩)), by rw [hkl]; exact hz2, H⟩
    obtain ⟨hp, eh, hok, hc1⟩ := (hs.up hV1).get hlt
    have hso := hok.so.len
    have hsl : l[k].sources.length ≤ 4 := by
      have h1 : entriesCode l k = 0 := by simpa using firstAt_all hz hlt
      simp only [entriesCode, List.getElem?_eq_getElem hlt, Option.getD_some, entCode] at h1
      split at h1
      · contradiction
      · rename_i h2
        have h2 : entCode1 l[k] = 0 := Decidable.byContradiction h2
        rw [entCode1] at h2
        refine Decidable.byContradiction fun h4 => ?_
        have h4 : 4 < l[k].sources.length := by omega
        simp only [h4, if_true] at h2
        repeat' split at h2
        all_goals omega
    ((repeat ((conv => whnf); first | refine an ?_ | refine H.ce ?_ | refine H.db ?_ | refine ea ?_ | (refine H.st ?_; (conv => whnf); clear H; intro w H) | refine condT fun _ => ?_ | refine condF fun _ => ?_ | refine condNT fun _ => ?_ | refine condNF fun _ => ?_ | refine H.da (hc1 _ _ (by rfl)) ?_ | refine H.datw hc1 (by rfl) ?_ | refine H.datl hc1 (by rfl) ?_ | refine H.da (hc2 _ _ (by rfl)) ?_ | refine H.datw hc2 (by rfl) ?_ | refine H.datl hc2 (by rfl) ?_ | refine H.lw ?_ | refine H.ll ?_)); (conv => whnf))
    ((first | refine Rel.nwD H ?_ | refine Rel.nw H ?_); clear H; intro w b8 H)
    ((repeat ((conv => whnf); first | refine an ?_ | ((first | refine H.nwD ?_ | refine H.nw ?_); clear H; intro w _ H) | refine H.ce ?_ | refine H.db ?_ | refine ea ?_ | (refine H.st ?_; (conv => whnf); clear H; intro w H) | refine condT fun _ => ?_ | refine condF fun _ => ?_ | refine condNT fun _ => ?_ | refine condNF fun _ => ?_ | refine H.da (hc1 _ _ (by rfl)) ?_ | refine H.datw hc1 (by rfl) ?_ | refine H.datl hc1 (by rfl) ?_ | refine H.da (hc2 _ _ (by rfl)) ?_ | refine H.datw hc2 (by rfl) ?_ | refine H.datl hc2 (by rfl) ?_ | refine H.lw ?_ | refine H.ll ?_)); (conv => whnf))
    refine SemC.cut 4 (fun _ : Unit => [(1, .pointer (some ⟨b1, 0, none⟩)), (2, .pointer (some ⟨b2, 0, none⟩)), (6, .map (some bm)), (42, s.v), (43, iv (s.len : Nat)), (44, iv k)]) (fun _ w' => cycleAt l k = false ∧ Rel W V [.obj bm (.map es c), .blk b2 [iv 0, iv 0] 28, .blk b1 [s.v] 24] V1 w') ?_ ?_
    · refine loop_inv (S := Nat) tabOk [0, 1, 2, 3, 4, 5, 6, 7, 8, 16, 19, 20, 21, 22, 33, 42, 43, 44, 45, 50, 51] (fun m => [(52, iv m)]) (fun m w' => m ≤ l[k].sources.length ∧ (l[k].sources.take m).any (cycR l k) = false ∧ Rel W V [.blk b8 (entC l[k] eh) 61, .obj bm (.map es c), .blk b2 [iv 0, iv 0] 28, .blk b1 [s.v] 24] V1 w') (fun m _ => l[k].sources.length - m) 0 ?_
      (conv => whnf)
      refine ⟨(by repeat (first | exact trivial | refine ⟨rfl, ?_⟩)), ⟨by omega, by simp, H⟩, ?_⟩
      clear H
      rintro m w ⟨hm', hany, H⟩
      have e0 : cycleAt l k = l[k].sources.any (cycR l k) := by simp [cycleAt, hlt]
      by_cases hmlt : m < l[k].sources.length
      rotate_left
      · ((repeat ((conv => whnf); first | refine an ?_ | ((first | refine H.nwD ?_ | refine H.nw ?_); clear H; intro w _ H) | refine H.ce ?_ | refine H.db ?_ | refine ea ?_ | (refine H.st ?_; (conv => whnf); clear H; intro w H) | refine condT fun _ => ?_ | refine condF fun _ => ?_ | refine condNT fun _ => ?_ | refine condNF fun _ => ?_ | refine H.da (hc1 _ _ (by rfl)) ?_ | refine H.datw hc1 (by rfl) ?_ | refine H.datl hc1 (by rfl) ?_ | refine H.da (hc2 _ _ (by rfl)) ?_ | refine H.datw hc2 (by rfl) ?_ | refine H.datl hc2 (by rfl) ?_ | refine H.lw ?_ | refine H.ll ?_)); (conv => whnf))
        rw [List.take_of_length_le (by omega)] at hany
        exact ⟨(), (by repeat (first | exact trivial | refine ⟨rfl, ?_⟩)), by rw [e0]; exact hany, H.sx⟩
      obtain ⟨hp2, hc2, hc2'⟩ := hok.so.get hmlt
      ((repeat ((conv => whnf); first | refine an ?_ | ((first | refine H.nwD ?_ | refine H.nw ?_); clear H; intro w _ H) | refine H.ce ?_ | refine H.db ?_ | refine ea ?_ | (refine H.st ?_; (conv => whnf); clear H; intro w H) | refine condT fun _ => ?_ | refine condF fun _ => ?_ | refine condNT fun _ => ?_ | refine condNF fun _ => ?_ | refine H.da (hc1 _ _ (by rfl)) ?_ | refine H.datw hc1 (by rfl) ?_ | refine H.datl hc1 (by rfl) ?_ | refine H.da (hc2 _ _ (by rfl)) ?_ | refine H.datw hc2 (by rfl) ?_ | refine H.datl hc2 (by rfl) ?_ | refine H.lw ?_ | refine H.ll ?_)); (conv => whnf))
      refine Rel.lookupAt (r := l[k].sources[m]) (i := 2) H rfl hm ?_
      cases hpl : place l l[k].sources[m] with
      | none =>
        ((repeat ((conv => whnf); first | refine an ?_ | ((first | refine H.nwD ?_ | refine H.nw ?_); clear H; intro w _ H) | refine H.ce ?_ | refine H.db ?_ | refine ea ?_ | (refine H.st ?_; (conv => whnf); clear H; intro w H) | refine condT fun _ => ?_ | refine condF fun _ => ?_ | refine condNT fun _ => ?_ | refine condNF fun _ => ?_ | refine H.da (hc1 _ _ (by rfl)) ?_ | refine H.datw hc1 (by rfl) ?_ | refine H.datl hc1 (by rfl) ?_ | refine H.da (hc2 _ _ (by rfl)) ?_ | refine H.datw hc2 (by rfl) ?_ | refine H.datl hc2 (by rfl) ?_ | refine H.lw ?_ | refine H.ll ?_)); (conv => whnf))
        exact ⟨(by repeat (first | exact trivial | refine ⟨rfl, ?_⟩)), m + 1, (by repeat (first | exact trivial | refine ⟨rfl, ?_⟩)), ⟨by omega, by rw [any_take hmlt, hany]; simp [cycR, hpl], H.sx⟩, by omega⟩
      | some j =>
        have hj : (Option.getD (some j) 0) = j := rfl
        obtain ⟨hjl, _⟩ := place_at hpl
        ((repeat ((conv => whnf); first | refine an ?_ | ((first | refine H.nwD ?_ | refine H.nw ?_); clear H; intro w _ H) | refine H.ce ?_ | refine H.db ?_ | refine ea ?_ | (refine H.st ?_; (conv => whnf); clear H; intro w H) | refine condT fun _ => ?_ | refine condF fun _ => ?_ | refine condNT fun _ => ?_ | refine condNF fun _ => ?_ | refine H.da (hc1 _ _ (by rfl)) ?_ | refine H.datw hc1 (by rfl) ?_ | refine H.datl hc1 (by rfl) ?_ | refine H.da (hc2 _ _ (by rfl)) ?_ | refine H.datw hc2 (by rfl) ?_ | refine H.datl hc2 (by rfl) ?_ | refine H.lw ?_ | refine H.ll ?_)); (conv => whnf))
        refine condG_dec (fun h1 => ?_) (fun h1 => ?_)
        · have h1' : k ≤ j := by have : (k : Int) ≤ (j : Int) := h1; omega
          have hcy : cycleAt l k = true := by
            rw [e0, List.any_eq_true]
            exact ⟨l[k].sources[m], List.getElem_mem hmlt, by simp [cycR, hpl, h1']⟩
          have hf : firstAt (cycleAt l) l.length = k := firstAt_hit hz2 hcy hlt
          rw [hf, if_pos hlt] at F
          ((repeat ((conv => whnf); first | refine an ?_ | ((first | refine H.nwD ?_ | refine H.nw ?_); clear H; intro w _ H) | refine H.ce ?_ | refine H.db ?_ | refine ea ?_ | (refine H.st ?_; (conv => whnf); clear H; intro w H) | refine condT fun _ => ?_ | refine condF fun _ => ?_ | refine condNT fun _ => ?_ | refine condNF fun _ => ?_ | refine H.da (hc1 _ _ (by rfl)) ?_ | refine H.datw hc1 (by rfl) ?_ | refine H.datl hc1 (by rfl) ?_ | refine H.da (hc2 _ _ (by rfl)) ?_ | refine H.datw hc2 (by rfl) ?_ | refine H.datl hc2 (by rfl) ?_ | refine H.lw ?_ | refine H.ll ?_)); (conv => whnf))
          refine (fault_cat H.data 22 _).use ?_
          rintro v w ⟨rfl, K⟩
          replace H := H.call K
          ((repeat ((conv => whnf); first | refine an ?_ | ((first | refine H.nwD ?_ | refine H.nw ?_); clear H; intro w _ H) | refine H.ce ?_ | refine H.db ?_ | refine ea ?_ | (refine H.st ?_; (conv => whnf); clear H; intro w H) | refine condT fun _ => ?_ | refine condF fun _ => ?_ | refine condNT fun _ => ?_ | refine condNF fun _ => ?_ | refine H.da (hc1 _ _ (by rfl)) ?_ | refine H.datw hc1 (by rfl) ?_ | refine H.datl hc1 (by rfl) ?_ | refine H.da (hc2 _ _ (by rfl)) ?_ | refine H.datw hc2 (by rfl) ?_ | refine H.datl hc2 (by rfl) ?_ | refine H.lw ?_ | refine H.ll ?_)); (conv => whnf))
          exact ⟨by rw [F], V1, hV1, H.sx⟩
        · have h1' : ¬ k ≤ j := by have : ¬ (k : Int) ≤ (j : Int) := h1; omega
          ((repeat ((conv => whnf); first | refine an ?_ | ((first | refine H.nwD ?_ | refine H.nw ?_); clear H; intro w _ H) | refine H.ce ?_ | refine H.db ?_ | refine ea ?_ | (refine H.st ?_; (conv => whnf); clear H; intro w H) | refine condT fun _ => ?_ | refine condF fun _ => ?_ | refine condNT fun _ => ?_ | refine condNF fun _ => ?_ | refine H.da (hc1 _ _ (by rfl)) ?_ | refine H.datw hc1 (by rfl) ?_ | refine H.datl hc1 (by rfl) ?_ | refine H.da (hc2 _ _ (by rfl)) ?_ | refine H.datw hc2 (by rfl) ?_ | refine H.datl hc2 (by rfl) ?_ | refine H.lw ?_ | refine H.ll ?_)); (conv => whnf))
          exact ⟨(by repeat (first | exact trivial | refine ⟨rfl, ?_⟩)), m + 1, (by repeat (first | exact trivial | refine ⟨rfl, ?_⟩)), ⟨by omega, by rw [any_take hmlt, hany]; simp [cycR, hpl]; omega, H.sx⟩, by omega⟩
    · rintro _ w ⟨hcy, H⟩
      ((repeat ((conv => whnf); first | refine an ?_ | ((first | refine H.nwD ?_ | refine H.nw ?_); clear H; intro w _ H) | refine H.ce ?_ | refine H.db ?_ | refine ea ?_ | (refine H.st ?_; (conv => whnf); clear H; intro w H) | refine condT fun _ => ?_ | refine condF fun _ => ?_ | refine condNT fun _ => ?_ | refine condNF fun _ => ?_ | refine H.da (hc1 _ _ (by rfl)) ?_ | refine H.datw hc1 (by rfl) ?_ | refine H.datl hc1 (by rfl) ?_ | refine H.da (hc2 _ _ (by rfl)) ?_ | refine H.datw hc2 (by rfl) ?_ | refine H.datl hc2 (by rfl) ?_ | refine H.lw ?_ | refine H.ll ?_)); (conv => whnf))
      exact ⟨(by repeat (first | exact trivial | refine ⟨rfl, ?_⟩)), k + 1, (by repeat (first | exact trivial | refine ⟨rfl, ?_⟩)), ⟨by omega, firstAt_none hz2 hcy, H⟩, by omega⟩
  rintro _ w ⟨hz2, H⟩
  rw [if_neg (by omega)] at F
  ((repeat ((conv => whnf); first | refine an ?_ | ((first | refine H.nwD ?_ | refine H.nw ?_); clear H; intro w _ H) | refine H.ce ?_ | refine H.db ?_ | refine ea ?_ | (refine H.st ?_; (conv => whnf); clear H; intro w H) | refine condT fun _ => ?_ | refine condF fun _ => ?_ | refine condNT fun _ => ?_ | refine condNF fun _ => ?_ | refine H.da (hc1 _ _ (by rfl)) ?_ | refine H.datw hc1 (by rfl) ?_ | refine H.datl hc1 (by rfl) ?_ | refine H.da (hc2 _ _ (by rfl)) ?_ | refine H.datw hc2 (by rfl) ?_ | refine H.datl hc2 (by rfl) ?_ | refine H.lw ?_ | refine H.ll ?_)); (conv => whnf))
  exact ⟨by rw [F], V1, hV1, H.sx⟩
end
end Go.Proofs.YtlhgmigoncmcaaaGreat
