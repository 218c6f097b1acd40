/-
  History, Find.
-/
import Derived.Test.YtlhgmigoncmcaaaGreatCatF
import Derived.Test.YtlhgmigoncmcaaaGreatVcT
namespace Go.Proofs.YtlhgmigoncmcaaaGreat
open Go Go.RowKit

abbrev intC (x : Int) : List Value := [iv x]
abbrev Ints := SlF intC
/-- the numbers below k with p -/
def picks (p : Nat → Bool) : Nat → List Int
  | 0 => []
  | k + 1 => if p k then picks p k ++ [(k : Int)] else picks p k
theorem picks_len (p : Nat → Bool) (k : Nat) : (picks p k).length ≤ k := by
  induction k with
  | zero => simp [picks]
  | succ k ih =>
    simp only [picks]
    split
    · simp; omega
    · omega
theorem picks_mem {p : Nat → Bool} {k : Nat} {x : Int} : x ∈ picks p k ↔ ∃ i : Nat, x = i ∧ i < k ∧ p i = true := by
  induction k with
  | zero => simp [picks]
  | succ k ih =>
    simp only [picks]
    split
    · rename_i h
      simp only [List.mem_append, ih, List.mem_singleton]
      constructor
      · rintro (⟨i, rfl, h1, h2⟩ | rfl)
        · exact ⟨i, rfl, by omega, h2⟩
        · exact ⟨k, rfl, by omega, h⟩
      · rintro ⟨i, rfl, h1, h2⟩
        by_cases e : i = k
        · exact .inr (by rw [e])
        · exact .inl ⟨i, rfl, by omega, h2⟩
    · rename_i h
      rw [ih]
      constructor
      · rintro ⟨i, rfl, h1, h2⟩; exact ⟨i, rfl, by omega, h2⟩
      · rintro ⟨i, rfl, h1, h2⟩
        refine ⟨i, rfl, ?_, h2⟩
        by_cases e : i = k
        · subst e; exact absurd h2 h
        · omega
def named (l : List Ent) (name : List UInt8) (i : Nat) : Bool := decide ((l[i]?.getD default).name = name)
section
variable {V W : World}
/-- a list of numbers, or a fault -/
structure NumsOr (W V : World) (c i : Int) (xs : List Int) (v : Value) (w' : World) : Prop where
  ex : ∃ V', Sub V V' ∧ Rel W V [] V' w' ∧ ((c ≠ 0 ∧ v = .tuple #[.slice none 0 0, faultV c i]) ∨ (c = 0 ∧ ∃ s : Sl, v = .tuple #[s.v, faultV 0 0] ∧ Ints V' s xs))
theorem catFault_zero {l : List Ent} (h : (catFault l).1 = 0) : catFault l = (0, 0) ∧ l.length ≤ 60 ∧ (∀ i, i < l.length → entriesCode l i = 0) ∧ ∀ i, i < l.length → cycleAt l i = false := by
  unfold catFault at h ⊢
  split at h
  · cases h
  · rename_i h1
    rw [if_neg h1]
    split at h
    · rename_i h2
      exfalso
      have key : ∀ (p : Nat → Bool) n, firstAt p n < n → p (firstAt p n) = true := by
        intro p n
        induction n with
        | zero => intro h; omega
        | succ n ih =>
          intro h
          simp only [firstAt] at h ⊢
          split
          · rename_i h3; exact ih h3
          · rename_i h3
            rw [if_neg h3] at h
            split
            · rename_i h4; exact h4
            · rename_i h4; rw [if_neg h4] at h; omega
      have := key _ _ h2
      simp only [decide_eq_true_eq] at this
      exact this h
    · rename_i h2
      rw [if_neg h2]
      split at h
      · cases h
      · rename_i h3
        rw [if_neg h3]
        refine ⟨rfl, by omega, fun i hi => ?_, fun i hi => ?_⟩
        · have := firstAt_all (p := fun i => decide (entriesCode l i ≠ 0)) (n := l.length) (by have := firstAt_le (fun i => decide (entriesCode l i ≠ 0)) l.length; omega) hi
          simpa using this
        · exact firstAt_all (n := l.length) (by have := firstAt_le (cycleAt l) l.length; omega) hi
def histCode (l : List Ent) (name : List UInt8) : Int × Int := if (catFault l).1 ≠ 0 then catFault l else if nameOk name = false then (7, -2) else (0, 0)
set_option maxRecDepth 100000 in
set_option maxHeartbeats 4000000 in
theorem history_spec (hV : Sub V W) {s : Sl} {l : List Ent} (hs : Ents V s l) (hl : l.length ≤ 1099511627776) (name : List UInt8) : Ret Tryz.prog 30 [catV s, str name].toArray W (NumsOr W V (histCode l name).1 (histCode l name).2 (picks (named l name) l.length)) := by
  have H := Rel.start hV
  have hlen := hs.len
  refine cal_of_vc tabOk Tryz.func30 rfl (by kernel_rfl) 39 rfl (by simp) [0, 1, 2, 4, 5, 6, 7, 8, 9, 14, 18, 21, 22, 23, 24, 31] ?_
  ((repeat ((conv => whnf); first | refine an ?_ | refine H.ce ?_ | refine H.db ?_ | refine ea ?_ | (refine H.st ?_; (conv => whnf); clear H; intro w H) | refine condT fun _ => ?_ | refine condF fun _ => ?_ | refine condNT fun _ => ?_ | refine condNF fun _ => ?_ | refine H.da (hc1 _ _ (by rfl)) ?_ | refine H.datw hc1 (by rfl) ?_ | refine H.datl hc1 (by rfl) ?_ | refine H.lw ?_ | refine H.ll ?_)); (conv => whnf))
  ((first | refine Rel.nwD H ?_ | refine Rel.nw H ?_); clear H; intro w b2 H)
  ((repeat ((conv => whnf); first | refine an ?_ | refine H.ce ?_ | refine H.db ?_ | refine ea ?_ | (refine H.st ?_; (conv => whnf); clear H; intro w H) | refine condT fun _ => ?_ | refine condF fun _ => ?_ | refine condNT fun _ => ?_ | refine condNF fun _ => ?_ | refine H.da (hc1 _ _ (by rfl)) ?_ | refine H.datw hc1 (by rfl) ?_ | refine H.datl hc1 (by rfl) ?_ | refine H.lw ?_ | refine H.ll ?_)); (conv => whnf))
  ((first | refine Rel.nwD H ?_ | refine Rel.nw H ?_); clear H; intro w b5 H)
  ((repeat ((conv => whnf); first | refine an ?_ | ((first | refine H.nwD ?_ | refine H.nw ?_); clear H; intro w _ H) | refine H.ce ?_ | refine H.db ?_ | refine ea ?_ | (refine H.st ?_; (conv => whnf); clear H; intro w H) | refine condT fun _ => ?_ | refine condF fun _ => ?_ | refine condNT fun _ => ?_ | refine condNF fun _ => ?_ | refine H.da (hc1 _ _ (by rfl)) ?_ | refine H.datw hc1 (by rfl) ?_ | refine H.datl hc1 (by rfl) ?_ | refine H.lw ?_ | refine H.ll ?_)); (conv => whnf))
  refine (validate_spec H.data hs hl).use ?_
  rintro v w ⟨rfl, V1, hV1, K⟩
  replace H := H.call K
  by_cases hc : (catFault l).1 = 0
  rotate_left
  · have e : histCode l name = catFault l := by simp [histCode, hc]
    rw [e]
    ((repeat ((conv => whnf); first | refine an ?_ | ((first | refine H.nwD ?_ | refine H.nw ?_); clear H; intro w _ H) | refine H.ce ?_ | refine H.db ?_ | refine ea ?_ | (refine H.st ?_; (conv => whnf); clear H; intro w H) | refine condT fun _ => ?_ | refine condF fun _ => ?_ | refine condNT fun _ => ?_ | refine condNF fun _ => ?_ | refine H.da (hc1 _ _ (by rfl)) ?_ | refine H.datw hc1 (by rfl) ?_ | refine H.datl hc1 (by rfl) ?_ | refine H.lw ?_ | refine H.ll ?_)); (conv => whnf))
    ((first | refine draw_vc (id := 3) tabOk mixed [] [0, 1, 2] (by kernel_rfl) ?_); intro w hdw; replace H := Rel.ext H hdw.ext)
    ((repeat ((conv => whnf); first | refine an ?_ | ((first | refine H.nwD ?_ | refine H.nw ?_); clear H; intro w _ H) | refine H.ce ?_ | refine H.db ?_ | refine ea ?_ | (refine H.st ?_; (conv => whnf); clear H; intro w H) | refine condT fun _ => ?_ | refine condF fun _ => ?_ | refine condNT fun _ => ?_ | refine condNF fun _ => ?_ | refine H.da (hc1 _ _ (by rfl)) ?_ | refine H.datw hc1 (by rfl) ?_ | refine H.datl hc1 (by rfl) ?_ | refine H.lw ?_ | refine H.ll ?_)); (conv => whnf))
    exact ⟨V1, hV1, H.sx, .inl ⟨hc, rfl⟩⟩
  obtain ⟨hc0, h60, hent, hcyc⟩ := catFault_zero hc
  rw [hc0]
  have e : histCode l name = if nameOk name = false then (7, -2) else (0, 0) := by simp [histCode, hc]
  ((repeat ((conv => whnf); first | refine an ?_ | ((first | refine H.nwD ?_ | refine H.nw ?_); clear H; intro w _ H) | refine H.ce ?_ | refine H.db ?_ | refine ea ?_ | (refine H.st ?_; (conv => whnf); clear H; intro w H) | refine condT fun _ => ?_ | refine condF fun _ => ?_ | refine condNT fun _ => ?_ | refine condNF fun _ => ?_ | refine H.da (hc1 _ _ (by rfl)) ?_ | refine H.datw hc1 (by rfl) ?_ | refine H.datl hc1 (by rfl) ?_ | refine H.lw ?_ | refine H.ll ?_)); (conv => whnf))
  refine (name_spec H.data name).use ?_
  rintro v w ⟨rfl, K⟩
  replace H := H.call K
  (conv => whnf)
  refine condG_split (fun h1 => ?_) (fun h1 => ?_)
  · rw [if_pos (by simpa using h1)] at e
    rw [e]
    ((repeat ((conv => whnf); first | refine an ?_ | ((first | refine H.nwD ?_ | refine H.nw ?_); clear H; intro w _ H) | refine H.ce ?_ | refine H.db ?_ | refine ea ?_ | (refine H.st ?_; (conv => whnf); clear H; intro w H) | refine condT fun _ => ?_ | refine condF fun _ => ?_ | refine condNT fun _ => ?_ | refine condNF fun _ => ?_ | refine H.da (hc1 _ _ (by rfl)) ?_ | refine H.datw hc1 (by rfl) ?_ | refine H.datl hc1 (by rfl) ?_ | refine H.lw ?_ | refine H.ll ?_)); (conv => whnf))
    refine (fault_cat H.data 7 (-2)).use ?_
    rintro v w ⟨rfl, K⟩
    replace H := H.call K
    ((repeat ((conv => whnf); first | refine an ?_ | ((first | refine H.nwD ?_ | refine H.nw ?_); clear H; intro w _ H) | refine H.ce ?_ | refine H.db ?_ | refine ea ?_ | (refine H.st ?_; (conv => whnf); clear H; intro w H) | refine condT fun _ => ?_ | refine condF fun _ => ?_ | refine condNT fun _ => ?_ | refine condNF fun _ => ?_ | refine H.da (hc1 _ _ (by rfl)) ?_ | refine H.datw hc1 (by rfl) ?_ | refine H.datl hc1 (by rfl) ?_ | refine H.lw ?_ | refine H.ll ?_)); (conv => whnf))
    exact ⟨V1, hV1, H.sx, .inl ⟨by decide, rfl⟩⟩
  rw [if_neg (by simpa using h1)] at e
  rw [e]
  replace H := H.rowNil 3 1
  ((repeat ((conv => whnf); first | refine an ?_ | ((first | refine H.nwD ?_ | refine H.nw ?_); clear H; intro w _ H) | refine H.ce ?_ | refine H.db ?_ | refine ea ?_ | (refine H.st ?_; (conv => whnf); clear H; intro w H) | refine condT fun _ => ?_ | refine condF fun _ => ?_ | refine condNT fun _ => ?_ | refine condNF fun _ => ?_ | refine H.da (hc1 _ _ (by rfl)) ?_ | refine H.datw hc1 (by rfl) ?_ | refine H.datl hc1 (by rfl) ?_ | refine H.lw ?_ | refine H.ll ?_)); (conv => whnf))
  refine loop_inv (S := Nat × Sl) tabOk [0, 1, 2, 4, 5, 6, 14, 18, 21, 22] (fun k => [(7, k.2.v), (23, iv k.1)]) (fun k w' => k.1 ≤ l.length ∧ Rel W V (.row k.2 3 1 ((picks (named l name) k.1).flatMap intC) :: .blk b5 [iv 0, iv 0] 28 :: []) V1 w') (fun k _ => l.length - k.1) (0, ⟨none, 0, 0⟩) ?_
  (conv => whnf)
  refine ⟨(by repeat (first | exact trivial | refine ⟨rfl, ?_⟩)), ⟨by omega, H.sx⟩, ?_⟩
  clear H
  rintro ⟨k, r⟩ w ⟨hk, H⟩
  dsimp only at hk H
  have hpl := picks_len (named l name) k
  by_cases hlt : k < l.length
  rotate_left
  · obtain rfl : k = l.length := by omega
    ((repeat ((conv => whnf); first | refine an ?_ | ((first | refine H.nwD ?_ | refine H.nw ?_); clear H; intro w _ H) | refine H.ce ?_ | refine H.db ?_ | refine ea ?_ | (refine H.st ?_; (conv => whnf); clear H; intro w H) | refine condT fun _ => ?_ | refine condF fun _ => ?_ | refine condNT fun _ => ?_ | refine condNF fun _ => ?_ | refine H.da (hc1 _ _ (by rfl)) ?_ | refine H.datw hc1 (by rfl) ?_ | refine H.datl hc1 (by rfl) ?_ | refine H.lw ?_ | refine H.ll ?_)); (conv => whnf))
    obtain ⟨V2, hV2, H, hr⟩ := Rel.freezeF H (fun _ => rfl) (by decide)
    exact ⟨V2, hV1.trans hV2, H.sx, .inr ⟨rfl, r, rfl, hr⟩⟩
  obtain ⟨hp, eh, hok, hc1⟩ := (hs.up hV1).get hlt
  have e0 : named l name k = decide (l[k].name = name) := by simp [named, hlt]
  ((repeat ((conv => whnf); first | refine an ?_ | ((first | refine H.nwD ?_ | refine H.nw ?_); clear H; intro w _ H) | refine H.ce ?_ | refine H.db ?_ | refine ea ?_ | (refine H.st ?_; (conv => whnf); clear H; intro w H) | refine condT fun _ => ?_ | refine condF fun _ => ?_ | refine condNT fun _ => ?_ | refine condNF fun _ => ?_ | refine H.da (hc1 _ _ (by rfl)) ?_ | refine H.datw hc1 (by rfl) ?_ | refine H.datl hc1 (by rfl) ?_ | refine H.lw ?_ | refine H.ll ?_)); (conv => whnf))
  refine condG_dec (fun h2 => ?_) (fun h2 => ?_)
  · ((repeat ((conv => whnf); first | refine an ?_ | ((first | refine H.nwD ?_ | refine H.nw ?_); clear H; intro w _ H) | refine H.ce ?_ | refine H.db ?_ | refine ea ?_ | (refine H.st ?_; (conv => whnf); clear H; intro w H) | refine condT fun _ => ?_ | refine condF fun _ => ?_ | refine condNT fun _ => ?_ | refine condNF fun _ => ?_ | refine H.da (hc1 _ _ (by rfl)) ?_ | refine H.datw hc1 (by rfl) ?_ | refine H.datl hc1 (by rfl) ?_ | refine H.lw ?_ | refine H.ll ?_)); (conv => whnf))
    (refine Rel.app1_1 (f := intC) tabOk rfl rfl rfl rfl rfl (by decide) (fun _ => rfl) (by simp [Value.oneCell']) H (by simp; omega) (by omega) ?_; clear H; intro rn w H)
    ((repeat ((conv => whnf); first | refine an ?_ | ((first | refine H.nwD ?_ | refine H.nw ?_); clear H; intro w _ H) | refine H.ce ?_ | refine H.db ?_ | refine ea ?_ | (refine H.st ?_; (conv => whnf); clear H; intro w H) | refine condT fun _ => ?_ | refine condF fun _ => ?_ | refine condNT fun _ => ?_ | refine condNF fun _ => ?_ | refine H.da (hc1 _ _ (by rfl)) ?_ | refine H.datw hc1 (by rfl) ?_ | refine H.datl hc1 (by rfl) ?_ | refine H.lw ?_ | refine H.ll ?_)); (conv => whnf))
    refine ⟨(by repeat (first | exact trivial | refine ⟨rfl, ?_⟩)), (k + 1, rn), (by repeat (first | exact trivial | refine ⟨rfl, ?_⟩)), ⟨by omega, ?_⟩, by omega⟩
    simp only [picks, e0, h2, decide_true, if_true]
    exact H.sx
  · ((repeat ((conv => whnf); first | refine an ?_ | ((first | refine H.nwD ?_ | refine H.nw ?_); clear H; intro w _ H) | refine H.ce ?_ | refine H.db ?_ | refine ea ?_ | (refine H.st ?_; (conv => whnf); clear H; intro w H) | refine condT fun _ => ?_ | refine condF fun _ => ?_ | refine condNT fun _ => ?_ | refine condNF fun _ => ?_ | refine H.da (hc1 _ _ (by rfl)) ?_ | refine H.datw hc1 (by rfl) ?_ | refine H.datl hc1 (by rfl) ?_ | refine H.lw ?_ | refine H.ll ?_)); (conv => whnf))
    refine ⟨(by repeat (first | exact trivial | refine ⟨rfl, ?_⟩)), (k + 1, r), (by repeat (first | exact trivial | refine ⟨rfl, ?_⟩)), ⟨by omega, ?_⟩, by omega⟩
    simp only [picks, e0, h2, decide_false]
    exact H.sx
end
end Go.Proofs.YtlhgmigoncmcaaaGreat
