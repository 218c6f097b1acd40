/-
  Files of trees, plain: residues, the writer, To, From, what is lost.
-/
import Derived.Test.YtffaffojkfalhaaGreatDoorTreP
namespace Go.Proofs.YtffaffojkfalhaaGreatDoor
open Go Go.RowKit

/-! ### residues -/
abbrev Blk2 := Nat × List UInt8
abbrev putB (x : Blk2) : List UInt8 := putN x.1 ++ putC x.2
def treRes (o : List Blk2) : List UInt8 := if o = [] then [] else putL putB o
/-- one pair, as wire reads it -/
def pairAt (b : List UInt8) (p : Nat) : Got (Int × List UInt8) := match numAt b p with
  | .bad c i => .bad c i
  | .ok n q => match chunkAt b q with
    | .bad c i => .bad c i
    | .ok t r => .ok (n, t) r
def okB (z : List (Int × List UInt8)) : Prop := (∀ x ∈ z, (0 ≤ x.1 ∧ x.1 ≤ 2000) ∧ ∀ c ∈ x.2, bkB c = true) ∧ z.Pairwise fun x y => x.1 < y.1
instance (z : List (Int × List UInt8)) : Decidable (okB z) := by unfold okB; infer_instance
def treRaw (b : List UInt8) : Option (List (Int × List UInt8)) := match listAt b (pairAt b) 1000 0 with
  | .bad _ _ => none
  | .ok z q => if q = b.length then some z else none
def treRd (b : List UInt8) : Option (List Blk2) := if b = [] then some [] else match treRaw b with
  | none => none
  | some z => if z ≠ [] ∧ okB z then some (z.map fun x => (x.1.toNat, x.2)) else none
def treTo (l : List UInt8) : Option (Val × List UInt8) := match trF l with
  | none => none
  | some (v, o) => if (vfault v).1 = 0 then some (v, treRes o) else none

/-! ### the writer -/
structure TWS where
  out : List UInt8
  cnt : Nat
  last : Tok
def lkB (Z : List Blk2) (i : Nat) : Option (List UInt8) := (Z.find? fun x => decide (x.1 = i)).map Prod.snd
def tkW (Z : List Blk2) (s : TWS) (t : Tok) : TWS := ⟨s.out ++ (match lkB Z s.cnt with
  | some b => b
  | none => if t = [] then [10] else wantB (af s.last)) ++ t, s.cnt + 1, t⟩
def treOut (v : Val) (Z : List Blk2) : List UInt8 := (tkW Z ((tokV v).foldl (tkW Z) ⟨[], 0, []⟩) []).out
def treShape (v : Val) : Option Val := some v
noncomputable def treMake (v : Val) (b : List UInt8) : Option (List UInt8) := match treRd b with
  | none => none
  | some Z => open Classical in if (treOut v Z).length ≤ 1000 ∧ treTo (treOut v Z) = some (v, b) then some (treOut v Z) else none
abbrev lsBlanks : List UInt8 := [98, 108, 97, 110, 107, 115]
def treLoss (b : List UInt8) : Option (List LossD) := match treRd b with
  | none => none
  | some Z => some (if Z.length = 0 then [] else [(lsBlanks, (Z.length : Int))])

/-! ### what a residue says -/
theorem pairAt_put {n : Nat} {t : List UInt8} (hn : n ≤ 1000000) (ht : t.length ≤ 1000000) (l r : List UInt8) : pairAt (l ++ (putB (n, t) ++ r)) l.length = .ok ((n : Int), t) (l.length + (putB (n, t)).length) := by
  unfold pairAt
  have e1 : l ++ (putB (n, t) ++ r) = l ++ (putN (n : Int) ++ (putC t ++ r)) := by simp [putB]
  have e2 : l ++ (putB (n, t) ++ r) = (l ++ putN (n : Int)) ++ (putC t ++ r) := by simp [putB]
  have h1 := numAt_put (n := (n : Int)) (by omega) (by omega) l (putC t ++ r)
  rw [← e1] at h1
  have h2 := chunkAt_put (b := t) (by omega) (l ++ putN (n : Int)) r
  rw [← e2, List.length_append] at h2
  rw [h1]
  simp only
  rw [h2]
  simp only [putB, List.length_append, Nat.add_assoc]
theorem pairAt_ok {b : List UInt8} {p q : Nat} {x : Int × List UInt8} (hp : p ≤ b.length) (h : pairAt b p = .ok x q) : p < q ∧ q ≤ b.length ∧ b.drop p = (putN x.1 ++ putC x.2) ++ b.drop q ∧ I64 x.1 := by
  unfold pairAt at h
  split at h
  · cases h
  · rename_i n r h1
    split at h
    · cases h
    · rename_i t r' h2
      cases h
      obtain ⟨a1, a2, _, a4⟩ := numAt_ok hp h1
      obtain ⟨b1, b2, b3⟩ := chunkAt_ok a2 h2
      refine ⟨by omega, b2, ?_, a4⟩
      rw [numAt_split hp h1, b3, List.append_assoc]
abbrev zB (Z : List Blk2) : List (Int × List UInt8) := Z.map fun x => ((x.1 : Int), x.2)
theorem treRaw_put {Z : List Blk2} (hl : Z.length ≤ 1000) (hz : ∀ x ∈ Z, x.1 ≤ 1000000 ∧ x.2.length ≤ 1000000) : treRaw (putL putB Z) = some (zB Z) := by
  obtain ⟨b, hb⟩ : ∃ b, b = putL putB Z := ⟨_, rfl⟩
  rw [← hb]
  have e2 : b = [] ++ (putN (Z.length : Int) ++ (Z.flatMap putB ++ [])) := by rw [hb, putL, List.append_nil]; rfl
  have n2 := numAt_put (n := (Z.length : Int)) (by omega) (by omega) [] (Z.flatMap putB ++ [])
  rw [← e2] at n2
  have hbl := congrArg List.length e2
  simp only [List.length_append, List.length_nil, Nat.zero_add, Nat.add_zero] at hbl
  simp only [List.length_nil, Nat.zero_add] at n2
  have n3 := manyAt_put (f := fun x : Int × List UInt8 => putB (x.1.toNat, x.2)) (b := b) (one := pairAt b) (zB Z) (putN (Z.length : Int)).length (by omega) (fun x hx q r hq hd => by
    obtain ⟨n, hn, rfl⟩ := List.mem_map.1 hx
    obtain ⟨n, t⟩ := n
    have := hz _ hn
    dsimp only at this
    have e : b = b.take q ++ (putB (n, t) ++ r) := by
      simp only [Int.toNat_natCast] at hd
      rw [← hd, List.take_append_drop]
    have hql : (b.take q).length = q := by simp; omega
    have := pairAt_put this.1 this.2 (b.take q) r
    rw [hql, ← e] at this
    simpa using this) [] (by
      conv => lhs; rw [e2]
      rw [List.nil_append, List.drop_left]
      congr 1
      simp [zB, List.flatMap_map])
  unfold treRaw listAt
  rw [n2]
  simp only
  rw [if_neg (by omega), Int.toNat_natCast]
  have hzl : (zB Z).length = Z.length := by simp [zB]
  rw [hzl] at n3
  rw [n3]
  simp only
  have e3 : ((zB Z).flatMap fun x => putB (x.1.toNat, x.2)) = Z.flatMap putB := by simp [zB, List.flatMap_map]
  rw [e3, if_pos (by omega)]
theorem treRaw_some {b : List UInt8} {z : List (Int × List UInt8)} (h : treRaw b = some z) : b = putL (fun x => putN x.1 ++ putC x.2) z ∧ z.length ≤ 1000 := by
  unfold treRaw at h
  split at h
  · cases h
  · rename_i z' q h2
    split at h
    · rename_i hq
      cases h
      unfold listAt at h2
      split at h2
      · cases h2
      · rename_i n p2 h3
        split at h2
        · cases h2
        · rename_i hn
          have b1 := numAt_split (Nat.zero_le _) h3
          obtain ⟨b2, b3, _, b4⟩ := numAt_ok (Nat.zero_le _) h3
          obtain ⟨c1, c2, c3, c4⟩ := manyAt_ok (f := fun x : Int × List UInt8 => putN x.1 ++ putC x.2) (b := b) (one := pairAt b) (fun p q x hp h => by
            obtain ⟨d1, d2, d3, _⟩ := pairAt_ok hp h
            exact ⟨by omega, d2, d3⟩) n.toNat p2 q z b3 h2
          rw [List.drop_zero] at b1
          rw [hq, List.drop_length, List.append_nil] at c4
          refine ⟨?_, by omega⟩
          rw [b1, c4, putL, c1, Int.toNat_of_nonneg (by omega)]
    · cases h
theorem zB_back (Z : List Blk2) : ((zB Z).map fun x => (x.1.toNat, x.2)) = Z := by
  unfold zB
  rw [List.map_map]
  conv => rhs; rw [← List.map_id Z]
  exact List.map_congr_left fun x _ => by simp
theorem treRd_res {Z : List Blk2} (hl : Z.length ≤ 1000) (hz : ∀ x ∈ Z, (x.1 ≤ 2000 ∧ x.2.length ≤ 1000000) ∧ Bks x.2) (hs : Z.Pairwise fun x y => x.1 < y.1) : treRd (treRes Z) = some Z := by
  unfold treRes
  split
  · rename_i h
    rw [h]; rfl
  · rename_i hne
    unfold treRd
    rw [if_neg, treRaw_put hl fun x hx => by have := hz x hx; exact ⟨by omega, by omega⟩]
    · simp only
      rw [if_pos, zB_back]
      refine ⟨fun q => hne (by simpa [zB] using q), ?_, ?_⟩
      · intro x hx
        obtain ⟨y, hy, rfl⟩ := List.mem_map.1 hx
        have := hz y hy
        exact ⟨⟨by dsimp only; omega, by dsimp only; omega⟩, this.2⟩
      · rw [List.pairwise_map]
        exact hs.imp fun h => by dsimp only; omega
    · intro h
      have := congrArg List.length h
      have := putU_len (zz (Z.length : Int))
      simp only [putL, List.length_append, putN, List.length_nil] at *
      omega
theorem treRd_some {b : List UInt8} {Z : List Blk2} (h : treRd b = some Z) : b = treRes Z ∧ Z.length ≤ 1000 ∧ (∀ x ∈ Z, x.1 ≤ 2000 ∧ Bks x.2) ∧ Z.Pairwise fun x y => x.1 < y.1 := by
  unfold treRd at h
  split at h
  · rename_i hb
    cases h
    exact ⟨by rw [hb]; rfl, by simp, by simp, List.Pairwise.nil⟩
  · split at h
    · cases h
    · rename_i z hz
      split at h
      · rename_i hok
        cases h
        obtain ⟨h1, h2⟩ := treRaw_some hz
        obtain ⟨hne, h3, h4⟩ := hok
        refine ⟨?_, by simpa using h2, ?_, ?_⟩
        · unfold treRes
          rw [if_neg (by simpa using hne), h1]
          unfold putL
          rw [List.length_map, List.flatMap_map]
          congr 1
          refine flatMap_eq fun x hx => ?_
          have := (h3 x hx).1
          simp only [putB, Int.toNat_of_nonneg this.1]
        · intro x hx
          obtain ⟨y, hy, rfl⟩ := List.mem_map.1 hx
          have := h3 y hy
          exact ⟨by dsimp only; omega, this.2⟩
        · rw [List.pairwise_map]
          refine List.Pairwise.imp_of_mem (fun {a b} ha hb' hab => ?_) h4
          have := (h3 a ha).1
          have := (h3 b hb').1
          dsimp only
          omega
      · cases h

/-! ### what differs -/
theorem dif_mem : ∀ {L : BL} {i : Nat} {sp : Bool} {x : Blk2}, x ∈ dif i sp L → i ≤ x.1 ∧ x.1 < i + L.length ∧ ∃ p ∈ L, p.1 = x.2
  | [], i, sp, x, h => by simp [dif] at h
  | p :: L, i, sp, x, h => by
    rw [dif] at h
    rcases List.mem_append.1 h with h | h
    · split at h
      · simp at h
      · simp only [List.mem_singleton] at h
        subst h
        exact ⟨Nat.le_refl _, by simp, p, by simp, rfl⟩
    · obtain ⟨h1, h2, q, hq, h3⟩ := dif_mem h
      exact ⟨by omega, by simp; omega, q, by simp [hq], h3⟩
theorem dif_asc : ∀ (L : BL) (i : Nat) (sp : Bool), (dif i sp L).Pairwise fun x y => x.1 < y.1
  | [], i, sp => List.Pairwise.nil
  | p :: L, i, sp => by
    rw [dif]
    refine List.pairwise_append.2 ⟨by split <;> simp, dif_asc L _ _, fun x hx y hy => ?_⟩
    have := (dif_mem hy).1
    split at hx
    · simp at hx
    · simp only [List.mem_singleton] at hx
      subst hx
      dsimp only
      omega
theorem dif_len : ∀ (L : BL) (i : Nat) (sp : Bool), (∀ p ∈ L, p.2 ≠ []) → (dif i sp L).length ≤ (flatB L).length ∧ (sp = false → L ≠ [] → (dif i sp L).length + 1 ≤ (flatB L).length) ∧ L.length ≤ (flatB L).length
  | [], i, sp, _ => by simp [dif, flatB]
  | p :: L, i, sp, h => by
    obtain ⟨h1, _, h3⟩ := dif_len L (i + 1) (af p.2) fun q hq => h q (by simp [hq])
    have h2 : 1 ≤ p.2.length := by
      have := h p (by simp)
      cases hp : p.2 with
      | nil => exact absurd hp this
      | cons c r => simp
    rw [flatB_cons, dif]
    simp only [List.length_append, List.length_cons]
    refine ⟨?_, fun hsp _ => ?_, by omega⟩
    · split <;> simp <;> omega
    · split
      · simp; omega
      · rename_i hne
        subst hsp
        have : p.1.length ≠ 0 := fun e => hne (by rw [List.eq_nil_of_length_eq_zero e]; rfl)
        simp
        omega
theorem tok_ne {t : Tok} {v : Val} (hv : WfV v) (h : t ∈ tokV v) : ∃ c r, t = c :: r ∧ bkB c = false := by
  induction hv with
  | num h1 =>
    rw [tokV_num] at h
    simp only [List.mem_singleton] at h
    subst h
    obtain ⟨c, r, hc, h2, _⟩ := itoa_bk _
    exact ⟨c, r, hc, h2⟩
  | byt x =>
    rw [tokV_byt] at h
    simp only [List.mem_singleton] at h
    subst h
    exact ⟨34, _, rfl, by decide⟩
  | lst h1 ih =>
    rw [tokV_lst] at h
    rcases List.mem_cons.1 h with rfl | h
    · exact ⟨91, [], rfl, by decide⟩
    · rcases List.mem_append.1 h with h | h
      · unfold tokL tokE at h
        obtain ⟨p, hp, h⟩ := List.mem_flatMap.1 h
        rcases List.mem_append.1 h with h | h
        · split at h
          · simp at h
          · simp only [List.mem_singleton] at h
            subst h
            exact ⟨44, [], rfl, by decide⟩
        · rw [if_neg (show ¬ ((3 : Int) = 4) by decide), List.nil_append] at h
          refine ih p.1 ?_ h
          obtain ⟨i, hi⟩ := List.mem_iff_getElem?.1 hp
          rw [List.getElem?_zipIdx] at hi
          obtain ⟨x, hx, rfl⟩ := Option.map_eq_some_iff.1 hi
          exact List.mem_of_getElem? hx
      · simp only [List.mem_singleton] at h
        subst h
        exact ⟨93, [], rfl, by decide⟩
  | rcd hs hl h1 ih =>
    rw [tokV_rcd] at h
    rcases List.mem_cons.1 h with rfl | h
    · exact ⟨123, [], rfl, by decide⟩
    · rcases List.mem_append.1 h with h | h
      · unfold tokL tokE at h
        obtain ⟨p, hp, h⟩ := List.mem_flatMap.1 h
        obtain ⟨i, hi⟩ := List.mem_iff_getElem?.1 hp
        rw [List.getElem?_zipIdx] at hi
        obtain ⟨x, hx, rfl⟩ := Option.map_eq_some_iff.1 hi
        rcases List.mem_append.1 h with h | h
        · split at h
          · simp at h
          · simp only [List.mem_singleton] at h
            subst h
            exact ⟨44, [], rfl, by decide⟩
        · rw [if_pos (by simp only [Val.kind])] at h
          rcases List.mem_append.1 h with h | h
          · rcases List.mem_cons.1 h with rfl | h
            · have hlt := (List.getElem?_eq_some_iff.1 hx).1
              simp only [Val.parts, Val.names, Nat.zero_add] at hlt ⊢
              rw [← hl] at hlt
              rw [List.getD, List.getElem?_eq_getElem hlt, Option.getD_some]
              obtain ⟨c, r, hc, h2, _⟩ := nameOk_head (hs _ (List.getElem_mem hlt))
              exact ⟨c, r, hc, low_bk (by omega)⟩
            · simp only [List.mem_singleton] at h
              subst h
              exact ⟨58, [], rfl, by decide⟩
          · exact ih x (List.mem_of_getElem? hx) h
      · simp only [List.mem_singleton] at h
        subst h
        exact ⟨125, [], rfl, by decide⟩
theorem Fit.ne {l : List UInt8} {v : Val} {L : BL} {lb : List UInt8} (h : Fit l v L lb) : ∀ p ∈ L, p.2 ≠ [] := by
  intro p hp
  obtain ⟨c, r, hc, _⟩ := tok_ne h.wf (t := p.2) (by rw [← h.tk]; exact List.mem_map.2 ⟨p, hp, rfl⟩)
  rw [hc]
  simp
theorem tokV_ne (v : Val) : tokV v ≠ [] := by
  rw [tokV_eq]
  split
  · simp
  · split <;> simp
theorem Fit.notnil {l : List UInt8} {v : Val} {L : BL} {lb : List UInt8} (h : Fit l v L lb) : L ≠ [] := by
  rintro rfl
  exact tokV_ne v h.tk.symm
theorem Fit.bounds {l : List UInt8} {v : Val} {L : BL} {lb : List UInt8} (h : Fit l v L lb) (hl : l.length ≤ 1000) : (othB L lb).length ≤ 1000 ∧ L.length ≤ 1000 ∧ (∀ x ∈ othB L lb, (x.1 ≤ 2000 ∧ x.2.length ≤ 1000) ∧ Bks x.2) ∧ (othB L lb).Pairwise fun x y => x.1 < y.1 := by
  obtain ⟨h1, h2, h3⟩ := dif_len L 0 false h.ne
  have h2 := h2 rfl h.notnil
  have hlen := congrArg List.length h.eq
  rw [List.length_append] at hlen
  refine ⟨?_, by omega, ?_, ?_⟩
  · rw [List.length_append]
    split <;> simp <;> omega
  · intro x hx
    rcases List.mem_append.1 hx with hx | hx
    · obtain ⟨q1, q2, p, hp, q3⟩ := dif_mem hx
      refine ⟨⟨by omega, ?_⟩, by rw [← q3]; exact h.bk p hp⟩
      rw [← q3]
      have : p.1.length ≤ (flatB L).length := by
        obtain ⟨A, B, hAB⟩ := List.append_of_mem hp
        rw [hAB, flatB_append, flatB_cons]
        simp only [List.length_append]
        omega
      omega
    · split at hx
      · simp at hx
      · simp only [List.mem_singleton] at hx
        subst hx
        exact ⟨⟨by dsimp only; omega, by dsimp only; omega⟩, h.bl⟩
  · refine List.pairwise_append.2 ⟨dif_asc L 0 false, by split <;> simp, fun x hx y hy => ?_⟩
    have := (dif_mem hx).2.1
    split at hy
    · simp at hy
    · simp only [List.mem_singleton] at hy
      subst hy
      dsimp only
      omega
/-- the writer, over tokens whose blanks are given by what differs -/
theorem foldl_out (Z : List Blk2) : ∀ (L : BL) (E : List Blk2) (i : Nat) (ls : Tok) (out : List UInt8), (∀ p ∈ L, p.2 ≠ []) → (∀ x ∈ E, i + L.length ≤ x.1) → (∀ j, i ≤ j → lkB Z j = lkB (dif i (af ls) L ++ E) j) →
    ∃ ls', (L.map Prod.snd).foldl (tkW Z) ⟨out, i, ls⟩ = ⟨out ++ flatB L, i + L.length, ls'⟩ ∧ ∀ j, i + L.length ≤ j → lkB Z j = lkB E j
  | [], E, i, ls, out, _, _, h => ⟨ls, by simp [flatB], fun j hj => by rw [h j hj]; rfl⟩
  | p :: L, E, i, ls, out, hne, hE, h => by
    have hlk : lkB (dif (i + 1) (af p.2) L ++ E) i = none := by
      unfold lkB
      rw [List.find?_eq_none.2]
      · rfl
      · intro x hx
        simp only [decide_eq_true_eq]
        rcases List.mem_append.1 hx with hx | hx
        · have := (dif_mem hx).1; omega
        · have := hE x hx
          simp only [List.length_cons] at this
          omega
    have hstep : tkW Z ⟨out, i, ls⟩ p.2 = ⟨out ++ (p.1 ++ p.2), i + 1, p.2⟩ := by
      unfold tkW
      have h0 := h i (Nat.le_refl _)
      rw [dif] at h0
      by_cases he : p.1 = wantB (af ls)
      · rw [if_pos he, List.nil_append, hlk] at h0
        simp only [h0]
        rw [if_neg (hne p (by simp)), ← he, List.append_assoc]
      · rw [if_neg he] at h0
        have : lkB ([(i, p.1)] ++ dif (i + 1) (af p.2) L ++ E) i = some p.1 := by simp [lkB]
        rw [this] at h0
        simp only [h0, List.append_assoc]
    have hnext : ∀ j, i + 1 ≤ j → lkB Z j = lkB (dif (i + 1) (af p.2) L ++ E) j := by
      intro j hj
      rw [h j (by omega), dif]
      split
      · rfl
      · unfold lkB
        rw [List.append_assoc, List.singleton_append, List.find?_cons_of_neg]
        simp only [decide_eq_true_eq]
        omega
    obtain ⟨ls', h1, h2⟩ := foldl_out Z L E (i + 1) p.2 (out ++ (p.1 ++ p.2)) (fun q hq => hne q (by simp [hq])) (fun x hx => by have := hE x hx; simp only [List.length_cons] at this; omega) hnext
    refine ⟨ls', ?_, fun j hj => h2 j (by simp only [List.length_cons] at hj; omega)⟩
    rw [List.map_cons, List.foldl_cons, hstep, h1, flatB_cons, List.length_cons, show i + 1 + L.length = i + (L.length + 1) by omega]
    simp [List.append_assoc]
theorem Fit.out {l : List UInt8} {v : Val} {L : BL} {lb : List UInt8} (h : Fit l v L lb) : treOut v (othB L lb) = l := by
  unfold treOut
  rw [← h.tk]
  obtain ⟨ls', h1, h2⟩ := foldl_out (othB L lb) L (if lb = [10] then [] else [(L.length, lb)]) 0 [] [] h.ne (fun x hx => by
    split at hx
    · simp at hx
    · simp only [List.mem_singleton] at hx
      subst hx
      dsimp only
      omega) (fun j _ => rfl)
  rw [h1]
  unfold tkW
  simp only [Nat.zero_add, List.nil_append, List.append_nil] at h2 ⊢
  rw [h2 _ (Nat.le_refl _), h.eq]
  by_cases hb : lb = [10]
  · rw [if_pos hb]
    simp [lkB, hb]
  · rw [if_neg hb]
    simp [lkB]
theorem treTo_some {l : List UInt8} {v : Val} {r : List UInt8} (h : treTo l = some (v, r)) : ∃ L lb, Fit l v L lb ∧ r = treRes (othB L lb) ∧ (vfault v).1 = 0 := by
  unfold treTo at h
  split at h
  · cases h
  · rename_i v' o hr
    split at h
    · rename_i hv
      cases h
      obtain ⟨L, lb, h1, rfl⟩ := trF_some hr
      exact ⟨L, lb, h1, rfl, hv⟩
    · cases h
theorem treTo_of {l : List UInt8} {v : Val} {L : BL} {lb : List UInt8} (h : Fit l v L lb) (hv : (vfault v).1 = 0) : treTo l = some (v, treRes (othB L lb)) := by
  unfold treTo
  rw [trF_of h]
  simp only
  rw [if_pos hv]
theorem treMake_some {v : Val} {b o : List UInt8} (h : treMake v b = some o) : o.length ≤ 1000 ∧ treTo o = some (v, b) := by
  unfold treMake at h
  split at h
  · cases h
  · split at h
    · rename_i hc
      cases h
      exact hc
    · cases h
theorem tre_round {l : List UInt8} {v : Val} {r : List UInt8} (hl : l.length ≤ 1000) (h : treTo l = some (v, r)) : treMake v r = some l ∧ ∃ Z, treRd r = some Z ∧ (Z = [] ↔ r = []) ∧ Z.length ≤ 1000 ∧ r.length ≤ 100000000 := by
  obtain ⟨L, lb, h1, rfl, hv⟩ := treTo_some h
  obtain ⟨q1, q2, q3, q4⟩ := h1.bounds hl
  have hrd := treRd_res q1 (fun x hx => by have := q3 x hx; exact ⟨⟨this.1.1, by omega⟩, this.2⟩) q4
  refine ⟨?_, _, hrd, ?_, q1, ?_⟩
  · unfold treMake
    rw [hrd]
    simp only
    rw [h1.out, if_pos ⟨hl, h⟩]
  · constructor
    · intro e; rw [e]; rfl
    · intro e
      rw [e] at hrd
      exact (Option.some.inj hrd).symm
  · unfold treRes
    split
    · simp
    · have hm := putL_len (f := putB) (m := 2000) (l := othB L lb) (by omega) (fun x hx => by
        have := (q3 x hx).1
        have a1 := putN_len (n := (x.1 : Int)) (by omega) (by omega)
        have a2 := putC_len (b := x.2) (by omega)
        simp only [putB, List.length_append]
        omega)
      have : (othB L lb).length * 2000 ≤ 1000 * 2000 := Nat.mul_le_mul_right _ q1
      omega

/-! ### sizes -/
abbrev lenT (t : List Tok) : Nat := (t.map List.length).sum
theorem lenT_append (a b : List Tok) : lenT (a ++ b) = lenT a + lenT b := by simp [lenT]
theorem lenT_pos {v : Val} (hv : WfV v) : 1 ≤ lenT (tokV v) := by
  cases h : tokV v with
  | nil => exact absurd h (tokV_ne v)
  | cons t r =>
    obtain ⟨c, x, hc, _⟩ := tok_ne hv (t := t) (by rw [h]; simp)
    simp [lenT, hc]
    omega
theorem lenT_parts (k : Int) (s : List (List UInt8)) : ∀ (ps : List Val) (i : Nat), (∀ p ∈ ps, WfV p) → ps.length ≤ lenT (tokR k s i ps) ∧ ∀ p ∈ ps, lenT (tokV p) ≤ lenT (tokR k s i ps)
  | [], i, _ => by simp
  | p :: ps, i, h => by
    obtain ⟨h1, h2⟩ := lenT_parts k s ps (i + 1) fun q hq => h q (by simp [hq])
    have h3 := lenT_pos (h p (by simp))
    have h4 : lenT (tokV p) ≤ lenT (tokE k s i p) := by
      unfold tokE
      rw [lenT_append, lenT_append]
      omega
    rw [tokR_cons, lenT_append]
    refine ⟨by simp only [List.length_cons]; omega, fun q hq => ?_⟩
    rcases List.mem_cons.1 hq with rfl | hq
    · omega
    · have := h2 q hq
      omega
theorem vb_of {v : Val} (hv : WfV v) {N : Nat} (h32 : 32 ≤ N) (hN : lenT (tokV v) ≤ N) : VB N v := by
  induction hv with
  | num h => exact vb_num h
  | byt b =>
    rw [tokV_byt] at hN
    refine vb_byt ?_
    have : b.length ≤ (quoL b).length := by
      unfold quoL
      clear hN
      induction b with
      | nil => simp
      | cons c b ih =>
        obtain ⟨x, r, hx, _⟩ := quoB_ne c
        rw [List.flatMap_cons, List.length_append, hx]
        simp only [List.length_cons]
        omega
    simp [lenT, quoT] at hN
    omega
  | @lst ps h ih =>
    rw [tokV_lst] at hN
    have e : lenT (opT 3 :: (tokL 3 [] ps ++ [enT 3])) = 1 + lenT (tokR 3 [] 0 ps) + 1 := by simp [lenT, tokL, tokR]; omega
    rw [e] at hN
    obtain ⟨h1, h2⟩ := lenT_parts 3 [] ps 0 h
    exact .mk (i64_c 3) (i64_c 0) (Nat.zero_le _) (Nat.zero_le _) (by simp) (by simp only [Val.parts]; omega) fun p hp => ih p hp (by have := h2 p hp; omega)
  | @rcd s ps hs hl h ih =>
    rw [tokV_rcd] at hN
    have e : lenT (opT 4 :: (tokL 4 s ps ++ [enT 4])) = 1 + lenT (tokR 4 s 0 ps) + 1 := by simp [lenT, tokL, tokR]; omega
    rw [e] at hN
    obtain ⟨h1, h2⟩ := lenT_parts 4 s ps 0 h
    exact .mk (i64_c 4) (i64_c 0) (Nat.zero_le _) (by simp only [Val.names]; omega) (fun x hx => by have := nameOk_len (hs x hx); omega) (by simp only [Val.parts]; omega) fun p hp => ih p hp (by have := h2 p hp; omega)
theorem flatB_len (L : BL) : lenT (L.map Prod.snd) ≤ (flatB L).length := by
  induction L with
  | nil => exact Nat.le_refl _
  | cons p L ih =>
    rw [flatB_cons]
    simp only [lenT, List.map_cons, List.sum_cons, List.length_append] at ih ⊢
    omega
theorem Fit.vb {l : List UInt8} {v : Val} {L : BL} {lb : List UInt8} (h : Fit l v L lb) (hl : l.length ≤ 1048576) : VB 1048576 v := by
  refine vb_of h.wf (by decide) ?_
  have h1 := flatB_len L
  have h2 := congrArg List.length h.eq
  rw [List.length_append] at h2
  rw [← h.tk]
  omega
theorem treLoss_len {b : List UInt8} {ls : List LossD} (h : treLoss b = some ls) : ls.length ≤ 1000000 := by
  unfold treLoss at h
  split at h
  · cases h
  · cases h
    split <;> simp
theorem tre_valid {b : List UInt8} {v : Val} {r : List UInt8} (hl : b.length ≤ 1000) (h : treTo b = some (v, r)) : VB 1048576 v ∧ (vfault v).1 = 0 ∧ (treShape v).isSome = true ∧ treMake v r = some b ∧ r.length ≤ 100000000 ∧ ∃ ls, treLoss r = some ls ∧ ls.length ≤ 4 ∧ (ls = [] ↔ r = []) := by
  obtain ⟨L, lb, h1, rfl, hv⟩ := treTo_some h
  obtain ⟨hmk, Z, hZ, hZ0, hZ1, hr⟩ := tre_round hl h
  refine ⟨h1.vb (by omega), hv, rfl, hmk, hr, _, by unfold treLoss; rw [hZ], ?_, ?_⟩
  · split <;> simp
  · rw [← hZ0]
    constructor
    · intro e
      split at e
      · rename_i h0
        exact List.eq_nil_of_length_eq_zero h0
      · cases e
    · intro e
      rw [e]
      rfl

/-! ### blanks around a file -/
theorem Fit.grow {l : List UInt8} {v : Val} {L : BL} {lb : List UInt8} (h : Fit l v L lb) {a c : List UInt8} (ha : Bks a) (hc : Bks c) : ∃ M mb, Fit (a ++ (l ++ c)) v M mb := by
  obtain ⟨heq, hbk, hbl, htk, hwf⟩ := h
  cases L with
  | nil => exact absurd htk.symm (tokV_ne v)
  | cons p L =>
    refine ⟨(a ++ p.1, p.2) :: L, lb ++ c, ?_, ?_, ?_, htk, hwf⟩
    · rw [heq, flatB_cons, flatB_cons]
      simp [List.append_assoc]
    · intro q hq
      rcases List.mem_cons.1 hq with rfl | hq
      · intro x hx
        rcases List.mem_append.1 hx with hx | hx
        · exact ha x hx
        · exact hbk.head x hx
      · exact hbk.tail q hq
    · intro x hx
      rcases List.mem_append.1 hx with hx | hx
      · exact hbl x hx
      · exact hc x hx
theorem quoT_last (b : List UInt8) : ∃ i, quoT b = i ++ [34] := ⟨34 :: quoL b, rfl⟩
theorem tokV_last {v : Val} (hv : WfV v) : ∃ T i c, tokV v = T ++ [i ++ [c]] ∧ bkB c = false := by
  cases hv with
  | @num n h =>
    rw [tokV_num]
    obtain ⟨c, r, hc, h1, h2⟩ := itoa_ne n
    have hne : c :: r ≠ [] := by simp
    refine ⟨[], (c :: r).dropLast, (c :: r).getLast hne, ?_, ?_⟩
    · rw [List.dropLast_concat_getLast, ← hc]; rfl
    · have := List.getLast_mem hne
      rcases List.mem_cons.1 this with h3 | h3
      · rw [h3]
        rcases h1 with rfl | h1
        · decide
        · simp only [isDg, Bool.and_eq_true, decide_eq_true_eq] at h1
          exact low_bk (by omega)
      · have := h2 _ h3
        simp only [isDg, Bool.and_eq_true, decide_eq_true_eq] at this
        exact low_bk (by omega)
  | byt b =>
    rw [tokV_byt]
    exact ⟨[], 34 :: quoL b, 34, rfl, by decide⟩
  | lst h =>
    rw [tokV_lst]
    exact ⟨opT 3 :: tokL 3 [] _, [], 93, rfl, by decide⟩
  | rcd hs hl h =>
    rw [tokV_rcd]
    exact ⟨opT 4 :: tokL 4 _ _, [], 125, rfl, by decide⟩
theorem Fit.shrink {l a c : List UInt8} {v : Val} {M : BL} {mb : List UInt8} (h : Fit (a ++ (l ++ c)) v M mb) (ha : Bks a) (hc : Bks c) : ∃ L lb, Fit l v L lb := by
  obtain ⟨heq, hbk, hbl, htk, hwf⟩ := h
  -- behind: c is a part of mb
  obtain ⟨T, i, z, hT, hz⟩ := tokV_last hwf
  rw [hT] at htk
  obtain ⟨M1, N, rfl, hM1, hN⟩ := map_append_inv htk
  obtain ⟨b9, N1, rfl, hN⟩ := map_cons_inv hN
  obtain rfl : N1 = [] := by
    cases N1 with
    | nil => rfl
    | cons p M => simp at hN
  have e1 : flatB (M1 ++ [(b9, i ++ [z])]) ++ mb = (flatB M1 ++ (b9 ++ i)) ++ (z :: mb) := by simp [flatB]
  rw [e1, ← List.append_assoc] at heq
  have hmc : ∃ lb, mb = lb ++ c ∧ a ++ l = (flatB M1 ++ (b9 ++ i)) ++ (z :: lb) := by
    rcases List.append_eq_append_iff.1 heq with ⟨y, h1, h2⟩ | ⟨y, h1, h2⟩
    · cases y with
      | nil =>
        simp only [List.nil_append] at h2
        have := hc z (by rw [h2]; simp)
        rw [hz] at this
        cases this
      | cons u y =>
        have := hc z (by rw [h2]; simp)
        rw [hz] at this
        cases this
    · cases y with
      | nil =>
        simp only [List.nil_append] at h2
        have := hc z (by rw [← h2]; simp)
        rw [hz] at this
        cases this
      | cons u y =>
        simp only [List.cons_append, List.cons.injEq] at h2
        obtain ⟨rfl, h2⟩ := h2
        exact ⟨y, h2, h1⟩
  obtain ⟨lb, rfl, heq2⟩ := hmc
  have hbl' : Bks lb := fun x hx => hbl x (List.mem_append.2 (.inl hx))
  have e2 : (flatB M1 ++ (b9 ++ i)) ++ (z :: lb) = flatB (M1 ++ [(b9, i ++ [z])]) ++ lb := by simp [flatB]
  rw [e2] at heq2
  -- ahead: a is a part of the first blanks
  obtain ⟨M, hM⟩ : ∃ M, M = M1 ++ [(b9, i ++ [z])] := ⟨_, rfl⟩
  rw [← hM] at heq2 hbk
  have htk' : M.map Prod.snd = tokV v := by rw [hM, List.map_append, hM1, hT]; rfl
  cases M with
  | nil => exact absurd htk'.symm (tokV_ne v)
  | cons p M =>
    obtain ⟨b, t⟩ := p
    obtain ⟨y, r, hy, hyb⟩ := tok_ne hwf (t := t) (by rw [← htk']; simp)
    have e3 : flatB ((b, t) :: M) ++ lb = b ++ y :: (r ++ (flatB M ++ lb)) := by rw [flatB_cons, hy]; simp
    rw [e3] at heq2
    have hb : ∃ b', b = a ++ b' ∧ l = b' ++ y :: (r ++ (flatB M ++ lb)) := by
      rcases List.append_eq_append_iff.1 heq2 with ⟨x, h1, h2⟩ | ⟨x, h1, h2⟩
      · exact ⟨x, h1, h2⟩
      · cases x with
        | nil => exact ⟨[], by simpa using h1.symm, by simpa using h2.symm⟩
        | cons u x =>
          simp only [List.cons_append, List.cons.injEq] at h2
          obtain ⟨rfl, h2⟩ := h2
          have := ha y (by rw [h1]; simp)
          rw [hyb] at this
          cases this
    obtain ⟨b', rfl, hl⟩ := hb
    refine ⟨(b', t) :: M, lb, ?_, ?_, hbl', htk', hwf⟩
    · rw [hl, flatB_cons, hy]; simp
    · intro q hq
      rcases List.mem_cons.1 hq with rfl | hq
      · exact fun x hx => hbk.head x (List.mem_append.2 (.inr hx))
      · exact hbk.tail q hq
theorem tre_blanks {l a c : List UInt8} (ha : Bks a) (hc : Bks c) : (treTo (a ++ (l ++ c))).map Prod.fst = (treTo l).map Prod.fst := by
  cases h : treTo l with
  | some y =>
    obtain ⟨v, r⟩ := y
    obtain ⟨L, lb, h1, _, hv⟩ := treTo_some h
    obtain ⟨M, mb, h2⟩ := h1.grow ha hc
    rw [treTo_of h2 hv]
    rfl
  | none =>
    cases h' : treTo (a ++ (l ++ c)) with
    | none => rfl
    | some y =>
      obtain ⟨v, r⟩ := y
      obtain ⟨L, lb, h1, _, hv⟩ := treTo_some h'
      obtain ⟨M, mb, h2⟩ := h1.shrink ha hc
      rw [treTo_of h2 hv] at h
      cases h
end Go.Proofs.YtffaffojkfalhaaGreatDoor
