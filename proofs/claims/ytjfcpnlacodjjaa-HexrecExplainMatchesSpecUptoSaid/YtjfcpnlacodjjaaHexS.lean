/-
  Files of hexadecimal records, plain: what is read is written again.
-/
import Derived.Test.YtjfcpnlacodjjaaHexR
namespace Go.Proofs.Ytjfcpnlacodjjaa
open Go Go.RowKit

theorem cutSeg_nil (a : Nat) (Z : List Nat) : cutSeg a [] Z = some ([], Z) := by rw [cutSeg]
theorem cutSeg_no {a : Nat} {d : List UInt8} (h : d ≠ []) : cutSeg a d [] = none := by
  cases d with
  | nil => exact absurd rfl h
  | cons c d => rw [cutSeg]
theorem cutSeg_cons {a n : Nat} {d : List UInt8} {Z : List Nat} (h : d ≠ []) : cutSeg a d (n :: Z) = if n ≤ d.length then (match cutSeg (a + n) (d.drop n) Z with
    | none => none
    | some (rs, Z') => some (mkRec a 0 (d.take n) :: rs, Z')) else none := by
  cases d with
  | nil => exact absurd rfl h
  | cons c d => rw [cutSeg]; rfl
theorem cutSeg_more (Y : List Nat) : ∀ {Z : List Nat} {a : Nat} {d : List UInt8} {rs : List (List UInt8)} {Z' : List Nat}, cutSeg a d Z = some (rs, Z') → cutSeg a d (Z ++ Y) = some (rs, Z' ++ Y)
  | [], a, d, rs, Z', h => by
    by_cases hd : d = []
    · subst hd
      rw [cutSeg_nil] at h ⊢
      cases h
      rfl
    · rw [cutSeg_no hd] at h
      cases h
  | n :: Z, a, d, rs, Z', h => by
    by_cases hd : d = []
    · subst hd
      rw [cutSeg_nil] at h ⊢
      cases h
      rfl
    · rw [List.cons_append]
      rw [cutSeg_cons hd] at h ⊢
      split at h
      · rename_i hn
        rw [if_pos hn]
        cases hc : cutSeg (a + n) (d.drop n) Z with
        | none => rw [hc] at h; cases h
        | some p =>
          obtain ⟨q, Z2⟩ := p
          rw [hc] at h
          cases h
          rw [cutSeg_more Y hc]
      · cases h
theorem cutSeg_one {a : Nat} {c : List UInt8} (hc : c ≠ []) : cutSeg a c [c.length] = some ([mkRec a 0 c], []) := by
  rw [cutSeg_cons hc, if_pos (Nat.le_refl _), List.drop_length, cutSeg_nil, List.take_length]
theorem cutSeg_grow {c : List UInt8} (hc : c ≠ []) : ∀ {Z : List Nat} {a : Nat} {d : List UInt8} {rs : List (List UInt8)}, cutSeg a d Z = some (rs, []) → cutSeg a (d ++ c) (Z ++ [c.length]) = some (rs ++ [mkRec (a + d.length) 0 c], [])
  | [], a, d, rs, h => by
    by_cases hd : d = []
    · subst hd
      rw [cutSeg_nil] at h
      cases h
      exact cutSeg_one hc
    · rw [cutSeg_no hd] at h
      cases h
  | n :: Z, a, d, rs, h => by
    by_cases hd : d = []
    · subst hd
      rw [cutSeg_nil] at h
      cases h
    · rw [cutSeg_cons hd] at h
      rw [List.cons_append, cutSeg_cons (by simp [hd])]
      split at h
      · rename_i hn
        rw [if_pos (by rw [List.length_append]; omega), List.drop_append_of_le_length hn, List.take_append_of_le_length hn]
        cases hq : cutSeg (a + n) (d.drop n) Z with
        | none => rw [hq] at h; cases h
        | some p =>
          obtain ⟨q, Z2⟩ := p
          rw [hq] at h
          cases h
          rw [cutSeg_grow hc hq]
          simp only [List.cons_append, List.length_drop]
          rw [show a + n + (d.length - n) = a + d.length by omega]
      · cases h
theorem wrAll_cons {a : Nat} {d : List UInt8} {S : List Seg} {Z Z' : List Nat} {q qs : List (List UInt8)} (h1 : cutSeg a d Z = some (q, Z')) (h2 : wrAll S Z' = some qs) : wrAll ((a, d) :: S) Z = some (q ++ qs) := by
  rw [wrAll, h1]
  simp only
  rw [h2]
theorem wrAll_inv {a : Nat} {d : List UInt8} {S : List Seg} {Z : List Nat} {rs : List (List UInt8)} (h : wrAll ((a, d) :: S) Z = some rs) : ∃ q Z' qs, cutSeg a d Z = some (q, Z') ∧ wrAll S Z' = some qs ∧ rs = q ++ qs := by
  rw [wrAll] at h
  split at h
  · cases h
  · rename_i q Z' h1
    split at h
    · cases h
    · rename_i qs h2
      cases h
      exact ⟨q, Z', qs, h1, h2, rfl⟩
theorem wrAll_nil {Z : List Nat} {rs : List (List UInt8)} (h : wrAll [] Z = some rs) : Z = [] ∧ rs = [] := by
  rw [wrAll] at h
  split at h
  · rename_i hz; cases h; exact ⟨hz, rfl⟩
  · cases h
theorem wrAll_snoc {a : Nat} {c : List UInt8} (hc : c ≠ []) : ∀ {S : List Seg} {Z : List Nat} {rs : List (List UInt8)}, wrAll S Z = some rs → wrAll (S ++ [(a, c)]) (Z ++ [c.length]) = some (rs ++ [mkRec a 0 c])
  | [], Z, rs, h => by
    obtain ⟨rfl, rfl⟩ := wrAll_nil h
    exact wrAll_cons (S := []) (q := [mkRec a 0 c]) (qs := []) (cutSeg_one hc) (by rw [wrAll, if_pos rfl])
  | (x, d) :: S, Z, rs, h => by
    obtain ⟨q, Z', qs, h1, h2, rfl⟩ := wrAll_inv h
    rw [List.cons_append, List.append_assoc]
    exact wrAll_cons (cutSeg_more _ h1) (wrAll_snoc hc h2)
theorem wrAll_grow {a : Nat} {d c : List UInt8} (hc : c ≠ []) : ∀ {S : List Seg} {Z : List Nat} {rs : List (List UInt8)}, wrAll (S ++ [(a, d)]) Z = some rs → wrAll (S ++ [(a, d ++ c)]) (Z ++ [c.length]) = some (rs ++ [mkRec (a + d.length) 0 c])
  | [], Z, rs, h => by
    obtain ⟨q, Z', qs, h1, h2, rfl⟩ := wrAll_inv h
    obtain ⟨rfl, rfl⟩ := wrAll_nil h2
    rw [List.append_nil, List.nil_append]
    have := wrAll_cons (S := []) (cutSeg_grow hc h1) (by rw [wrAll, if_pos rfl])
    rwa [List.append_nil] at this
  | (x, e) :: S, Z, rs, h => by
    obtain ⟨q, Z', qs, h1, h2, rfl⟩ := wrAll_inv h
    rw [List.cons_append, List.append_assoc]
    exact wrAll_cons (cutSeg_more _ h1) (wrAll_grow hc h2)
/-! ### segments that are read -/
def segOk (S : List Seg) : Prop := ∀ s ∈ S, s.1 < 65536 ∧ s.2 ≠ [] ∧ s.2.length + s.1 ≤ 65536
theorem segOk_add {S : List Seg} {a : Nat} {c : List UInt8} (h : segOk S) (hc : c ≠ []) (ha : a + c.length ≤ 65536) : segOk (addSeg a c S) := by
  have hcl : 0 < c.length := List.length_pos_iff.2 hc
  rcases List.eq_nil_or_concat S with rfl | ⟨P, x, rfl⟩
  · intro s hs
    rw [addSeg_nil] at hs
    simp only [List.mem_singleton] at hs
    subst hs
    exact ⟨by dsimp only; omega, hc, by dsimp only; omega⟩
  · rw [List.concat_eq_append] at h ⊢
    rw [addSeg_snoc]
    split
    · rename_i he
      intro s hs
      rcases List.mem_append.1 hs with hs | hs
      · exact h s (by simp [hs])
      · simp only [List.mem_singleton] at hs
        subst hs
        have := h x (by simp)
        refine ⟨this.1, by simp [this.2.1], ?_⟩
        simp only [List.length_append]
        omega
    · intro s hs
      rcases List.mem_append.1 hs with hs | hs
      · exact h s hs
      · simp only [List.mem_singleton] at hs
        subst hs
        exact ⟨by dsimp only; omega, hc, by dsimp only; omega⟩
theorem wrAll_add {S : List Seg} {Z : List Nat} {rs : List (List UInt8)} {a : Nat} {c : List UInt8} (hc : c ≠ []) (h : wrAll S Z = some rs) : wrAll (addSeg a c S) (Z ++ [c.length]) = some (rs ++ [mkRec a 0 c]) := by
  rcases List.eq_nil_or_concat S with rfl | ⟨P, x, rfl⟩
  · exact wrAll_snoc hc h
  · rw [List.concat_eq_append] at h ⊢
    rw [addSeg_snoc]
    split
    · rename_i he
      rw [← he]
      exact wrAll_grow hc h
    · exact wrAll_snoc hc h
theorem wrAll_none {S : List Seg} {rs : List (List UInt8)} (hS : segOk S) (h : wrAll S [] = some rs) : S = [] := by
  cases S with
  | nil => rfl
  | cons x S =>
    obtain ⟨a, d⟩ := x
    obtain ⟨q, Z', qs, h1, _, _⟩ := wrAll_inv h
    rw [cutSeg_no (hS (a, d) (by simp)).2.1] at h1
    cases h1
theorem u8_nat (c : UInt8) : UInt8.ofNat c.toNat = c := UInt8.ofNat_toNat
/-- a record is told by its kind, its place and its content -/
theorem rec_mk {raw : List UInt8} (h : recOk raw) : raw = mkRec (rAt raw) (b8 raw 3) (rCont raw) ∧ ∀ k, b8 raw 3 = k → raw = mkRec (rAt raw) k (rCont raw) := by
  have key : raw = mkRec (rAt raw) (b8 raw 3) (rCont raw) := by
    obtain ⟨h1, h2, h3⟩ := h
    match raw, h1, h2, h3 with
    | x0 :: x1 :: x2 :: x3 :: t, h1, h2, h3 =>
      have e0 : b8 (x0 :: x1 :: x2 :: x3 :: t) 0 = x0.toNat := rfl
      have e3 : b8 (x0 :: x1 :: x2 :: x3 :: t) 3 = x3.toNat := rfl
      have ea : rAt (x0 :: x1 :: x2 :: x3 :: t) = 256 * x1.toNat + x2.toNat := rfl
      have ec : rCont (x0 :: x1 :: x2 :: x3 :: t) = t.take x0.toNat := rfl
      rw [e0] at h2
      rw [e3, ea, ec]
      simp only [List.length_cons] at h2
      obtain ⟨n, hn⟩ : ∃ n, n = x0.toNat := ⟨_, rfl⟩
      rw [← hn] at h2 ⊢
      have l1 := x1.toNat_lt
      have l2 := x2.toNat_lt
      have ht : t = t.take n ++ [t[n]'(by omega)] := by
        have := List.take_append_drop n t
        conv => lhs; rw [← this]
        rw [List.drop_eq_getElem_cons (by omega), List.drop_of_length_le (by omega)]
      obtain ⟨y, hy⟩ : ∃ y, y = t[n]'(by omega) := ⟨_, rfl⟩
      rw [← hy] at ht
      obtain ⟨c, hc⟩ : ∃ c, c = t.take n := ⟨_, rfl⟩
      rw [← hc] at ht ⊢
      have hcl : c.length = n := by rw [hc]; simp; omega
      have hd : recHd (256 * x1.toNat + x2.toNat) x3.toNat c = [x0, x1, x2, x3] ++ c := by
        unfold recHd
        rw [hcl, hn, u8_nat, u8_nat, show (256 * x1.toNat + x2.toNat) / 256 = x1.toNat by omega, u8_nat]
        have : UInt8.ofNat (256 * x1.toNat + x2.toNat) = x2 := by
          apply UInt8.toNat_inj.1
          rw [UInt8.toNat_ofNat']
          omega
        rw [this]
      have hs : sumB (x0 :: x1 :: x2 :: x3 :: t) = sumB ([x0, x1, x2, x3] ++ c) + y.toNat := by
        rw [ht]
        have : sumB (([x0, x1, x2, x3] ++ c) ++ [y]) = sumB ([x0, x1, x2, x3] ++ c) + sumB [y] := sumB_append _ _
        rw [show x0 :: x1 :: x2 :: x3 :: (c ++ [y]) = ([x0, x1, x2, x3] ++ c) ++ [y] from rfl, this]
        rfl
      rw [hs] at h3
      have ly := y.toNat_lt
      unfold mkRec sumC
      rw [hd, ht]
      have : UInt8.ofNat (256 - sumB ([x0, x1, x2, x3] ++ c) % 256) = y := by
        apply UInt8.toNat_inj.1
        rw [UInt8.toNat_ofNat']
        omega
      rw [this]
      rfl
  exact ⟨key, fun k hk => by rw [← hk]; exact key⟩
/-- what the records of a file tell -/
structure FoldR (S : List Seg) (Z : List Nat) (qs rs : List (List UInt8)) : Prop where
  ex : ∃ init, rs = init ++ [mkRec 0 1 []] ∧ wrAll S Z = some (qs ++ init) ∧ Z.length = qs.length + init.length
  seg : segOk S
  sz : ∀ n ∈ Z, 1 ≤ n ∧ n ≤ 255
theorem foldR_some {S' : List Seg} {Z' : List Nat} : ∀ {rs : List (List UInt8)} {S : List Seg} {Z : List Nat} {qs : List (List UInt8)}, wrAll S Z = some qs → Z.length = qs.length → segOk S → (∀ n ∈ Z, 1 ≤ n ∧ n ≤ 255) → (∀ r ∈ rs, recOk r) → foldR S Z rs = some (S', Z') → FoldR S' Z' qs rs
  | [], S, Z, qs, _, _, _, _, _, h => by rw [foldR] at h; cases h
  | raw :: rs, S, Z, qs, hw, hl, hS, hZ, hr, h => by
    have hok := hr raw (by simp)
    by_cases hrs : rs = []
    · subst hrs
      rw [foldR_one] at h
      split at h
      · rename_i he
        cases h
        obtain ⟨e1, e2, e3⟩ := he
        have := (rec_mk hok).2 1 e3
        rw [e2, show rCont raw = [] by unfold rCont; rw [e1, List.take_zero]] at this
        refine ⟨⟨[], by rw [this]; rfl, by rw [List.append_nil]; exact hw, by simpa using hl⟩, hS, hZ⟩
      · cases h
    · rw [foldR_cons _ _ _ hrs] at h
      split at h
      · rename_i hd
        obtain ⟨d1, d2, d3⟩ := hd
        have hcl := rCont_len hok
        have hcn : rCont raw ≠ [] := by
          intro e
          rw [e] at hcl
          simp at hcl
          omega
        have e := (rec_mk hok).2 0 d1
        have hw2 := wrAll_add (a := rAt raw) hcn hw
        rw [hcl, ← e] at hw2
        have hb : b8 raw 0 ≤ 255 := Nat.le_of_lt_succ (raw[0]?.getD 0).toNat_lt
        obtain ⟨⟨init, i1, i2, i3⟩, i4, i5⟩ := foldR_some hw2 (by simp [hl]) (segOk_add hS hcn (by omega)) (fun n hn => by
          rcases List.mem_append.1 hn with hn | hn
          · exact hZ n hn
          · obtain rfl := List.mem_singleton.1 hn
            exact ⟨Nat.pos_of_ne_zero d2, hb⟩) (fun r hr2 => hr r (by simp [hr2])) h
        refine ⟨⟨raw :: init, by rw [i1]; rfl, by rw [i2, List.append_assoc]; rfl, by simp only [List.length_append, List.length_cons, List.length_nil] at i3 ⊢; omega⟩, i4, i5⟩
      · cases h
structure HexF (fl : Nat) (l : List UInt8) (S : List Seg) (Z : List Nat) : Prop where
  ex : ∃ init, l = (init ++ [mkRec 0 1 []]).flatMap (lineB fl) ∧ wrAll S Z = some init ∧ Z.length = init.length
  seg : segOk S
  sz : ∀ n ∈ Z, 1 ≤ n ∧ n ≤ 255
  len : 2 * Z.length ≤ l.length
theorem lines_len (fl : Nat) : ∀ rs : List (List UInt8), 2 * rs.length ≤ (rs.flatMap (lineB fl)).length
  | [] => by simp
  | r :: rs => by
    have := lines_len fl rs
    have := (lineB_len fl r).1
    rw [List.flatMap_cons, List.length_append, List.length_cons]
    omega
theorem hexRead_some {fl : Nat} {l : List UInt8} {S : List Seg} {Z : List Nat} (h : hexRead fl l = some (S, Z)) : HexF fl l S Z := by
  unfold hexRead at h
  split at h
  · cases h
  · rename_i rs hr
    obtain ⟨r1, r2⟩ := recs_iff.1 hr
    obtain ⟨⟨init, i1, i2, i3⟩, i4, i5⟩ := foldR_some (qs := []) (by rw [wrAll, if_pos rfl]) rfl (by unfold segOk; simp) (by simp) r2 h
    rw [List.nil_append] at i2
    simp only [List.length_nil, Nat.zero_add] at i3
    refine ⟨⟨init, by rw [← i1]; exact r1, i2, i3⟩, i4, i5, ?_⟩
    have := lines_len fl rs
    rw [← r1, i1, List.length_append] at this
    omega
theorem hexOut_back {fl : Nat} {l : List UInt8} {S : List Seg} {Z : List Nat} (h : HexF fl l S Z) : hexOut fl S (szOf S Z) = some l := by
  obtain ⟨init, i1, i2, i3⟩ := h.ex
  have e : (if szOf S Z = [] then usual S else szOf S Z) = Z := by
    unfold szOf
    by_cases hu : Z = usual S
    · rw [if_pos hu, if_pos rfl, hu]
    · rw [if_neg hu]
      by_cases hz : Z = []
      · exfalso
        rw [hz] at i2
        have := wrAll_none h.seg i2
        rw [this] at hu
        exact hu (by rw [hz]; rfl)
      · rw [if_neg hz]
  unfold hexOut
  rw [e, i2, i1]
theorem hexShape_val {S : List Seg} (h : segOk S) : hexShape (hexVal S) = some S := by
  unfold hexShape
  rw [if_pos rfl]
  show allM segOf (S.map segV) = some S
  refine allM_of (by simp) fun i x y hx hy => ?_
  rw [List.getElem?_map, hy] at hx
  cases hx
  obtain ⟨h1, h2, h3⟩ := h y (List.mem_of_getElem? hy)
  unfold segOf
  rw [if_pos ⟨rfl, rfl⟩]
  simp only
  rw [if_pos ⟨by trivial, by trivial, by show (0 : Int) ≤ (y.1 : Int); omega, by show (y.1 : Int) < 65536; omega, h2, by show (y.2.length : Int) ≤ 65536 - (y.1 : Int); omega⟩]
  rfl
theorem hexFrom_some {l : List UInt8} {x : Val × List UInt8} : ∀ {n : Nat}, hexFrom l n = some x → ∃ fl, fl < 4 ∧ hexOne fl l = some x
  | 0, h => by cases h
  | n + 1, h => by
    unfold hexFrom at h
    split at h
    · rename_i y hy
      cases h
      exact ⟨3 - n, by omega, hy⟩
    · exact hexFrom_some h
theorem hexOne_some {fl : Nat} {l : List UInt8} {v : Val} {r : List UInt8} (h : hexOne fl l = some (v, r)) : ∃ S Z, hexRead fl l = some (S, Z) ∧ (vfault (hexVal S)).1 = 0 ∧ v = hexVal S ∧ r = resB fl (szOf S Z) := by
  unfold hexOne at h
  split at h
  · cases h
  · rename_i S Z hr
    split at h
    · rename_i hv
      cases h
      exact ⟨S, Z, hr, hv, rfl, rfl⟩
    · cases h
theorem hexTo_some {l : List UInt8} {v : Val} {r : List UInt8} (h : hexTo l = some (v, r)) : ∃ fl S Z, fl < 4 ∧ HexF fl l S Z ∧ (vfault (hexVal S)).1 = 0 ∧ v = hexVal S ∧ r = resB fl (szOf S Z) := by
  obtain ⟨fl, hf, h1⟩ := hexFrom_some h
  obtain ⟨S, Z, h2, h3, h4, h5⟩ := hexOne_some h1
  exact ⟨fl, S, Z, hf, hexRead_some h2, h3, h4, h5⟩
theorem szOf_ok {fl : Nat} {l : List UInt8} {S : List Seg} {Z : List Nat} (h : HexF fl l S Z) : (szOf S Z).length ≤ Z.length ∧ ∀ n ∈ szOf S Z, 1 ≤ n ∧ n ≤ 255 := by
  unfold szOf
  split
  · exact ⟨Nat.zero_le _, by simp⟩
  · exact ⟨Nat.le_refl _, h.sz⟩
theorem hexMake_yes {v : Val} {b o : List UInt8} {S : List Seg} {fl : Nat} {Z : List Nat} (h1 : hexShape v = some S) (h2 : hexRd b = some (fl, Z)) (h3 : hexOut fl S Z = some o) (h4 : o.length ≤ 1000) (h5 : hexTo o = some (v, b)) : hexMake v b = some o := by
  unfold hexMake
  rw [h1]
  simp only
  rw [h2]
  simp only
  rw [h3]
  simp only
  rw [if_pos ⟨h4, h5⟩]
theorem hexMake_no {v : Val} {b o : List UInt8} {S : List Seg} {fl : Nat} {Z : List Nat} (h1 : hexShape v = some S) (h2 : hexRd b = some (fl, Z)) (h3 : hexOut fl S Z = some o) (h4 : o.length ≤ 1000 → hexTo o ≠ some (v, b)) : hexMake v b = none := by
  unfold hexMake
  rw [h1]
  simp only
  rw [h2]
  simp only
  rw [h3]
  simp only
  rw [if_neg fun q => h4 q.1 q.2]
theorem hexMake_bad {v : Val} {b : List UInt8} {S : List Seg} (h1 : hexShape v = some S) (h2 : hexRd b = none) : hexMake v b = none := by
  unfold hexMake
  rw [h1]
  simp only
  rw [h2]
theorem hexMake_out {v : Val} {b : List UInt8} {S : List Seg} {fl : Nat} {Z : List Nat} (h1 : hexShape v = some S) (h2 : hexRd b = some (fl, Z)) (h3 : hexOut fl S Z = none) : hexMake v b = none := by
  unfold hexMake
  rw [h1]
  simp only
  rw [h2]
  simp only
  rw [h3]
theorem hex_round {l : List UInt8} {v : Val} {r : List UInt8} (hl : l.length ≤ 1000) (h : hexTo l = some (v, r)) : hexMake v r = some l := by
  obtain ⟨fl, S, Z, hf, F, h3, h4, h5⟩ := hexTo_some h
  have hz := szOf_ok F
  have := F.len
  unfold hexMake
  rw [h4, hexShape_val F.seg]
  simp only
  rw [h5, hexRd_res hf (by omega) hz.2]
  simp only
  rw [hexOut_back F]
  simp only
  rw [if_pos ⟨hl, by rw [h, h4, h5]⟩]
theorem hexMake_some {v : Val} {b o : List UInt8} (h : hexMake v b = some o) : o.length ≤ 1000 ∧ hexTo o = some (v, b) := by
  unfold hexMake at h
  split at h
  · cases h
  · split at h
    · cases h
    · split at h
      · cases h
      · split at h
        · rename_i hc
          cases h
          exact hc
        · cases h
theorem putL_ints_len {Z : List Nat} (hl : Z.length ≤ 1000) (hz : ∀ n ∈ Z, n ≤ 255) : (putL putN (ints Z)).length ≤ 10010 := by
  have := putL_len (f := putN) (m := 10) (l := ints Z) (by simp; omega) fun x hx => by
    obtain ⟨n, hn, rfl⟩ := List.mem_map.1 hx
    have := hz n hn
    exact putN_len (by omega) (by omega)
  simp only [List.length_map] at this
  omega
theorem resB_len {fl : Nat} {Z : List Nat} (hf : fl < 4) (hl : Z.length ≤ 1000) (hz : ∀ n ∈ Z, n ≤ 255) : (resB fl Z).length ≤ 10020 := by
  have h1 := putL_ints_len hl hz
  have h2 := putN_len (n := (fl : Int)) (by omega) (by omega)
  unfold resB
  split
  · simp
  · rw [List.length_append]; omega
theorem vb_seg {s : Seg} (h : s.1 < 65536 ∧ s.2 ≠ [] ∧ s.2.length + s.1 ≤ 65536) : VB 1048576 (segV s) :=
  .mk (i64_c 4) (i64_c 0) (Nat.zero_le _) (by show 2 ≤ _; omega) (by
    intro x hx
    simp only [List.mem_cons, List.not_mem_nil, or_false] at hx
    rcases hx with rfl | rfl <;> decide) (by show 2 ≤ _; omega) (by
    intro x hx
    simp only [List.mem_cons, List.not_mem_nil, or_false] at hx
    rcases hx with rfl | rfl
    · exact vb_num ⟨by omega, by omega⟩
    · exact vb_byt (by omega))
theorem vb_hex {S : List Seg} (h : segOk S) (hl : S.length ≤ 1000000) : VB 1048576 (hexVal S) :=
  .mk (i64_c 3) (i64_c 0) (Nat.zero_le _) (Nat.zero_le _) (by simp) (by show (S.map segV).length ≤ _; simp; omega) (by
    intro x hx
    obtain ⟨s, hs, rfl⟩ := List.mem_map.1 (show x ∈ S.map segV from hx)
    exact vb_seg (h s hs))
theorem wrAll_len : ∀ {S : List Seg} {Z : List Nat} {rs : List (List UInt8)}, segOk S → wrAll S Z = some rs → S.length ≤ rs.length
  | [], _, _, _, _ => Nat.zero_le _
  | (a, d) :: S, Z, rs, hS, h => by
    obtain ⟨q, Z', qs, h1, h2, rfl⟩ := wrAll_inv h
    have := wrAll_len (fun s hs => hS s (by simp [hs])) h2
    have hd := (hS (a, d) (by simp)).2.1
    have hq : 1 ≤ q.length := by
      cases Z with
      | nil => rw [cutSeg_no hd] at h1; cases h1
      | cons n Z =>
        rw [cutSeg_cons hd] at h1
        split at h1
        · split at h1
          · cases h1
          · cases h1; simp
        · cases h1
    simp only [List.length_append, List.length_cons]
    omega
theorem hex_valid {b : List UInt8} {v : Val} {r : List UInt8} (hl : b.length ≤ 1000) (h : hexTo b = some (v, r)) : VB 1048576 v ∧ (vfault v).1 = 0 ∧ (hexShape v).isSome = true ∧ hexMake v r = some b ∧ r.length ≤ 100000000 ∧ ∃ ls, hexLoss r = some ls ∧ ls.length ≤ 4 ∧ (ls = [] ↔ r = []) := by
  have hmk := hex_round hl h
  obtain ⟨fl, S, Z, hf, F, h3, h4, h5⟩ := hexTo_some h
  obtain ⟨z1, z2⟩ := szOf_ok F
  have hlen := F.len
  obtain ⟨init, i1, i2, i3⟩ := F.ex
  have hSl := wrAll_len F.seg i2
  refine ⟨by rw [h4]; exact vb_hex F.seg (by omega), by rw [h4]; exact h3, by rw [h4, hexShape_val F.seg]; rfl, hmk, ?_, ?_⟩
  · rw [h5]
    have := resB_len hf (Z := szOf S Z) (by omega) fun n hn => (z2 n hn).2
    omega
  · unfold hexLoss
    rw [h5, hexRd_res hf (by omega) z2]
    refine ⟨_, rfl, by have := lossHex_len fl (szOf S Z).length; omega, ?_⟩
    rw [lossHex_nil hf, resB_nil, List.length_eq_zero_iff]
end Go.Proofs.Ytjfcpnlacodjjaa
