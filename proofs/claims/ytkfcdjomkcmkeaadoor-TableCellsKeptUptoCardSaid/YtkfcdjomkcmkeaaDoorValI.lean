/-
  Plain values: Nodes and ValueFault of the reference.
-/
import Derived.Test.YtkfcdjomkcmkeaaDoorValG
import Derived.Test.YtkfcdjomkcmkeaaDoorWirC
namespace Go.Proofs.YtkfcdjomkcmkeaaDoor
open Go Go.RowKit

abbrev VP := VH × Sl
abbrev nodC (p : VP) : List Value := [iv p.1.k, iv p.1.n, p.1.bs.v, p.1.ss.v, p.1.pl.v, p.2.v]
abbrev nodV (p : VP) : List Value := valC p.1
abbrev nodP (p : VP) : List Value := [p.2.v]
/-- a node with its path -/
structure NodeAt (V : World) (p : VP) (q : Val × Nat) : Prop where
  val : ValAt V p.1 q.1
  path : ∃ l : List Int, SlF itC V p.2 l ∧ l.length = q.2
theorem NodeAt.up (V V' : World) (x : VP) (y : Val × Nat) (hs : Sub V V') (h : NodeAt V x y) : NodeAt V' x y := by
  obtain ⟨l, h1, h2⟩ := h.path
  exact ⟨h.val.up hs, l, h1.up hs, h2⟩
abbrev preP (p : Val × Nat) : List (Val × Nat) := pre p.2 p.1
theorem Pw.last {α β : Type} {R : World → β → α → Prop} {V : World} {xs : List β} {ys : List α} {x : β} {y : α} (h : Pw R V (xs ++ [x]) (ys ++ [y])) : Pw R V xs ys ∧ R V x y := by
  have hl : xs.length = ys.length := by simpa using h.len
  refine ⟨⟨hl, fun k a b h1 h2 => ?_⟩, ?_⟩
  · have g1 := (List.getElem?_eq_some_iff.1 h1).1
    exact h.all k a b (by rw [List.getElem?_append_left g1]; exact h1) (by rw [List.getElem?_append_left (by omega)]; exact h2)
  · exact h.all xs.length x y (by simp) (by rw [hl]; simp)
theorem last_of {α : Type} {l : List α} (h : l.length ≠ 0) : ∃ i x, l = i ++ [x] := by
  rcases List.eq_nil_or_concat l with rfl | ⟨i, x, rfl⟩
  · simp at h
  · exact ⟨i, x, by simp⟩
/-- the parts of a node, pushed in reverse -/
def pushed (ps : List Val) (d t : Nat) : List (Val × Nat) := (ps.drop t).reverse.map fun p => (p, d + 1)
theorem pushed_step {ps : List Val} {d t : Nat} (ht : t < ps.length) : pushed ps d t = pushed ps d (t + 1) ++ [(ps[t], d + 1)] := by
  unfold pushed
  rw [List.drop_eq_getElem_cons ht]
  simp only [List.reverse_cons, List.map_append, List.map_cons, List.map_nil]
theorem pushed_pre (ps : List Val) (d : Nat) : (pushed ps d 0).reverse.flatMap preP = ps.flatMap (pre (d + 1)) := by
  unfold pushed
  rw [List.drop_zero, ← List.map_reverse, List.reverse_reverse, List.flatMap_map]
end Go.Proofs.YtkfcdjomkcmkeaaDoor
namespace Go.Proofs.YtkfcdjomkcmkeaaDoor
open Go Go.RowKit

theorem scan_hit {L : List (Val × Nat)} {i d : Nat} {u : Val} (h : scan (L.take i) 0 = .ok i) (hi : L[i]? = some (u, d)) (hc : atCode u i d ≠ 0) : scan L 0 = .error (atCode u i d, (i : Int)) := by
  have hlt := (List.getElem?_eq_some_iff.1 hi).1
  have he := (List.getElem?_eq_some_iff.1 hi).2
  conv => lhs; rw [← List.take_append_drop i L, scan_append, h]
  rw [List.drop_eq_getElem_cons hlt, he]
  simp only [scan]
  rw [if_pos hc]
theorem scan_go {L : List (Val × Nat)} {i d : Nat} {u : Val} (h : scan (L.take i) 0 = .ok i) (hi : L[i]? = some (u, d)) (hc : atCode u i d = 0) : scan (L.take (i + 1)) 0 = .ok (i + 1) := by
  have hlt := (List.getElem?_eq_some_iff.1 hi).1
  have he := (List.getElem?_eq_some_iff.1 hi).2
  rw [List.take_succ_eq_append_getElem hlt, scan_append, h, he]
  simp only [scan]
  rw [if_neg (fun h => h hc)]
theorem vfault_hit {v : Val} {i d : Nat} {u : Val} (h : scan (((pre 0 v).take 601).take i) 0 = .ok i) (hi : ((pre 0 v).take 601)[i]? = some (u, d)) (hc : atCode u i d ≠ 0) : vfault v = (atCode u i d, (i : Int)) := by
  have := scan_hit h hi hc
  rw [scan_take] at this
  unfold vfault chk
  rw [this]
theorem vfault_ok {v : Val} (h : scan ((pre 0 v).take 601) 0 = .ok ((pre 0 v).take 601).length) : (pre 0 v).take 601 = pre 0 v ∧ vfault v = (if 4000 < sz (pre 0 v) then (14, -1) else (0, 0)) ∧ ∀ (i : Nat) u d, (pre 0 v)[i]? = some (u, d) → nodeCode u = 0 := by
  rw [scan_take] at h
  have hb := scan_bounds _ _ _ h
  have hub := chk_ub (v := v) (d := 0) (n := 0) h
  have hlen : (pre 0 v).length ≤ 600 := by omega
  refine ⟨List.take_of_length_le (by omega), ?_, fun i u d hi => ?_⟩
  · have hc : chk 0 v 0 = .ok ((pre 0 v).take 601).length := h
    unfold vfault
    rw [hc]
    simp only
    rw [enc_len v hc]
    by_cases hs : 4000 < sz (pre 0 v)
    · rw [if_pos hs, if_pos ((sz_iff _).1 hs)]
    · rw [if_neg hs, if_neg (fun h => hs ((sz_iff _).2 h))]
  · have := hb.2 i u d hi
    unfold atCode at this
    split at this
    · cases this
    · exact this
theorem sz_take (L : List (Val × Nat)) (i : Nat) : sz (L.take i) ≤ sz L := by
  conv => rhs; rw [← List.take_append_drop i L]
  simp only [sz, List.map_append, List.sum_append]
  omega
theorem sz_succ {L : List (Val × Nat)} {i d : Nat} {u : Val} (hi : L[i]? = some (u, d)) : sz (L.take (i + 1)) = sz (L.take i) + nodeSz u := by
  have hlt := (List.getElem?_eq_some_iff.1 hi).1
  have he := (List.getElem?_eq_some_iff.1 hi).2
  rw [List.take_succ_eq_append_getElem hlt, he]
  simp [sz]
end Go.Proofs.YtkfcdjomkcmkeaaDoor
