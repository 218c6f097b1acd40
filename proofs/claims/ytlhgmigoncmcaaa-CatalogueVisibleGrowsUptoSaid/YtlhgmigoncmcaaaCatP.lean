/-
  Plain facts: a reader with one more group sees no less.
-/
import Derived.Test.YtlhgmigoncmcaaaCatM
namespace Go.Proofs.Ytlhgmigoncmcaaa
open Go Go.RowKit

def insStep (g : List UInt8) (st : List (List UInt8) × Bool) (x : List UInt8) : List (List UInt8) × Bool :=
  if st.2 = false ∧ strLe g x = true then ((if Op.bytesLess g x = true then st.1 ++ [g] else st.1) ++ [x], true) else (st.1 ++ [x], st.2)
def insPre (g : List UInt8) (gs : List (List UInt8)) (i : Nat) : List (List UInt8) × Bool := (gs.take i).foldl (insStep g) ([], false)
def insL (g : List UInt8) (gs : List (List UInt8)) : List (List UInt8) := if (insPre g gs gs.length).2 = true then (insPre g gs gs.length).1 else (insPre g gs gs.length).1 ++ [g]
theorem insPre_succ {g : List UInt8} {gs : List (List UInt8)} {i : Nat} (hi : i < gs.length) : insPre g gs (i + 1) = insStep g (insPre g gs i) gs[i] := by
  rw [insPre, List.take_succ_eq_append_getElem hi, List.foldl_append]
  rfl
theorem insStep_mem {g : List UInt8} {st : List (List UInt8) × Bool} {x y : List UInt8} (h : y ∈ st.1 ∨ y = x) : y ∈ (insStep g st x).1 := by
  unfold insStep
  split
  · split
    · rcases h with h | h <;> simp [h]
    · rcases h with h | h <;> simp [h]
  · rcases h with h | h <;> simp [h]
theorem insPre_mem {g : List UInt8} {gs : List (List UInt8)} {i : Nat} (hi : i ≤ gs.length) : ∀ y ∈ gs.take i, y ∈ (insPre g gs i).1 := by
  induction i with
  | zero => intro y hy; simp at hy
  | succ i ih =>
    intro y hy
    rw [insPre_succ (by omega)]
    rw [List.take_succ_eq_append_getElem (by omega), List.mem_append, List.mem_singleton] at hy
    exact insStep_mem (hy.imp (ih (by omega) y) id)
theorem insStep_len (g : List UInt8) (st : List (List UInt8) × Bool) (x : List UInt8) : (insStep g st x).1.length ≤ st.1.length + 2 := by
  unfold insStep
  split
  · split <;> simp
  · simp
theorem insPre_len {g : List UInt8} {gs : List (List UInt8)} {i : Nat} (hi : i ≤ gs.length) : (insPre g gs i).1.length ≤ 2 * i := by
  induction i with
  | zero => simp [insPre]
  | succ i ih =>
    rw [insPre_succ (by omega)]
    have := insStep_len g (insPre g gs i) gs[i]
    have := ih (by omega)
    omega
theorem insL_mem {g : List UInt8} {gs : List (List UInt8)} : ∀ y ∈ gs, y ∈ insL g gs := by
  intro y hy
  have := insPre_mem (g := g) (gs := gs) (Nat.le_refl _) y (by simpa using hy)
  unfold insL
  split
  · exact this
  · exact List.mem_append.2 (.inl this)
theorem insL_len (g : List UInt8) (gs : List (List UInt8)) : (insL g gs).length ≤ 2 * gs.length + 1 := by
  have := insPre_len (g := g) (gs := gs) (Nat.le_refl _)
  unfold insL
  split
  · omega
  · simp; omega
theorem sees_more {e : Ent} {gs gs' : List (List UInt8)} {d d' : Int} (hg : ∀ y ∈ gs, y ∈ gs') (hd : d ≤ d') (h : sees e gs d = true) : sees e gs' d' = true := by
  unfold sees at h ⊢
  rw [Bool.and_eq_true, decide_eq_true_eq, Bool.or_eq_true] at h ⊢
  refine ⟨by omega, ?_⟩
  rcases h.2 with h | h
  · exact .inl h
  · obtain ⟨x, hx, hx2⟩ := List.any_eq_true.1 h
    exact .inr (List.any_eq_true.2 ⟨x, hx, by simpa using hg x (by simpa using hx2)⟩)
theorem picks_asc {p : Nat → Bool} {n : Nat} : ∀ (i j : Nat) (hi : i < (picks p n).length) (hj : j < (picks p n).length), i < j → (picks p n)[i] < (picks p n)[j] := by
  induction n with
  | zero => intro i j hi; simp [picks] at hi
  | succ n ih =>
    intro i j hi hj hij
    by_cases hp : p n = true
    · have e : picks p (n + 1) = picks p n ++ [(n : Int)] := by simp [picks, hp]
      simp only [e] at hi hj ⊢
      simp only [List.length_append, List.length_singleton] at hi hj
      rw [List.getElem_append_left (show i < (picks p n).length by omega)]
      by_cases hjn : j < (picks p n).length
      · rw [List.getElem_append_left hjn]
        exact ih i j (by omega) hjn hij
      · rw [List.getElem_append_right (by omega)]
        obtain ⟨q, hq, hq2, _⟩ := picks_mem.1 (List.getElem_mem (show i < (picks p n).length by omega))
        simp only [List.getElem_singleton]
        omega
    · have e : picks p (n + 1) = picks p n := by simp [picks, hp]
      simp only [e] at hi hj ⊢
      exact ih i j hi hj hij
theorem visCode_zz {l : List Ent} {gs : List (List UInt8)} {day : Int} (h : (visCode l gs day).1 = 0) : (visCode l gs day).2 = 0 := by
  unfold visCode at h ⊢
  split at h
  · contradiction
  · rename_i h1
    rw [if_neg h1, (rdFault_zero h).1]
theorem visRow {W V : World} {c i : Int} {xs : List Int} {v : Value} {w' : World} (hz : c = 0 → i = 0) (h : NumsOr W V c i xs v w') : ∃ (V' : World) (t : Sl), Sub V V' ∧ Rel W V [] V' w' ∧ v = .tuple #[t.v, faultV c i] ∧ ((c ≠ 0 ∧ t = ⟨none, 0, 0⟩) ∨ (c = 0 ∧ Ints V' t xs)) := by
  obtain ⟨V', hV', K, ⟨hc, rfl⟩ | ⟨rfl, t, rfl, ht⟩⟩ := h
  · exact ⟨V', ⟨none, 0, 0⟩, hV', K, rfl, .inl ⟨hc, rfl⟩⟩
  · rw [hz rfl]
    exact ⟨V', t, hV', K, rfl, .inr ⟨rfl, ht⟩⟩
end Go.Proofs.Ytlhgmigoncmcaaa
