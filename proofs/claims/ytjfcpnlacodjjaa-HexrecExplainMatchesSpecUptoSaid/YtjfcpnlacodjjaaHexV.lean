/-
  Files of hexadecimal records, plain: a line is cut off at its end.
-/
import Derived.Test.YtjfcpnlacodjjaaHexP
import Derived.Lib.IndexLaws
namespace Go.Proofs.Ytjfcpnlacodjjaa
open Go Go.RowKit

/-- the record of a line without its end -/
def rdS (lo : Bool) : List UInt8 → Option (List UInt8)
  | [] => none
  | c :: t => if c = 58 ∧ (pairs lo t).2 = [] ∧ recOk (pairs lo t).1 then some (pairs lo t).1 else none
theorem pairs_all (lo : Bool) : ∀ (raw : List UInt8), pairs lo (hexB lo raw) = (raw, [])
  | [] => rfl
  | c :: raw => by
    obtain ⟨c1, c2, c3⟩ := byte_hl c
    show pairs lo (hdC lo (c.toNat / 16) :: hdC lo (c.toNat % 16) :: hexB lo raw) = _
    unfold pairs
    rw [hdg_C c1, hdg_C c2]
    simp only
    rw [pairs_all lo raw, c3]
theorem rdS_cons (lo : Bool) (c : UInt8) (t : List UInt8) : rdS lo (c :: t) = if c = 58 ∧ (pairs lo t).2 = [] ∧ recOk (pairs lo t).1 then some (pairs lo t).1 else none := rfl
theorem rdS_iff {lo : Bool} {s raw : List UInt8} : rdS lo s = some raw ↔ s = 58 :: hexB lo raw ∧ recOk raw := by
  constructor
  · intro h
    cases s with
    | nil => cases h
    | cons c t =>
      rw [rdS_cons] at h
      by_cases hc : c = 58 ∧ (pairs lo t).2 = [] ∧ recOk (pairs lo t).1
      · rw [if_pos hc] at h
        cases h
        refine ⟨?_, hc.2.2⟩
        have := pairs_eq lo t
        rw [hc.2.1, List.append_nil] at this
        rw [this, hc.1]
      · rw [if_neg hc] at h
        cases h
  · rintro ⟨rfl, h2⟩
    rw [rdS_cons, pairs_all, if_pos ⟨rfl, rfl, h2⟩]
theorem rdS_none {lo : Bool} {s : List UInt8} (h : ∀ raw, s = 58 :: hexB lo raw → ¬ recOk raw) : rdS lo s = none := by
  cases hr : rdS lo s with
  | none => rfl
  | some raw =>
    obtain ⟨h1, h2⟩ := rdS_iff.1 hr
    exact absurd h2 (h raw h1)
theorem hexB_ge {lo : Bool} {raw : List UInt8} {c : UInt8} (h : c ∈ hexB lo raw) : 48 ≤ c.toNat := by
  unfold hexB at h
  obtain ⟨b, _, hb⟩ := List.mem_flatMap.1 h
  obtain ⟨b1, b2, _⟩ := byte_hl b
  simp only [List.mem_cons, List.not_mem_nil, or_false] at hb
  rcases hb with rfl | rfl
  · rw [hdC_nat b1]; exact (hdN_lt b1).2
  · rw [hdC_nat b2]; exact (hdN_lt b2).2
theorem endB_cons (fl : Nat) : ∃ e r, endB fl = e :: r ∧ e.toNat < 48 := by
  unfold endB
  split
  · exact ⟨13, [10], rfl, by decide⟩
  · exact ⟨10, [], rfl, by decide⟩
theorem line_noOcc (fl : Nat) {a : List UInt8} (h : ∀ c ∈ a, 48 ≤ c.toNat) (r : List UInt8) : Lib.NoOcc (a ++ r) (endB fl) a.length := fun j hj => by
  obtain ⟨e, es, he, hlt⟩ := endB_cons fl
  unfold Lib.occAt
  rw [he, List.drop_append_of_le_length (by omega), List.drop_eq_getElem_cons hj]
  have hc := h a[j] (List.getElem_mem hj)
  have : (e == a[j]) = false := by
    rw [beq_eq_false_iff_ne]
    intro q
    rw [← q] at hc
    omega
  rw [List.cons_append]
  simp [List.isPrefixOf, this]
theorem line_index (fl : Nat) {a : List UInt8} (h : ∀ c ∈ a, 48 ≤ c.toNat) (r : List UInt8) : Lib.index (a ++ (endB fl ++ r)) (endB fl) = (a.length : Nat) := by
  refine Lib.index_hit (line_noOcc fl h _) (by simp) ?_
  unfold Lib.occAt
  rw [List.drop_left]
  exact List.isPrefixOf_iff_prefix.2 ⟨r, rfl⟩
theorem line_ge {lo : Bool} {raw : List UInt8} : ∀ c ∈ (58 :: hexB lo raw : List UInt8), 48 ≤ c.toNat := fun c hc => by
  rcases List.mem_cons.1 hc with rfl | hc
  · decide
  · exact hexB_ge hc
theorem lineB_split (fl : Nat) (raw r : List UInt8) : lineB fl raw ++ r = (58 :: hexB (lowF fl) raw) ++ (endB fl ++ r) := by
  unfold lineB
  simp
theorem index_occ : ∀ {s sub : List UInt8} {i : Nat}, Lib.index s sub = (i : Nat) → Lib.occAt s sub i = true ∧ i ≤ s.length
  | [], sub, i, h => by
    unfold Lib.index at h
    split at h
    · rename_i he
      obtain rfl : i = 0 := by omega
      cases sub with
      | nil => exact ⟨rfl, Nat.le_refl _⟩
      | cons a r => simp at he
    · omega
  | b :: l, sub, i, h => by
    unfold Lib.index at h
    split at h
    · rename_i he
      obtain rfl : i = 0 := by omega
      exact ⟨he, Nat.zero_le _⟩
    · split at h
      · omega
      · have hge := Lib.index_ge l sub
        have hne : Lib.index l sub ≠ -1 := fun e => by rename_i h2; exact h2 (beq_iff_eq.2 e)
        obtain ⟨j, rfl⟩ : ∃ j, i = j + 1 := ⟨i - 1, by omega⟩
        obtain ⟨h1, h2⟩ := index_occ (s := l) (sub := sub) (i := j) (by omega)
        exact ⟨h1, by simp only [List.length_cons]; omega⟩
theorem rdLine_nocut {fl : Nat} {l : List UInt8} (h : Lib.index l (endB fl) = -1) : rdLine fl l = none := by
  cases hr : rdLine fl l with
  | none => rfl
  | some p =>
    obtain ⟨raw, r⟩ := p
    obtain ⟨h1, _⟩ := rdLine_iff.1 hr
    rw [h1, lineB_split, line_index fl line_ge] at h
    omega
theorem rdLine_cut {fl : Nat} {l : List UInt8} {i : Nat} (h : Lib.index l (endB fl) = (i : Nat)) (ho : Lib.occAt l (endB fl) i = true) : rdLine fl l = match rdS (lowF fl) (l.take i) with
    | none => none
    | some raw => some (raw, l.drop (i + (endB fl).length)) := by
  have hl : l = l.take i ++ (endB fl ++ l.drop (i + (endB fl).length)) := by
    unfold Lib.occAt at ho
    obtain ⟨t, ht⟩ := List.isPrefixOf_iff_prefix.1 ho
    have : l.drop (i + (endB fl).length) = t := by rw [← List.drop_drop, ← ht, List.drop_left]
    rw [this, ht, List.take_append_drop]
  cases hs : rdS (lowF fl) (l.take i) with
  | some raw =>
    obtain ⟨h1, h2⟩ := rdS_iff.1 hs
    refine rdLine_iff.2 ⟨?_, h2⟩
    rw [lineB_split, ← h1]
    exact hl
  | none =>
    simp only
    cases hr : rdLine fl l with
    | none => rfl
    | some p =>
      obtain ⟨raw, r⟩ := p
      obtain ⟨h1, h2⟩ := rdLine_iff.1 hr
      have h3 := h
      rw [h1, lineB_split, line_index fl line_ge] at h3
      have hi : i = (58 :: hexB (lowF fl) raw : List UInt8).length := by omega
      rw [h1, lineB_split, hi, List.take_left] at hs
      rw [rdS_iff.2 ⟨rfl, h2⟩] at hs
      cases hs
/-! ### digits, sums -/
def digL (lo : Bool) : List UInt8 := (List.range 16).map (hdC lo)
def hdI (lo : Bool) (c : UInt8) : Int := match hdg lo c with
  | none => -1
  | some n => n
theorem digL_len (lo : Bool) : (digL lo).length = 16 := by simp [digL]
theorem digL_get {lo : Bool} {n : Nat} (h : n < 16) : (digL lo)[n]? = some (hdC lo n) := by simp [digL, h]
theorem digL_index (lo : Bool) (c : UInt8) : Lib.indexByte (digL lo) c = hdI lo c := by
  have key : ∀ n, n < 256 → Lib.indexByte (digL true) (UInt8.ofNat n) = hdI true (UInt8.ofNat n) ∧ Lib.indexByte (digL false) (UInt8.ofNat n) = hdI false (UInt8.ofNat n) := by decide +kernel
  have := key c.toNat c.toNat_lt
  rw [UInt8.ofNat_toNat] at this
  cases lo
  · exact this.2
  · exact this.1
theorem sumB_step {l : List UInt8} {k : Nat} (h : k < l.length) : sumB (l.take (k + 1)) = sumB (l.take k) + l[k].toNat := by
  rw [List.take_succ_eq_append_getElem h, sumB_append]
  simp [sumB]
theorem hdI_neg {lo : Bool} {c : UInt8} : hdI lo c < 0 ↔ hdg lo c = none := by
  unfold hdI
  cases hdg lo c with
  | none => simp
  | some n => simp
theorem hdI_some {lo : Bool} {c : UInt8} {n : Nat} (h : hdg lo c = some n) : hdI lo c = n := by unfold hdI; rw [h]
/-- pairs of digits, from a place on -/
theorem hexB_take {lo : Bool} {raw : List UInt8} {k : Nat} {x y : Nat} (hx : x < 16) (hy : y < 16) : hexB lo raw ++ [hdC lo x, hdC lo y] = hexB lo (raw ++ [UInt8.ofNat (16 * x + y)]) := by
  unfold hexB
  rw [List.flatMap_append]
  have e : (UInt8.ofNat (16 * x + y)).toNat = 16 * x + y := toNat_ofNat_lt (by omega)
  simp only [List.flatMap_cons, List.flatMap_nil, List.append_nil]
  rw [e, show (16 * x + y) / 16 = x by omega, show (16 * x + y) % 16 = y by omega]
theorem hexB_at {lo : Bool} : ∀ {raw : List UInt8} {k : Nat}, k < raw.length → (∃ x, x < 16 ∧ (hexB lo raw)[2 * k]? = some (hdC lo x)) ∧ ∃ y, y < 16 ∧ (hexB lo raw)[2 * k + 1]? = some (hdC lo y)
  | [], k, h => by simp at h
  | c :: raw, 0, _ => by
    obtain ⟨c1, c2, _⟩ := byte_hl c
    exact ⟨⟨_, c1, rfl⟩, _, c2, rfl⟩
  | c :: raw, k + 1, h => by
    have := hexB_at (lo := lo) (raw := raw) (k := k) (by simpa using h)
    have e1 : (hexB lo (c :: raw))[2 * (k + 1)]? = (hexB lo raw)[2 * k]? := by
      show (_ :: _ :: hexB lo raw)[2 * k + 1 + 1]? = _
      rfl
    have e2 : (hexB lo (c :: raw))[2 * (k + 1) + 1]? = (hexB lo raw)[2 * k + 1]? := by
      show (_ :: _ :: hexB lo raw)[2 * k + 1 + 1 + 1]? = _
      rfl
    rw [e1, e2]
    exact this
/-- a byte that is no digit -/
theorem rdS_dig {lo : Bool} {t : List UInt8} {k : Nat} (h : k < t.length) (hd : hdg lo t[k] = none) : rdS lo (58 :: t) = none := rdS_none fun raw he => by
  exfalso
  rw [List.cons.injEq] at he
  obtain ⟨_, he⟩ := he
  subst he
  rw [hexB_len] at h
  obtain ⟨⟨x, hx, h1⟩, y, hy, h2⟩ := hexB_at (lo := lo) (raw := raw) (k := k / 2) (by omega)
  have hg : (hexB lo raw)[k]? = some ((hexB lo raw)[k]'(by rw [hexB_len]; exact h)) := List.getElem?_eq_getElem _
  by_cases e : k % 2 = 0
  · rw [show 2 * (k / 2) = k by omega, hg] at h1
    rw [Option.some.inj h1, hdg_C hx] at hd
    cases hd
  · rw [show 2 * (k / 2) + 1 = k by omega, hg] at h2
    rw [Option.some.inj h2, hdg_C hy] at hd
    cases hd
theorem rdS_odd {lo : Bool} {t : List UInt8} (h : t.length % 2 ≠ 0) : rdS lo (58 :: t) = none := rdS_none fun raw he => by
  rw [List.cons.injEq] at he
  rw [he.2, hexB_len] at h
  omega
theorem hexB_inj1 {lo : Bool} {raw raw' : List UInt8} (h : hexB lo raw = hexB lo raw') : raw = raw' := by
  have h1 := pairs_all lo raw
  rw [h, pairs_all lo raw'] at h1
  exact (Prod.ext_iff.1 h1).1.symm
theorem rdS_all {lo : Bool} {raw : List UInt8} : rdS lo (58 :: hexB lo raw) = if recOk raw then some raw else none := by
  rw [rdS_cons, pairs_all]
  simp only [true_and]
end Go.Proofs.Ytjfcpnlacodjjaa
