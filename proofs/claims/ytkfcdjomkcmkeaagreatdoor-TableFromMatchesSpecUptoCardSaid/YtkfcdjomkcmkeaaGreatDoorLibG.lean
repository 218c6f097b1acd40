/-
  'copy'; bytes.ReplaceAll of quotation marks.
-/
import Derived.Test.YtkfcdjomkcmkeaaGreatDoorWirA
import Derived.Laws.IdiomCopy
namespace Go.Proofs.YtkfcdjomkcmkeaaGreatDoor
open Go Go.RowKit

/-- 'copy' into a block that is owned -/
theorem Rel.cpy {P : Program} {T : List TD} (hT : TabOk P T) {t t2 ty e : TypeId} {d de : TD} (hd : T[t]? = some d) (hu : d.under = .slice e) (hde : T[e]? = some de) (hsz : de.size = 1)
    {w0 V0 V w : World} {own : List Res} (H : Rel w0 V0 own V w) {i b : Nat} {c : List Value} {e' : TypeId} (hi : own[i]? = some (.blk b c e')) {o dl dc n : Nat} {x : Sl} {ys : List Value} (hx : Cells w x.a ys) (hn : n = min x.len dl) (hy : ys.length = n) (hn0 : 0 < n) (hfit : o + n ≤ c.length) (h1 : ∀ u ∈ ys, u.oneCell' = true)
    {k : Value → World → Prop} (hk : ∀ w', Rel w0 V0 (own.set i (.blk b (c.take o ++ ys ++ c.drop (o + n)) e')) V w' → k (iv n) w') : SemOk P (Builtin.copy_ #[t, t2] ty #[.slice (some ⟨b, o, none⟩) dl dc, x.v]) w k := by
  have hd' := hT t d hd
  obtain ⟨j, hj, hj1, hj2, hj3⟩ := (hT e de hde).info
  have ht : P.underlying t = some (.slice e) := by
    obtain ⟨d0, q1, q2⟩ := hd'.under
    rw [hu] at q2
    cases d0 <;> first | (simp_all [undOf]; done) | (simp only [undOf] at q2; split at q2 <;> cases q2)
  have hb := H.blkAt hi
  have hne : ys ≠ [] := fun h => by rw [h] at hy; simp at hy; omega
  have hpl := hx.1 hne
  have hxe : x.v = .slice (some ⟨ablk x.a, aoff x.a, none⟩) x.len x.cap := by
    show Value.slice x.a x.len x.cap = _
    conv => lhs; rw [hpl]
  rw [hxe]
  have hrun := run_copy_row (P := P) w t t2 ty e b o dl dc ⟨ablk x.a, aoff x.a, none⟩ x.len x.cap c.toArray e' ys ht (by rw [hj]; exact congrArg some (hj1.trans hsz)) hb (by rw [hy, hn]) (fun j v hj => by rw [addr_add]; exact hx.2 j v hj) (by rw [List.size_toArray]; omega) h1
  rw [hy] at hrun
  refine .of hrun (hk _ (H.updAt hi ⟨?_⟩))
  have hlt : b < w.heap.size := (Array.getElem?_eq_some_iff.1 hb).1
  have hget : w.heap[b] = .cells c.toArray e' (0, 0) := (Array.getElem?_eq_some_iff.1 hb).2
  unfold World.setRow
  congr 1
  apply Array.ext_getElem?
  intro m
  rw [Array.getElem?_modify, Array.getElem?_setIfInBounds]
  by_cases hm : b = m
  · subst hm
    rw [if_pos rfl, if_pos rfl, if_pos hlt, Array.getElem?_eq_getElem hlt, hget]
    rfl
  · rw [if_neg hm, if_neg hm]
/-- .. of bytes, also of none -/
theorem Rel.cpyB {P : Program} {T : List TD} (hT : TabOk P T) {t t2 ty e : TypeId} {d de : TD} (hd : T[t]? = some d) (hu : d.under = .slice e) (hde : T[e]? = some de) (hsz : de.size = 1)
    {w0 V0 V w : World} {own : List Res} (H : Rel w0 V0 own V w) {i b : Nat} {c : List Value} {e' : TypeId} (hi : own[i]? = some (.blk b c e')) {o dl dc : Nat} {q : Option Addr} {x : Sl} {l : List UInt8} (hx : Byt V x l) (hdl : l.length ≤ dl) (hfit : o + l.length ≤ c.length) (hq : l.length ≠ 0 → q = some ⟨b, o, none⟩)
    {k : Value → World → Prop} (hk : ∀ w', Rel w0 V0 (own.set i (.blk b (c.take o ++ l.flatMap byC ++ c.drop (o + l.length)) e')) V w' → k (iv l.length) w') : SemOk P (Builtin.copy_ #[t, t2] ty #[.slice q dl dc, x.v]) w k := by
  have hlen := hx.len
  have hfl : (l.flatMap byC).length = l.length := by rw [byC_map, List.length_map]
  by_cases h0 : l.length = 0
  · have hl : l = [] := List.eq_nil_of_length_eq_zero h0
    obtain ⟨j, hj, hj1, hj2, hj3⟩ := (hT e de hde).info
    have ht : P.underlying t = some (.slice e) := by
      obtain ⟨d0, q1, q2⟩ := (hT t d hd).under
      rw [hu] at q2
      cases d0 <;> first | (simp_all [undOf]; done) | (simp only [undOf] at q2; split at q2 <;> cases q2)
    have hrun := run_copy_none (P := P) w t t2 ty e q x.a dl dc x.len x.cap ht (by rw [hj]; exact congrArg some (hj1.trans hsz)) (by rw [hlen, h0]; simp)
    refine .of hrun ?_
    subst hl
    have hs : own.set i (.blk b (c.take o ++ ([] : List UInt8).flatMap byC ++ c.drop (o + ([] : List UInt8).length)) e') = own := by
      rw [show c.take o ++ ([] : List UInt8).flatMap byC ++ c.drop (o + ([] : List UInt8).length) = c by simp]
      obtain ⟨hi1, hi2⟩ := List.getElem?_eq_some_iff.1 hi
      rw [← hi2, List.set_getElem_self]
    exact hk w (by rw [hs]; exact H)
  · rw [hq h0]
    have := Rel.cpy hT hd hu hde hsz H hi (o := o) (dl := dl) (dc := dc) (n := l.length) (ty := ty) (t2 := t2) (k := k) (hx.up H.data).cells (by rw [hlen]; omega) hfl (by omega) hfit flat_by_one (by
      intro w' H'
      exact hk w' H')
    exact this
theorem cp_zero {E A : List Value} {n : Nat} {z : Value} {o : Nat} (ho : E.length = o) (h : A.length ≤ n) : (E ++ List.replicate n z).take o ++ A ++ (E ++ List.replicate n z).drop (o + A.length) = E ++ A ++ List.replicate (n - A.length) z := by
  rw [List.take_left' ho, ← List.drop_drop, List.drop_left' ho, List.drop_replicate]
end Go.Proofs.YtkfcdjomkcmkeaaGreatDoor
