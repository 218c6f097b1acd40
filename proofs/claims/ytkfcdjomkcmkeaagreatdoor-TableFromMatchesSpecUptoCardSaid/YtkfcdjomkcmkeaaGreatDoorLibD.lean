/-
  A store into a row that is owned.
-/
import Derived.Test.YtkfcdjomkcmkeaaGreatDoorVcR
namespace Go.Proofs.YtkfcdjomkcmkeaaGreatDoor
open Go Go.RowKit

theorem replK_set1 {v : Value} : ∀ {c : List Value} {o : Nat} {k : List Value → Prop}, o < c.length → k (c.set o v) → replK c o [v] k
  | [], o, k, h, _ => by simp at h
  | u :: c, 0, k, _, hk => by
    show replK c 0 [] fun r => k (v :: r)
    cases c <;> exact hk
  | u :: c, o + 1, k, h, hk => by
    show replK c o [v] fun r => k (u :: r)
    exact replK_set1 (by simpa using h) hk
section
variable {V W : World}
/-- one element of a row that is owned, written -/
theorem Rel.stRow {w0 V0 V w : World} {own : List Res} (H : Rel w0 V0 own V w) {i : Nat} {s : Sl} {e : TypeId} {xs : List Value} (hi : own[i]? = some (.row s e 1 xs)) (j : Nat) (hj : j < s.len) {b o : Nat} (hb : b = ablk s.a) (ho : o = aoff s.a + j) {v : Value} {k : World → Prop}
    (hk : ∀ w', Rel w0 V0 (own.set i (.row s e 1 (xs.set j v))) V w' → k w') : ∃ c t', BlkF w b c t' ∧ replK c o [v] fun c' => ∀ w', UpdF w b c' t' w' → k w' := by
  have hr := H.rowAt hi
  rcases hr.at_ with ⟨_, h2, _⟩ | ⟨b0, cur, h1, h2, h3, h4, h5, h6⟩
  · omega
  · rw [h1] at hb ho
    simp only [ablk, aoff, Nat.zero_add] at hb ho
    subst hb ho
    have hbl : BlkF w b cur.toList e := h2
    refine ⟨cur.toList, e, hbl, replK_set1 (by rw [Array.length_toList, h5]; omega) fun w' hu => hk w' ?_⟩
    have hu' := hu
    obtain ⟨fz, cs, hz1, rfl⟩ := hu.wd
    refine H.put hi rfl rfl rfl (by simp) (fun k _ hk => hu'.other fun e => hk (by rw [e]; simp [Res.at_, h1])) ⟨by rw [List.length_set, hr.len], .inr ⟨b, (cur.toList.set o v).toArray, h1, hu'.row hbl (by simp), h3, h4, by simp [h5], ?_⟩⟩ fun k hk => .inl hk
    rw [← h6]
    simp [List.take_set]
end
end Go.Proofs.YtkfcdjomkcmkeaaGreatDoor
