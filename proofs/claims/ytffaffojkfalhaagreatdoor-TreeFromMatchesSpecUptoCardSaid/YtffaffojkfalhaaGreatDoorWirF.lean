/-
  Lengths of lists as bytes; functions that encode one thing.
-/
import Derived.Test.YtffaffojkfalhaaGreatDoorWirC
import Derived.Test.YtffaffojkfalhaaGreatDoorWirD
namespace Go.Proofs.YtffaffojkfalhaaGreatDoor
open Go Go.RowKit

section
variable {V W : World}
/-- a function that gives a row of its own gives what can be read -/
theorem oneOk_of {g : FuncId} {cap : List Value} {a : Value} {bs : List UInt8} (h : ∀ V1 W1, Sub V1 W1 → Sub V V1 → Ret Tryz.prog g (a :: cap).toArray W1 fun v w' => ∃ r : Sl, v = r.v ∧ Rel W1 V1 [.row r 5 1 (bs.flatMap byC)] V1 w') : OneOk V g cap a bs := by
  intro V1 W1 h1 h2
  refine (h V1 W1 h2 h1).mono ?_
  rintro v w ⟨r, rfl, K⟩
  obtain ⟨V2, hV2, K, hr⟩ := Rel.freezeF K (fun _ => rfl) (by decide)
  exact ⟨V2, r, hV2, rfl, hr, K⟩
end
theorem flat_len_le {α : Type} {f : α → List UInt8} {m : Nat} : ∀ {l : List α}, (∀ x ∈ l, (f x).length ≤ m) → (l.flatMap f).length ≤ l.length * m
  | [], _ => by simp
  | x :: l, h => by
    have h1 := h x (by simp)
    have h2 := flat_len_le (l := l) fun y hy => h y (by simp [hy])
    simp only [List.flatMap_cons, List.length_append, List.length_cons, Nat.succ_mul]
    omega
theorem putL_len {α : Type} {f : α → List UInt8} {m : Nat} {l : List α} (hl : l.length ≤ 1099511627776) (h : ∀ x ∈ l, (f x).length ≤ m) : (putL f l).length ≤ 10 + l.length * m := by
  have := putN_len (n := l.length) (by omega) (by omega)
  have := flat_len_le h
  rw [putL, List.length_append]
  omega
end Go.Proofs.YtffaffojkfalhaaGreatDoor
namespace Go.Proofs.YtffaffojkfalhaaGreatDoor
open Go Go.RowKit

/-- a function that reads one thing -/
def Reads {α β : Type} (V : World) (g : FuncId) (cap : List Value) (s : Sl) (A : β → Value) (R : World → β → α → Prop) (p : Nat) (res : Got α) : Prop :=
  ∀ V1 W1, Sub V V1 → Sub V1 W1 → Ret Tryz.prog g (s.v :: iv p :: cap).toArray W1 (ReadR A R W1 V1 res)
theorem manyAt_badAt {α : Type} {one : Nat → Got α} {k p q : Nat} {ys : List α} {c i : Int} (h : manyAt one k p = .ok ys q) (hb : one q = .bad c i) : ∀ n, manyAt one (k + 1 + n) p = .bad c i
  | 0 => by rw [Nat.add_zero, manyAt_snoc, h]; simp only [hb]
  | n + 1 => by
    rw [show k + 1 + (n + 1) = (k + 1 + n) + 1 by omega, manyAt_snoc, manyAt_badAt h hb n]
theorem manyAt_step {α : Type} {one : Nat → Got α} {k p q r : Nat} {ys : List α} {y : α} (h : manyAt one k p = .ok ys q) (hb : one q = .ok y r) : manyAt one (k + 1) p = .ok (ys ++ [y]) r := by
  rw [manyAt_snoc, h]; simp only [hb]
end Go.Proofs.YtffaffojkfalhaaGreatDoor
