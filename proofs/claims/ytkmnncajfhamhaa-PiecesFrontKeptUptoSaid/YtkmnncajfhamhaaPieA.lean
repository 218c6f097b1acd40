/-
  pieces.isEnd and what it computes.
-/
import Derived.Test.YtkmnncajfhamhaaVcE
import Derived.Test.YtkmnncajfhamhaaTab
namespace Go.Proofs.Ytkmnncajfhamhaa
open Go Go.RowKit

def wsum (l : List UInt8) (e : Nat) : Nat → Int
  | 0 => 0
  | k + 1 => wsum l e k + ((k : Int) + 1) * ((l[e - 1 - k]?.map fun b => (b.toNat : Int)).getD 0)
def isEndM (l : List UInt8) (s e : Nat) : Bool :=
  decide (e = l.length) || (decide (24 ≤ e - s) && (decide (e - s = 120) || decide (wsum l e 8 % 37 = 5)))
theorem wsum_bd (l : List UInt8) (e k : Nat) (hk : k ≤ 8) : 0 ≤ wsum l e k ∧ wsum l e k ≤ 2040 * k := by
  induction k with
  | zero => simp [wsum]
  | succ k ih =>
    have ih := ih (by omega)
    simp only [wsum]
    have hb : 0 ≤ ((l[e - 1 - k]?.map fun b => (b.toNat : Int)).getD 0) ∧ ((l[e - 1 - k]?.map fun b => (b.toNat : Int)).getD 0) ≤ 255 := by
      cases l[e - 1 - k]? with
      | none => simp
      | some b => have := b.toNat_lt; simp; omega
    have h1 : ((k : Int) + 1) * ((l[e - 1 - k]?.map fun b => (b.toNat : Int)).getD 0) ≤ 8 * 255 := by
      refine Int.mul_le_mul (by omega) hb.2 hb.1 (by omega)
    have h2 : 0 ≤ ((k : Int) + 1) * ((l[e - 1 - k]?.map fun b => (b.toNat : Int)).getD 0) := Int.mul_nonneg (by omega) hb.1
    omega
theorem isEnd_spec {w : World} {d : Sl} {l : List UInt8} (hd : By w d l) (hl : l.length ≤ 2048) (s e : Nat) (h1 : s ≤ e) (h2 : e ≤ l.length) :
    Ret Try.prog 29 [d.v, .int .i64 s, .int .i64 e].toArray w fun v w' => v = .bool (isEndM l s e) ∧ w' = w := by
  have hlen := hd.len
  refine cal_of_vc tabOk Try.func29 rfl (by kernel_rfl) 43 rfl (by simp) [0, 1, 2, 6, 7, 8, 9, 16, 18, 19, 20] ?_
  ((repeat ((conv => whnf); refine And.intro (by omega) ?_)); (conv => whnf))
  refine condG_dec (fun h => ?_) (fun h => ?_)
  · (conv => whnf)
    refine ⟨?_, rfl⟩
    simp only [isEndM, show e = l.length by omega, decide_true, Bool.true_or]
  ((repeat ((conv => whnf); refine And.intro (by omega) ?_)); (conv => whnf))
  refine condG_dec (fun h3 => ?_) (fun h3 => ?_)
  · (conv => whnf)
    refine ⟨?_, rfl⟩
    simp only [isEndM, show ¬ e = l.length by omega, show ¬ 24 ≤ e - s by omega, decide_false, Bool.false_or, Bool.false_and]
  (conv => whnf)
  refine loop_inv tabOk [0, 1, 2, 6, 7, 16, 18] (fun k : Nat => [(8, .int .i64 (wsum l e k)), (19, .int .i64 k)]) (fun k w' => k ≤ 8 ∧ w' = w) (fun k _ => 8 - k) 0 ?_
  (conv => whnf)
  refine ⟨(by repeat (first | exact trivial | refine ⟨rfl, ?_⟩)), ⟨by omega, rfl⟩, ?_⟩
  rintro k w' ⟨hk, rfl⟩
  have hb := wsum_bd l e k hk
  (conv => whnf)
  refine condG_dec (fun h4 => ?_) (fun h4 => ?_)
  · have hlt : e - 1 - k < l.length := by omega
    have hc := hd.cell hlt
    have hub := (l[e - 1 - k]).toNat_lt
    have hm : ((k : Int) + 1) * ((l[e - 1 - k]).toNat : Int) ≤ 8 * 255 := Int.mul_le_mul (by omega) (by omega) (by omega) (by omega)
    have hm0 : 0 ≤ ((k : Int) + 1) * ((l[e - 1 - k]).toNat : Int) := Int.mul_nonneg (by omega) (by omega)
    ((repeat ((conv => whnf); refine And.intro (by omega) ?_)); (conv => whnf))
    refine ⟨hd.plain hlt, ?_⟩
    (conv => whnf)
    rw [show ((e : Int) - 1 - k).toNat = e - 1 - k by omega]
    refine ⟨_, hc, ?_⟩
    ((repeat ((conv => whnf); refine And.intro (by omega) ?_)); (conv => whnf))
    refine ⟨rfl, (by repeat (first | exact trivial | refine ⟨rfl, ?_⟩)), k + 1, ?_, ⟨by omega, rfl⟩, by omega⟩
    have e1 : wsum l e (k + 1) = wsum l e k + ((k : Int) + 1) * ((l[e - 1 - k]).toNat : Int) := by simp [wsum, hlt]
    refine ⟨?_, ?_, trivial⟩
    · rw [e1]; rfl
    · rfl
  · have hk8 : k = 8 := by omega
    subst hk8
    (conv => whnf)
    refine condG_dec (fun h5 => ?_) (fun h5 => ?_)
    · (conv => whnf)
      refine ⟨?_, rfl⟩
      simp [isEndM, show e - s = 120 by omega]
    · ((repeat ((conv => whnf); refine And.intro (by omega) ?_)); (conv => whnf))
      refine ⟨?_, rfl⟩
      simp only [isEndM, show ¬ e = l.length by omega, show 24 ≤ e - s by omega, show ¬ e - s = 120 by omega, decide_true, decide_false, Bool.false_or, Bool.true_and]
end Go.Proofs.Ytkmnncajfhamhaa
