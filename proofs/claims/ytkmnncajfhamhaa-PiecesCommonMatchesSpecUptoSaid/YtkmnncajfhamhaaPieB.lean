/-
  Small functions: fault, At, Bytes, Equal, Copy, Clone, Join, Ints, Chunks.
-/
import Derived.Test.YtkmnncajfhamhaaVcG
import Derived.Test.YtkmnncajfhamhaaTab
namespace Go.Proofs.Ytkmnncajfhamhaa
open Go Go.RowKit

abbrev faultV (c i : Int) : Value := .agg #[.int .i64 c, .int .i64 i]
theorem fault_pieces (c i : Int) (w : World) : Ret Try.prog 19 [.int .i64 c, .int .i64 i].toArray w fun v w' => v = faultV c i ∧ Ext w w' := by
  refine cal_of_vc tabOk Try.func19 rfl (by kernel_rfl) 8 rfl (by simp) [0, 1, 4] ?_
  (conv => whnf)
  intro w1 b h1
  (conv => whnf)
  refine ⟨_, _, h1.blk, ?_⟩
  (conv => whnf)
  intro w2 h2
  have hb := h2.blk (h1.blk.lt)
  (conv => whnf)
  refine ⟨_, hb.cell 0, _, hb.cell 1, rfl, h1.ext.trans' (h2.below (by rw [h1.num]; exact Nat.le_refl _))⟩
theorem at_ref (c i : Int) (w : World) : Ret Try.prog 11 [.int .i64 c, .int .i64 i].toArray w fun v w' => v = faultV c i ∧ Ext w w' := by
  refine cal_of_vc tabOk Try.func11 rfl (by kernel_rfl) 8 rfl (by simp) [0, 1, 4] ?_
  (conv => whnf)
  intro w1 b h1
  (conv => whnf)
  refine ⟨_, _, h1.blk, ?_⟩
  (conv => whnf)
  intro w2 h2
  have hb := h2.blk (h1.blk.lt)
  (conv => whnf)
  refine ⟨_, hb.cell 0, _, hb.cell 1, rfl, h1.ext.trans' (h2.below (by rw [h1.num]; exact Nat.le_refl _))⟩
theorem bytes_ref {w : World} {x y : Sl} {a b : List UInt8} (hx : By w x a) (hy : By w y b) : Ret Try.prog 16 [x.v, y.v].toArray w fun v w' => v = .bool (decide (a = b)) ∧ w' = w := by
  refine cal_of_vc tabOk Try.func16 rfl (by kernel_rfl) 10 rfl (by simp) [0, 1, 4] ?_
  (conv => whnf)
  refine ⟨a, hx.len, hx.cells, ?_⟩
  (conv => whnf)
  refine ⟨b, hy.len, hy.cells, ?_⟩
  (conv => whnf)
  exact ⟨rfl, rfl⟩
theorem bytes_equal {w : World} {x y : Sl} {a b : List UInt8} (hx : By w x a) (hy : By w y b) : Ret Try.prog 26 [x.v, y.v].toArray w fun v w' => v = .bool (decide (a = b)) ∧ w' = w := by
  refine cal_of_vc tabOk Try.func26 rfl (by kernel_rfl) 10 rfl (by simp) [0, 1, 4] ?_
  (conv => whnf)
  refine ⟨a, hx.len, hx.cells, ?_⟩
  (conv => whnf)
  refine ⟨b, hy.len, hy.cells, ?_⟩
  (conv => whnf)
  exact ⟨rfl, rfl⟩
/-- a row of bytes made since block number B -/
structure NBy (B : Nat) (w : World) (s : Sl) (l : List UInt8) : Prop where
  row : Row w s 5 1 (l.map bv)
  new : s.a = none ∨ B ≤ ablk s.a
theorem NBy.by_ {B : Nat} {w : World} {s : Sl} {l : List UInt8} (h : NBy B w s l) : By w s l := ⟨by have := h.row.len; simp at this; omega, h.row.cells, h.row.cap⟩
theorem NBy.len {B : Nat} {w : World} {s : Sl} {l : List UInt8} (h : NBy B w s l) : s.len = l.length := h.by_.len
theorem NBy.mid {B : Nat} {w w' : World} {s : Sl} {l : List UInt8} (h : NBy B w s l) (hm : Mid B w w') : NBy B w' s l := ⟨h.row.mid h.new hm, h.new⟩
theorem app_bytes {w : World} {s x : Sl} {xs ys : List UInt8} {ty : TypeId} (hr : Row w s 5 1 (xs.map bv)) (hx : By w x ys) (hb : xs.length + ys.length ≤ 1099511627776)
    {k : Value → World → Prop} (hk : ∀ s' w', Row w' s' 5 1 ((xs ++ ys).map bv) → Grew w s w' s' → k s'.v w') : SemOk Try.prog (Builtin.append_ #[22, 22] ty #[s.v, x.v]) w k := by
  have h1 := hr.len
  have h2 := hx.len
  simp at h1
  refine app_row tabOk rfl rfl rfl rfl rfl (by decide) hr hx.cells (by simp [h2]) (by simp [Value.oneCell']) (by simp; omega) (by omega) (fun s' w' hr' _ hg => hk s' w' ?_ hg)
  rw [List.map_append]; exact hr'
theorem copy_ref {w : World} {x : Sl} {l : List UInt8} (hx : By w x l) (hl : l.length ≤ 1099511627776) : Ret Try.prog 23 [x.v].toArray w fun v w' => ∃ s : Sl, v = s.v ∧ NBy w.heap.size w' s l ∧ Ext w w' := by
  refine cal_of_vc tabOk Try.func23 rfl (by kernel_rfl) 7 rfl (by simp) [0, 2, 3] ?_
  (conv => whnf)
  refine app_bytes (s := ⟨none, 0, 0⟩) (xs := []) (Row.nil _ _ _) hx (by simp; omega) ?_
  intro s' w1 hr hg
  (conv => whnf)
  exact ⟨s', rfl, ⟨hr, hg.own.imp id (fun h => h.elim (fun h => absurd rfl h.1) id)⟩, hg.below (Nat.le_refl _) (.inl rfl)⟩
end Go.Proofs.Ytkmnncajfhamhaa
