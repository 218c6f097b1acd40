/-
  Conversions between bytes, runes and strings; appends of zeros.
-/
import Derived.Test.YtffaffojkfalhaaGreatDoorWirC
import Derived.Laws.Runes
import Derived.Laws.Cover4
namespace Go.Proofs.YtffaffojkfalhaaGreatDoor
open Go Go.RowKit

section
variable {w0 V0 V w : World} {own : List Res}
theorem run_convert_same (P : Program) (w : World) (t e : TypeId) {b n c : Nat} {l : List Value} {u : TypeId} (ht : P.underlying t = some (.slice e)) (he : P.underlying e = some (.int .u8)) (hb : Blk w b l u) :
    (convert t t (.slice (some ⟨b, 0, none⟩) n c)).run P w = .ok (.slice (some ⟨b, 0, none⟩) n c) { w with heap := w.heap.setIfInBounds b (.cells l.toArray u (l.length, l.length + 1)) } := by
  have hsh : w.shape? b = some (u, l.length) := by
    unfold World.shape?
    rw [show w.heap[b]? = _ from hb]
    simp
  have hfr : w.freeze ⟨b, l.length, none⟩ 1 = { w with heap := w.heap.setIfInBounds b (.cells l.toArray u (l.length, l.length + 1)) } := by
    unfold World.freeze
    rw [if_neg (by decide)]
    congr 1
    have hlt := hb.lt
    have hget : w.heap[b] = .cells l.toArray u (0, 0) := (Array.getElem?_eq_some_iff.1 hb).2
    apply Array.ext
    · simp
    · intro i h1 h2
      have h3 : i < w.heap.size := by simpa using h2
      rw [Array.getElem_setIfInBounds (by simpa using h2), Array.getElem_modify]
      by_cases h : b = i
      · subst h
        simp [hget]
      · simp [h]
  simp [convert, run_underlying ht, run_underlying he, markStringish, hsh, hfr]
/-- '[]byte' of a constant: the row bears the run-time's mark; it may be read from now on -/
theorem Rel.convBB {P : Program} {t e : TypeId} (ht : P.underlying t = some (.slice e)) (he : P.underlying e = some (.int .u8)) {b : Nat} {l : List UInt8} {u : TypeId} (H : Rel w0 V0 (.blk b (l.flatMap byC) u :: own) V w) {n : Nat} (hn : n = l.length) {k : Value → World → Prop}
    (hk : ∀ V' w', Sub V V' → Byt V' ⟨some ⟨b, 0, none⟩, n, n⟩ l → Rel w0 V0 own V' w' → k (.slice (some ⟨b, 0, none⟩) n n) w') : SemOk P (convert t t (.slice (some ⟨b, 0, none⟩) n n)) w k := by
  have hb := H.bk_0
  refine .of (run_convert_same P w t e ht he hb) ?_
  have hlt := hb.lt
  have H2 : Rel w0 V0 (.obj b (.cells (l.flatMap byC).toArray u ((l.flatMap byC).length, (l.flatMap byC).length + 1)) :: own) V { w with heap := w.heap.setIfInBounds b (.cells (l.flatMap byC).toArray u ((l.flatMap byC).length, (l.flatMap byC).length + 1)) } :=
    H.put (i := 0) rfl rfl rfl rfl (by simp) (fun c hc hne => by
      have : b ≠ c := fun e => hne (by rw [e]; rfl)
      simp [Array.getElem?_setIfInBounds_ne this]) (by simp [Res.laid, hlt]) fun c hc => .inl hc
  obtain ⟨V', h1, h2, h3⟩ := H2.freeze (List.sublist_cons_self _ _)
  refine hk V' _ h1 ⟨hn, Nat.le_refl _, fun _ => rfl, fun j v hj => ?_⟩ h2
  have hv := h3 b _ _ _ (H.new (.blk b (l.flatMap byC) u) (by simp) b rfl) (H2.objAt (i := 0) rfl) (fun r hr hrb => (List.pairwise_cons.1 H.apart).1 r hr b rfl hrb)
  simp only [World.cell?, ablk, aoff, Nat.zero_add, hv]
  simpa using hj
/-- 'string(r)' of a rune -/
theorem Rel.convIS {P : Program} {s d : TypeId} (hs : (P.underlying s).isSome = true) (hd : P.underlying d = some .string) {k : IntKind} {n : Int} {G : Value → World → Prop} (hk : G (.string (Utf8.encode n)) w) : SemOk P (convert s d (.int k n)) w G :=
  .of (run_convert_int_string w s d k n hs hd) hk
/-- 'string(rs)' of runes that are owned -/
theorem Rel.convRS {P : Program} {s d e : TypeId} (hs : P.underlying s = some (.slice e)) (he : P.underlying e = some (.int .i32)) (hd : P.underlying d = some .string) {b : Nat} {zs : List Int} {u : TypeId} (H : Rel w0 V0 (.blk b (zs.map (Value.int .i32)) u :: own) V w) {n : Nat} (hn : n = zs.length) {G : Value → World → Prop}
    (hk : G (.string (runesBytes zs)) w) : SemOk P (convert s d (.slice (some ⟨b, 0, none⟩) n n)) w G := by
  refine .of (run_convert_runes w s d e ⟨b, 0, none⟩ n n zs (by omega) hs he hd fun j hj => ?_) ?_
  · have := H.bk_0.cell j
    rw [show (⟨b, 0, none⟩ : Addr).add j = ⟨b, 0 + j, none⟩ from addr_add .., Nat.zero_add, this]
    simp [hj, List.getD]
  · rw [List.take_of_length_le (by omega)]
    exact hk
/-- n zeros behind nothing -/
theorem run_append_zeros (P : Program) (w : World) (t u ty e : TypeId) (i : TypeInfo) (z : Value) (ht : P.underlying t = some (.slice e)) (hu : P.underlying u = some (.int .i64)) (hi : P.info? e = some i) (hz : i.zero = some z) (n : Nat) (hs : i.size = 1) (hb : i.bytes = 1)
    (h0 : 0 < n) (h48 : n ≤ 281474976710656) :
    (Builtin.append_ #[t, u] ty #[.slice none 0 0, .int .i64 n]).run P w =
      .ok (.slice (some ⟨w.heap.size, 0, none⟩) n (grownCap w n 0 e)) (w.drew.alloc (.cells (Builtin.zeroCells z.cells n ++ Builtin.zeroCells z.cells (grownCap w n 0 e - n)) e)) := by
  have hn : n ≠ 0 := by omega
  have hw : IntKind.i64.wrap (n : Int) = n := wrap_small _ (by omega) (by omega)
  have h63' : ¬ (9223372036854775807 < (n : Int)) := by omega
  have h48' : ¬ (281474976710656 < Builtin.nextslicecap n 0) := by rw [nextslicecap_zero h0]; omega
  have h48'' : ¬ (281474976710656 < (n : Int)) := by omega
  simp [Builtin.append_, run_underlying ht, run_underlying hu, sizeOf, typeInfo, zeroValue, hi, hz, hs, hb, hw, asInt, asIntOf, hn, h63', h48', h48'', Question.forced, run_firstCells_none, newRow, grownCap]
  intro h
  omega
end
end Go.Proofs.YtffaffojkfalhaaGreatDoor
namespace Go.Proofs.YtffaffojkfalhaaGreatDoor
open Go Go.RowKit

section
variable {w0 V0 V w : World} {own : List Res}
theorem cap_slice {P : Program} {t e ty : TypeId} (ht : P.underlying t = some (.slice e)) {a : Option Addr} {n c : Nat} {k : Value → World → Prop} (hk : k (.int .i64 c) w) : SemOk P (Builtin.cap_ #[t] ty #[.slice a n c]) w k := by
  refine .of (w' := w) ?_ hk
  simp [Builtin.cap_, run_underlying ht, goInt]
theorem zeros_list (n : Nat) : (Builtin.zeroCells (Value.int .u8 0).cells n).toList = List.replicate n (.int .u8 0) := by
  have h : (Value.int .u8 0).cells = #[.int .u8 0] := rfl
  rw [h]
  refine List.ext_getElem (by simp [Builtin.zeroCells]) fun i h1 h2 => ?_
  simp [Builtin.zeroCells, Nat.mod_one]
theorem grown0_le (w : World) (n e : Nat) (h : n ≤ 1099511627776) : grownCap w n 0 e ≤ maxLen := grownCap_le_maxLen w n 0 e (by simp only [maxLen]; omega)
/-- 'append(nil, make([]byte, n)...)' -/
theorem Rel.appZ (H : Rel w0 V0 own V w) {n : Nat} (h0 : 0 < n) (hn : n ≤ 1099511627776) {ty : TypeId} {k : Value → World → Prop}
    (hk : ∀ s' w', Rel w0 V0 (.row s' 5 1 (List.replicate n (.int .u8 0)) :: own) V w' → s'.len = n → k s'.v w') : SemOk Tryz.prog (Builtin.append_ #[22, 3] ty #[.slice none 0 0, .int .i64 n]) w k := by
  obtain ⟨i, hi, hi1, hi2, hi3⟩ := (tabOk _ _ (show tab[5]? = some _ from rfl)).info
  have hrun := run_append_zeros Tryz.prog w 22 3 ty 5 i (.int .u8 0) Tryz.underlying22 Tryz.underlying3 hi hi3 n hi1 hi2 h0 (by omega)
  refine .of hrun ?_
  have hext : Ext w (w.drew.alloc (.cells (Builtin.zeroCells (Value.int .u8 0).cells n ++ Builtin.zeroCells (Value.int .u8 0).cells (grownCap w n 0 5 - n)) 5)) :=
    ⟨rfl, rfl, rfl, by simp, fun c hc => heap_alloc_old w.drew _ c hc⟩
  refine hk ⟨some ⟨w.heap.size, 0, none⟩, n, grownCap w n 0 5⟩ _ (H.more hext ?_ fun b hb => ?_) rfl
  · have hge := grownCap_ge w n 0 5
    refine ⟨by simp, .inr ⟨w.heap.size, _, rfl, ⟨(0, 0), heap_alloc_new w.drew _, .zero _⟩, hge, grown0_le w n _ hn, ?_, ?_⟩⟩
    · simp only [Array.size_append, size_zeroCells]
      have : (Value.int .u8 0).cells.size = 1 := rfl
      rw [this]
      omega
    · rw [Array.toList_append, List.take_append_of_le_length (by rw [Array.length_toList, size_zeroCells]; simp [Value.cells]), List.take_of_length_le (by rw [Array.length_toList, size_zeroCells]; simp [Value.cells])]
      exact zeros_list n
  · simp only [Res.at_, Option.map_some, Option.some.injEq] at hb
    omega
end
section
variable {V W : World}
abbrev slC (s : Sl) : List Value := [s.v]
abbrev BytR (V : World) (x : Sl) (y : List UInt8) : Prop := Byt V x y
theorem flat_take_le (ll : List (List UInt8)) (k : Nat) : ((ll.take k).flatten).length ≤ ll.flatten.length := by
  conv => rhs; rw [← List.take_append_drop k ll, List.flatten_append]
  simp
end
end Go.Proofs.YtffaffojkfalhaaGreatDoor
