/-
  Arguments that come in: strings, numbers, structs, slices.
-/
import Derived.Test.YtgnaojphgdaalaaDoorVcW
import Derived.Test.YtgnaojphgdaalaaDoorVcS
namespace Go.Proofs.YtgnaojphgdaalaaDoor
open Go Go.RowKit Go.ChangeShapes Go.WideShapes Go.ChangeAt

section
variable {H : Type} {enc : TypeId × Value → H} {P : Program} {W : World}
/-- the cells read as d -/
def RdF (enc : TypeId × Value → H) (P : Program) (W : World) (n : Nat) (t : TypeId) (cs : List Value) (d : DataW H) : Prop := ∃ ps, DataW.trod enc P W 0 (fun _ => true) true n t cs = some (d, ps)
/-- the cells read as d -/
def Rd (enc : TypeId × Value → H) (P : Program) (W : World) (t : TypeId) (cs : List Value) (d : DataW H) : Prop := ∃ n ps, DataW.trod enc P W 0 (fun _ => true) true n t cs = some (d, ps)
theorem bulk_mem {d : DataW H} {l : List (DataW H)} (h : d ∈ l) : Rows.uptoBulk d ≤ Rows.uptoBulkAll l := by
  induction l with
  | nil => cases h
  | cons x r ih =>
    simp only [Rows.uptoBulkAll]
    cases List.mem_cons.1 h with
    | inl e => subst e; omega
    | inr e => have := ih e; omega
theorem bulk_pos (d : DataW H) : 1 ≤ Rows.uptoBulk d := by
  cases d with
  | lit l => cases l <;> simp [Rows.uptoBulk]
  | nil => simp [Rows.uptoBulk]
  | ptr d => simp [Rows.uptoBulk]
  | slice elems spare => simp [Rows.uptoBulk]
  | agg parts => simp [Rows.uptoBulk]
  | iface t d => simp [Rows.uptoBulk]
  | map entries => simp [Rows.uptoBulk]
  | held h => simp [Rows.uptoBulk]
theorem bulk_len (l : List (DataW H)) : l.length ≤ Rows.uptoBulkAll l := by
  induction l with
  | nil => simp [Rows.uptoBulkAll]
  | cons x r ih => have := bulk_pos x; simp only [Rows.uptoBulkAll, List.length_cons]; omega
theorem rd_str {t : TypeId} {cs : List Value} {d : DataW H} (ht : P.underlying t = some .string) (h : Rd enc P W t cs d) : ∃ l : List UInt8, cs = [str l] ∧ l.length ≤ Rows.uptoBulk d := by
  obtain ⟨n, ps, h⟩ := h
  obtain ⟨s, rfl, hx, _⟩ := DataW.trod_string ht h
  cases hx
  exact ⟨s.data.toList, rfl, by simp only [Rows.uptoBulk]; omega⟩
theorem rd_int {t : TypeId} {cs : List Value} {d : DataW H} (ht : P.underlying t = some (.int .i64)) (h : Rd enc P W t cs d) : ∃ n : Int, cs = [iv n] ∧ I64 n := by
  obtain ⟨n, ps, h⟩ := h
  obtain ⟨m, rfl, hx, hw⟩ := DataW.trod_int ht h
  refine ⟨m, rfl, ?_⟩
  simp only [Lit.wf, Bool.and_eq_true, decide_eq_true_eq] at hw
  have h1 : IntKind.i64.min = -9223372036854775808 := by decide
  have h2 : IntKind.i64.max = 9223372036854775807 := by decide
  rw [h1, h2] at hw
  exact hw
theorem rd_u8 {t : TypeId} {cs : List Value} {d : DataW H} (ht : P.underlying t = some (.int .u8)) (h : Rd enc P W t cs d) : ∃ b : UInt8, cs = [bv b] := by
  obtain ⟨n, ps, h⟩ := h
  obtain ⟨m, rfl, hx, hw⟩ := DataW.trod_int ht h
  simp only [Lit.wf, Bool.and_eq_true, decide_eq_true_eq] at hw
  have h1 : IntKind.u8.min = 0 := by decide
  have h2 : IntKind.u8.max = 255 := by decide
  rw [h1, h2] at hw
  refine ⟨UInt8.ofNat m.toNat, ?_⟩
  simp only [bv, UInt8.toNat_ofNat']
  congr 2
  omega
theorem rd_struct {t : TypeId} {cs : List Value} {d : DataW H} {fs : Array Field} (ht : P.underlying t = some (.struct fs)) (h : Rd enc P W t cs d) : cs.length = P.cellsOf t ∧ ∀ (i : Nat) (f : Field), fs[i]? = some f → ∃ d', Rd enc P W f.type ((cs.drop f.offset).take (P.cellsOf f.type)) d' ∧ Rows.uptoBulk d' ≤ Rows.uptoBulk d := by
  obtain ⟨n, ps, h⟩ := h
  obtain ⟨xs, m, rfl, hx, hl, hxl, hf⟩ := DataW.trod_struct ht h
  cases hx
  refine ⟨hl, fun i f hi => ?_⟩
  have h1 := hf i f hi
  have hlt : i < xs.length := by rw [hxl]; exact (Array.getElem?_eq_some_iff.1 hi).1
  rw [List.getElem?_eq_getElem hlt] at h1
  refine ⟨xs[i].1, ⟨m, xs[i].2, h1⟩, ?_⟩
  have := bulk_mem (d := xs[i].1) (l := xs.map (·.1)) (List.mem_map.2 ⟨xs[i], List.getElem_mem hlt, rfl⟩)
  simp only [Rows.uptoBulk]
  omega
theorem rd_field {t : TypeId} {cs : List Value} {d : DataW H} {fs : Array Field} (ht : P.underlying t = some (.struct fs)) (h : Rd enc P W t cs d) (i ty off n : Nat) (hi : (fs[i]?.map fun f => (f.type, f.offset)) = some (ty, off)) (hn : P.cellsOf ty = n) : ∃ d', Rd enc P W ty ((cs.drop off).take n) d' ∧ Rows.uptoBulk d' ≤ Rows.uptoBulk d := by
  obtain ⟨f, hf, he⟩ := Option.map_eq_some_iff.1 hi
  obtain ⟨rfl, rfl⟩ := Prod.mk.inj he
  subst hn
  exact (rd_struct ht h).2 i f hf
theorem rd_array {t : TypeId} {cs : List Value} {d : DataW H} {n : Nat} {e : TypeId} (ht : P.underlying t = some (.array n e)) (h : Rd enc P W t cs d) : cs.length = P.cellsOf t ∧ ∀ i, i < n → ∃ d', Rd enc P W e ((cs.drop (i * P.cellsOf e)).take (P.cellsOf e)) d' := by
  obtain ⟨q, ps, h⟩ := h
  obtain ⟨xs, m, rfl, hx, hl, hxl, hf⟩ := DataW.trod_array ht h
  refine ⟨hl, fun i hi => ?_⟩
  have h1 := hf i hi
  have hlt : i < xs.length := by omega
  rw [List.getElem?_eq_getElem hlt] at h1
  exact ⟨xs[i].1, m, xs[i].2, h1⟩
theorem spot_none {a : Addr} {v : Value} (h : W.cell? a = some v) : a.spot = none := by
  unfold World.cell? at h
  split at h
  · split at h
    · cases h
    · rename_i hn; simpa using hn
  · cases h
/-- a slice, by its elements; the fuel goes down -/
theorem rd_sliceF {t e : TypeId} {cs : List Value} {d : DataW H} (ht : P.underlying t = some (.slice e)) {α : Type} {f : α → List Value} {n : Nat} (hn : 0 < n) (hce : P.cellsOf e = n) (hf : ∀ x, (f x).length = n) {R : α → Prop} {m : Nat}
    (hel : ∀ k cs d', k < m → Rows.uptoBulk d' ≤ Rows.uptoBulk d → RdF enc P W k e cs d' → ∃ x, cs = f x ∧ R x) (h : RdF enc P W m t cs d) : ∃ (s : Sl) (l : List α), cs = [s.v] ∧ SlF f W s l ∧ (∀ x ∈ l, R x) ∧ l.length ≤ Rows.uptoBulk d := by
  obtain ⟨ps, h⟩ := h
  rcases DataW.trod_slice ht h with ⟨rfl, _⟩ | ⟨a, len, cap, elems, rest, k, rfl, rfl, hx, _, hle, _, hlen, hcel, _, _⟩
  · exact ⟨⟨none, 0, 0⟩, [], rfl, SlF.nil _ _, by simp, Nat.zero_le _⟩
  · cases hx
    rw [hce] at hcel
    have each : ∀ i, i < len → ∃ x, W.cells? 0 (a.add (i * n)) n = some (f x) ∧ R x := by
      intro i hi
      have h1 := hcel i hi
      rw [List.getElem?_eq_getElem (by omega)] at h1
      obtain ⟨c, hc, h2⟩ := Option.bind_eq_some_iff.1 h1
      obtain ⟨x, rfl, hR⟩ := hel k c _ (Nat.lt_succ_self k) (by
        have h1 := bulk_mem (d := elems[i].1) (l := elems.map (·.1)) (List.mem_map.2 ⟨elems[i], List.getElem_mem _, rfl⟩)
        show Rows.uptoBulk elems[i].1 ≤ _
        simp only [Rows.uptoBulk]
        omega) ⟨_, h2⟩
      exact ⟨x, hc, hR⟩
    have pick : ∃ l : List α, l.length = len ∧ ∀ i (hi : i < l.length), W.cells? 0 (a.add (i * n)) n = some (f l[i]) ∧ R l[i] := by
      clear hcel hlen h
      have : ∀ j, j ≤ len → ∃ l : List α, l.length = j ∧ ∀ i (hi : i < l.length), W.cells? 0 (a.add (i * n)) n = some (f l[i]) ∧ R l[i] := by
        intro j
        induction j with
        | zero => exact fun _ => ⟨[], rfl, fun i hi => by simp at hi⟩
        | succ j ih =>
          intro hj
          obtain ⟨l, hl, hg⟩ := ih (by omega)
          obtain ⟨x, hx⟩ := each j (by omega)
          refine ⟨l ++ [x], by simp [hl], fun i hi => ?_⟩
          by_cases hij : i < l.length
          · rw [List.getElem_append_left hij]; exact hg i hij
          · have : i = j := by simp at hi; omega
            subst this
            rw [List.getElem_append_right (by omega)]
            simpa [hl] using hx
      exact this len (Nat.le_refl _)
    obtain ⟨l, hl, hg⟩ := pick
    have hcell : ∀ (i j : Nat) (v : Value) (hi : i < l.length), j < n → (f l[i])[j]? = some v → W.cell? (a.add (i * n + j)) = some v := by
      intro i j v hi hj hv
      have h1 := (World.cells?_some (hg i hi).1).2.2 j hj
      rw [hv] at h1
      have e1 : (a.add (i * n)).add j = a.add (i * n + j) := by
        unfold Addr.add
        split
        · rename_i h0
          split
          · rename_i h1; simp [h0, h1]
          · rename_i h1; rw [if_neg (by omega)]; simp
        · rename_i h0
          split
          · rename_i h1; rw [if_neg (by omega)]; simp
          · rename_i h1; rw [if_neg (by omega)]; simp [Nat.add_assoc]
      rw [e1] at h1
      exact h1
    have hall : ∀ q v, (l.flatMap f)[q]? = some v → W.cell? (a.add q) = some v := by
      intro q v hq
      have hql := (List.getElem?_eq_some_iff.1 hq).1
      rw [flat_len hf] at hql
      have hi : q / n < l.length := (Nat.div_lt_iff_lt_mul hn).2 hql
      have hj : q % n < n := Nat.mod_lt _ hn
      have hqq : q / n * n + q % n = q := by rw [Nat.mul_comm]; exact Nat.div_add_mod q n
      rw [← hqq, flat_get hf hi hj] at hq
      rw [← hqq]
      exact hcell _ _ v hi hj hq
    have hpl : l.flatMap f ≠ [] → a = ⟨a.block, a.off, none⟩ := by
      intro hne
      obtain ⟨v, r, hvr⟩ := List.exists_cons_of_ne_nil hne
      have h0 := hall 0 v (by rw [hvr]; rfl)
      simp only [Addr.add, if_true] at h0
      have hsp := spot_none h0
      cases a
      simp at hsp
      subst hsp
      rfl
    refine ⟨⟨some a, len, cap⟩, l, rfl, ⟨hl.symm, hle, fun hne => by rw [Plain]; exact congrArg some (hpl hne), fun j v hv => ?_⟩, fun x hx => ?_, ?_⟩
    · have := hall j v hv
      rw [hpl (by intro e; rw [e] at hv; simp at hv), addr_add] at this
      exact this
    · obtain ⟨i, hi, rfl⟩ := List.getElem_of_mem hx
      exact (hg i hi).2
    · have := bulk_len (elems.map (·.1))
      simp only [Rows.uptoBulk, List.length_map] at this ⊢
      omega
theorem RdF.rd {n : Nat} {t : TypeId} {cs : List Value} {d : DataW H} (h : RdF enc P W n t cs d) : Rd enc P W t cs d := ⟨n, h⟩
theorem rd_slice {t e : TypeId} {cs : List Value} {d : DataW H} (ht : P.underlying t = some (.slice e)) {α : Type} {f : α → List Value} {n : Nat} (hn : 0 < n) (hce : P.cellsOf e = n) (hf : ∀ x, (f x).length = n) {R : α → Prop}
    (hel : ∀ cs d', Rd enc P W e cs d' → ∃ x, cs = f x ∧ R x) (h : Rd enc P W t cs d) : ∃ (s : Sl) (l : List α), cs = [s.v] ∧ SlF f W s l ∧ (∀ x ∈ l, R x) ∧ l.length ≤ Rows.uptoBulk d := by
  obtain ⟨m, h⟩ := h
  exact rd_sliceF ht hn hce hf (fun _ cs d' _ _ h => hel cs d' h.rd) h
theorem rd_structF {t : TypeId} {cs : List Value} {d : DataW H} {fs : Array Field} {n : Nat} (ht : P.underlying t = some (.struct fs)) (h : RdF enc P W n t cs d) : cs.length = P.cellsOf t ∧ ∀ (i : Nat) (f : Field), fs[i]? = some f → ∃ m d', m < n ∧ RdF enc P W m f.type ((cs.drop f.offset).take (P.cellsOf f.type)) d' ∧ Rows.uptoBulk d' ≤ Rows.uptoBulk d := by
  obtain ⟨ps, h⟩ := h
  obtain ⟨xs, m, rfl, hx, hl, hxl, hf⟩ := DataW.trod_struct ht h
  cases hx
  refine ⟨hl, fun i f hi => ?_⟩
  have h1 := hf i f hi
  have hlt : i < xs.length := by rw [hxl]; exact (Array.getElem?_eq_some_iff.1 hi).1
  rw [List.getElem?_eq_getElem hlt] at h1
  refine ⟨m, xs[i].1, Nat.lt_succ_self m, ⟨xs[i].2, h1⟩, ?_⟩
  have := bulk_mem (d := xs[i].1) (l := xs.map (·.1)) (List.mem_map.2 ⟨xs[i], List.getElem_mem hlt, rfl⟩)
  simp only [Rows.uptoBulk]
  omega
theorem rd_fieldF {t : TypeId} {cs : List Value} {d : DataW H} {fs : Array Field} {m : Nat} (ht : P.underlying t = some (.struct fs)) (h : RdF enc P W m t cs d) (i ty off n : Nat) (hi : (fs[i]?.map fun f => (f.type, f.offset)) = some (ty, off)) (hn : P.cellsOf ty = n) : ∃ k d', k < m ∧ RdF enc P W k ty ((cs.drop off).take n) d' ∧ Rows.uptoBulk d' ≤ Rows.uptoBulk d := by
  obtain ⟨f, hf, he⟩ := Option.map_eq_some_iff.1 hi
  obtain ⟨rfl, rfl⟩ := Prod.mk.inj he
  subst hn
  exact (rd_structF ht h).2 i f hf
theorem dropSplit {α : Type} (cs : List α) (k n : Nat) : cs.drop k = (cs.drop k).take n ++ cs.drop (k + n) := by
  rw [← List.drop_drop, List.take_append_drop]
end
section
variable {H : Type} {enc : TypeId × Value → H} {W : World}
theorem open_agg {P : Program} {t : TypeId} {fs : Array Field} (ht : P.underlying t = some (.struct fs)) {r : Reach} {b0 : Nat} {v : Value} (hval : Value.okWide P W r b0 t v) : ∃ cs : List Value, v = .agg cs.toArray ∧ v.cells.toList = cs := by
  simp only [Value.okWide, ht] at hval
  obtain ⟨cs, rfl, _⟩ := hval
  exact ⟨cs.toList, by simp, rfl⟩
theorem open_i64 {P : Program} {t : TypeId} (ht : P.underlying t = some (.int .i64)) {r : Reach} {b0 : Nat} {v : Value} {d : DataW H} {ps : List MemPlace} (hval : Value.okWide P W r b0 t v) (hd : DataW.Trod enc P W 0 (fun _ => true) true t v d ps) : ∃ n : Int, v = iv n ∧ I64 n := by
  obtain ⟨m, rfl, hx, hw⟩ := open_int ht hval hd
  simp only [Lit.wf, Bool.and_eq_true, decide_eq_true_eq] at hw
  have h1 : IntKind.i64.min = -9223372036854775808 := by decide
  have h2 : IntKind.i64.max = 9223372036854775807 := by decide
  rw [h1, h2] at hw
  exact ⟨m, rfl, hw.2⟩
theorem open_str {P : Program} {t : TypeId} (ht : P.underlying t = some .string) {r : Reach} {b0 : Nat} {v : Value} {d : DataW H} {ps : List MemPlace} (hval : Value.okWide P W r b0 t v) (hd : DataW.Trod enc P W 0 (fun _ => true) true t v d ps) : ∃ l : List UInt8, v = str l ∧ l.length ≤ Rows.uptoBulk d := by
  obtain ⟨s, rfl, rfl, _, _⟩ := Go.ChangeMaps.open_string ht hval hd
  exact ⟨s.data.toList, rfl, by simp only [Rows.uptoBulk]; omega⟩
end
end Go.Proofs.YtgnaojphgdaalaaDoor
