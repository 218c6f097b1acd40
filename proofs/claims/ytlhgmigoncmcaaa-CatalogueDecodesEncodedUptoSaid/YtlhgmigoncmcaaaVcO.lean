/-
  Arguments that come in: strings, numbers, digests, structs, slices.
-/
import Derived.Test.YtlhgmigoncmcaaaVcW
import Derived.Test.YtlhgmigoncmcaaaCatD
namespace Go.Proofs.Ytlhgmigoncmcaaa
open Go Go.RowKit Go.ChangeShapes Go.WideShapes Go.ChangeAt

section
variable {H : Type} {enc : TypeId × Value → H} {P : Program} {W : World}
/-- the cells read as d -/
def Rd (enc : TypeId × Value → H) (P : Program) (W : World) (t : TypeId) (cs : List Value) (d : DataW H) : Prop := ∃ n ps, DataW.trod enc P W 0 (fun _ => true) true n t cs = some (d, ps)
theorem bulk_mem {d : DataW H} {l : List (DataW H)} (h : d ∈ l) : Rows.uptoBulk d ≤ Rows.uptoBulkAll l := by
  induction l with
  | nil => cases h
  | cons x r ih =>
    simp only [Rows.uptoBulkAll]
    cases List.mem_cons.1 h with
    | inl e => subst e; omega
    | inr e => have := ih e; omega
theorem bulk_pos (d : DataW H) : 1 ≤ Rows.uptoBulk d := by
  cases d with
  | lit l => cases l <;> simp [Rows.uptoBulk]
  | nil => simp [Rows.uptoBulk]
  | ptr d => simp [Rows.uptoBulk]
  | slice elems spare => simp [Rows.uptoBulk]
  | agg parts => simp [Rows.uptoBulk]
  | iface t d => simp [Rows.uptoBulk]
  | map entries => simp [Rows.uptoBulk]
  | held h => simp [Rows.uptoBulk]
theorem bulk_len (l : List (DataW H)) : l.length ≤ Rows.uptoBulkAll l := by
  induction l with
  | nil => simp [Rows.uptoBulkAll]
  | cons x r ih => have := bulk_pos x; simp only [Rows.uptoBulkAll, List.length_cons]; omega
theorem rd_str {t : TypeId} {cs : List Value} {d : DataW H} (ht : P.underlying t = some .string) (h : Rd enc P W t cs d) : ∃ l : List UInt8, cs = [str l] ∧ l.length ≤ Rows.uptoBulk d := by
  obtain ⟨n, ps, h⟩ := h
  obtain ⟨s, rfl, hx, _⟩ := DataW.trod_string ht h
  cases hx
  exact ⟨s.data.toList, rfl, by simp only [Rows.uptoBulk]; omega⟩
theorem rd_int {t : TypeId} {cs : List Value} {d : DataW H} (ht : P.underlying t = some (.int .i64)) (h : Rd enc P W t cs d) : ∃ n : Int, cs = [iv n] ∧ I64 n := by
  obtain ⟨n, ps, h⟩ := h
  obtain ⟨m, rfl, hx, hw⟩ := DataW.trod_int ht h
  refine ⟨m, rfl, ?_⟩
  simp only [Lit.wf, Bool.and_eq_true, decide_eq_true_eq] at hw
  have h1 : IntKind.i64.min = -9223372036854775808 := by decide
  have h2 : IntKind.i64.max = 9223372036854775807 := by decide
  rw [h1, h2] at hw
  exact hw
theorem rd_u8 {t : TypeId} {cs : List Value} {d : DataW H} (ht : P.underlying t = some (.int .u8)) (h : Rd enc P W t cs d) : ∃ b : UInt8, cs = [bv b] := by
  obtain ⟨n, ps, h⟩ := h
  obtain ⟨m, rfl, hx, hw⟩ := DataW.trod_int ht h
  simp only [Lit.wf, Bool.and_eq_true, decide_eq_true_eq] at hw
  have h1 : IntKind.u8.min = 0 := by decide
  have h2 : IntKind.u8.max = 255 := by decide
  rw [h1, h2] at hw
  refine ⟨UInt8.ofNat m.toNat, ?_⟩
  simp only [bv, UInt8.toNat_ofNat']
  congr 2
  omega
theorem rd_struct {t : TypeId} {cs : List Value} {d : DataW H} {fs : Array Field} (ht : P.underlying t = some (.struct fs)) (h : Rd enc P W t cs d) : cs.length = P.cellsOf t ∧ ∀ (i : Nat) (f : Field), fs[i]? = some f → ∃ d', Rd enc P W f.type ((cs.drop f.offset).take (P.cellsOf f.type)) d' ∧ Rows.uptoBulk d' ≤ Rows.uptoBulk d := by
  obtain ⟨n, ps, h⟩ := h
  obtain ⟨xs, m, rfl, hx, hl, hxl, hf⟩ := DataW.trod_struct ht h
  cases hx
  refine ⟨hl, fun i f hi => ?_⟩
  have h1 := hf i f hi
  have hlt : i < xs.length := by rw [hxl]; exact (Array.getElem?_eq_some_iff.1 hi).1
  rw [List.getElem?_eq_getElem hlt] at h1
  refine ⟨xs[i].1, ⟨m, xs[i].2, h1⟩, ?_⟩
  have := bulk_mem (d := xs[i].1) (l := xs.map (·.1)) (List.mem_map.2 ⟨xs[i], List.getElem_mem hlt, rfl⟩)
  simp only [Rows.uptoBulk]
  omega
theorem rd_field {t : TypeId} {cs : List Value} {d : DataW H} {fs : Array Field} (ht : P.underlying t = some (.struct fs)) (h : Rd enc P W t cs d) (i ty off n : Nat) (hi : (fs[i]?.map fun f => (f.type, f.offset)) = some (ty, off)) (hn : P.cellsOf ty = n) : ∃ d', Rd enc P W ty ((cs.drop off).take n) d' ∧ Rows.uptoBulk d' ≤ Rows.uptoBulk d := by
  obtain ⟨f, hf, he⟩ := Option.map_eq_some_iff.1 hi
  obtain ⟨rfl, rfl⟩ := Prod.mk.inj he
  subst hn
  exact (rd_struct ht h).2 i f hf
theorem rd_array {t : TypeId} {cs : List Value} {d : DataW H} {n : Nat} {e : TypeId} (ht : P.underlying t = some (.array n e)) (h : Rd enc P W t cs d) : cs.length = P.cellsOf t ∧ ∀ i, i < n → ∃ d', Rd enc P W e ((cs.drop (i * P.cellsOf e)).take (P.cellsOf e)) d' := by
  obtain ⟨q, ps, h⟩ := h
  obtain ⟨xs, m, rfl, hx, hl, hxl, hf⟩ := DataW.trod_array ht h
  refine ⟨hl, fun i hi => ?_⟩
  have h1 := hf i hi
  have hlt : i < xs.length := by omega
  rw [List.getElem?_eq_getElem hlt] at h1
  exact ⟨xs[i].1, m, xs[i].2, h1⟩
theorem spot_none {a : Addr} {v : Value} (h : W.cell? a = some v) : a.spot = none := by
  unfold World.cell? at h
  split at h
  · split at h
    · cases h
    · rename_i hn; simpa using hn
  · cases h
/-- a slice, by its elements -/
theorem rd_slice {t e : TypeId} {cs : List Value} {d : DataW H} (ht : P.underlying t = some (.slice e)) {α : Type} {f : α → List Value} {n : Nat} (hn : 0 < n) (hce : P.cellsOf e = n) (hf : ∀ x, (f x).length = n) {R : α → Prop}
    (hel : ∀ cs d', Rd enc P W e cs d' → ∃ x, cs = f x ∧ R x) (h : Rd enc P W t cs d) : ∃ (s : Sl) (l : List α), cs = [s.v] ∧ SlF f W s l ∧ (∀ x ∈ l, R x) ∧ l.length ≤ Rows.uptoBulk d := by
  obtain ⟨m, ps, h⟩ := h
  rcases DataW.trod_slice ht h with ⟨rfl, _⟩ | ⟨a, len, cap, elems, rest, k, rfl, rfl, hx, _, hle, _, hlen, hcel, _, _⟩
  · exact ⟨⟨none, 0, 0⟩, [], rfl, SlF.nil _ _, by simp, Nat.zero_le _⟩
  · cases hx
    rw [hce] at hcel
    have each : ∀ i, i < len → ∃ x, W.cells? 0 (a.add (i * n)) n = some (f x) ∧ R x := by
      intro i hi
      have h1 := hcel i hi
      rw [List.getElem?_eq_getElem (by omega)] at h1
      obtain ⟨c, hc, h2⟩ := Option.bind_eq_some_iff.1 h1
      obtain ⟨x, rfl, hR⟩ := hel c _ ⟨k, _, h2⟩
      exact ⟨x, hc, hR⟩
    have pick : ∃ l : List α, l.length = len ∧ ∀ i (hi : i < l.length), W.cells? 0 (a.add (i * n)) n = some (f l[i]) ∧ R l[i] := by
      clear hcel hlen h
      have : ∀ j, j ≤ len → ∃ l : List α, l.length = j ∧ ∀ i (hi : i < l.length), W.cells? 0 (a.add (i * n)) n = some (f l[i]) ∧ R l[i] := by
        intro j
        induction j with
        | zero => exact fun _ => ⟨[], rfl, fun i hi => by simp at hi⟩
        | succ j ih =>
          intro hj
          obtain ⟨l, hl, hg⟩ := ih (by omega)
          obtain ⟨x, hx⟩ := each j (by omega)
          refine ⟨l ++ [x], by simp [hl], fun i hi => ?_⟩
          by_cases hij : i < l.length
          · rw [List.getElem_append_left hij]; exact hg i hij
          · have : i = j := by simp at hi; omega
            subst this
            rw [List.getElem_append_right (by omega)]
            simpa [hl] using hx
      exact this len (Nat.le_refl _)
    obtain ⟨l, hl, hg⟩ := pick
    have hcell : ∀ (i j : Nat) (v : Value) (hi : i < l.length), j < n → (f l[i])[j]? = some v → W.cell? (a.add (i * n + j)) = some v := by
      intro i j v hi hj hv
      have h1 := (World.cells?_some (hg i hi).1).2.2 j hj
      rw [hv] at h1
      have e1 : (a.add (i * n)).add j = a.add (i * n + j) := by
        unfold Addr.add
        split
        · rename_i h0
          split
          · rename_i h1; simp [h0, h1]
          · rename_i h1; rw [if_neg (by omega)]; simp
        · rename_i h0
          split
          · rename_i h1; rw [if_neg (by omega)]; simp
          · rename_i h1; rw [if_neg (by omega)]; simp [Nat.add_assoc]
      rw [e1] at h1
      exact h1
    have hall : ∀ q v, (l.flatMap f)[q]? = some v → W.cell? (a.add q) = some v := by
      intro q v hq
      have hql := (List.getElem?_eq_some_iff.1 hq).1
      rw [flat_len hf] at hql
      have hi : q / n < l.length := (Nat.div_lt_iff_lt_mul hn).2 hql
      have hj : q % n < n := Nat.mod_lt _ hn
      have hqq : q / n * n + q % n = q := by rw [Nat.mul_comm]; exact Nat.div_add_mod q n
      rw [← hqq, flat_get hf hi hj] at hq
      rw [← hqq]
      exact hcell _ _ v hi hj hq
    have hpl : l.flatMap f ≠ [] → a = ⟨a.block, a.off, none⟩ := by
      intro hne
      obtain ⟨v, r, hvr⟩ := List.exists_cons_of_ne_nil hne
      have h0 := hall 0 v (by rw [hvr]; rfl)
      simp only [Addr.add, if_true] at h0
      have hsp := spot_none h0
      cases a
      simp at hsp
      subst hsp
      rfl
    refine ⟨⟨some a, len, cap⟩, l, rfl, ⟨hl.symm, hle, fun hne => by rw [Plain]; exact congrArg some (hpl hne), fun j v hv => ?_⟩, fun x hx => ?_, ?_⟩
    · have := hall j v hv
      rw [hpl (by intro e; rw [e] at hv; simp at hv), addr_add] at this
      exact this
    · obtain ⟨i, hi, rfl⟩ := List.getElem_of_mem hx
      exact (hg i hi).2
    · have := bulk_len (elems.map (·.1))
      simp only [Rows.uptoBulk, List.length_map] at this ⊢
      omega
theorem dropSplit {α : Type} (cs : List α) (k n : Nat) : cs.drop k = (cs.drop k).take n ++ cs.drop (k + n) := by
  rw [← List.drop_drop, List.take_append_drop]
end
section
variable {H : Type} {enc : TypeId × Value → H} {W : World}
def byteOf (o : Option Value) : UInt8 := match o with | some (.int _ n) => UInt8.ofNat n.toNat | _ => 0
theorem rd_dig {cs : List Value} {d : DataW H} (h : Rd enc Try.prog W 37 cs d) : ∃ g : Dig, cs = digC g := by
  obtain ⟨hl, he⟩ := rd_array Try.underlying37 h
  have hl : cs.length = 32 := hl.trans (by kernel_rfl)
  have hc1 : Try.prog.cellsOf 5 = 1 := by kernel_rfl
  have hb : ∀ i, i < 32 → ∃ b : UInt8, cs[i]? = some (bv b) := by
    intro i hi
    obtain ⟨d', hd⟩ := he i hi
    obtain ⟨b, hb⟩ := rd_u8 Try.underlying5 hd
    rw [hc1, Nat.mul_one] at hb
    refine ⟨b, ?_⟩
    have := congrArg (·[0]?) hb
    simpa using this
  refine ⟨fun i => byteOf cs[i]?, ?_⟩
  have e : ∀ g : Dig, digC g = (List.range 32).map fun i => bv (g i) := fun _ => rfl
  rw [e]
  apply List.ext_getElem?
  intro i
  by_cases hi : i < 32
  · obtain ⟨b, hbi⟩ := hb i hi
    rw [List.getElem?_map, List.getElem?_range hi]
    simp [hbi, byteOf]
  · rw [List.getElem?_eq_none (by omega), List.getElem?_eq_none (by simp; omega)]
theorem rd_ref {cs : List Value} {d : DataW H} (h : Rd enc Try.prog W 53 cs d) : ∃ r : RefD, cs = refC r ∧ I64 r.ver := by
  obtain ⟨hl, hf⟩ := rd_struct Try.underlying53 h
  have hl : cs.length = 2 := hl.trans (by kernel_rfl)
  obtain ⟨d0, h0, _⟩ := rd_field Try.underlying53 h 0 9 0 1 rfl (by kernel_rfl)
  obtain ⟨d1, h1, _⟩ := rd_field Try.underlying53 h 1 3 1 1 rfl (by kernel_rfl)
  obtain ⟨n, hn, _⟩ := rd_str Try.underlying9 h0
  obtain ⟨v, hv, hv64⟩ := rd_int Try.underlying3 h1
  refine ⟨⟨n, v⟩, ?_, hv64⟩
  have := dropSplit cs 0 1
  rw [hn, dropSplit cs (0 + 1) 1, hv, show cs.drop (0 + 1 + 1) = [] from List.drop_of_length_le (by omega)] at this
  simpa using this
/-- what an entry's numbers are -/
structure EntNum (e : Ent) : Prop where
  ver : I64 e.ver
  kind : I64 e.kind
  day : I64 e.day
  size : I64 e.size
  emb : I64 e.emb
  need : I64 e.need
  keep : I64 e.keep
  csize : I64 e.csize
  srcs : ∀ r ∈ e.sources, I64 r.ver
structure EntLen (N : Nat) (e : Ent) : Prop where
  so : e.sources.length ≤ N
  gr : e.groups.length ≤ N
  pi : e.pieces.length ≤ N
theorem rd_man {cs : List Value} {d : DataW H} (h : Rd enc Try.prog W 42 cs d) : ∃ (n : Int) (g : Dig) (s : Sl) (l : List Dig), cs = iv n :: (digC g ++ [s.v]) ∧ Digs W s l ∧ I64 n ∧ l.length ≤ Rows.uptoBulk d := by
  obtain ⟨hl, hfm⟩ := rd_struct Try.underlying42 h
  have hl : cs.length = 34 := hl.trans (by kernel_rfl)
  obtain ⟨_, m0, _⟩ := rd_field Try.underlying42 h 0 3 0 1 rfl (by kernel_rfl)
  obtain ⟨_, m1, _⟩ := rd_field Try.underlying42 h 1 37 1 32 rfl (by kernel_rfl)
  obtain ⟨_, m2, hb2⟩ := rd_field Try.underlying42 h 2 40 33 1 rfl (by kernel_rfl)
  obtain ⟨csize, f0, k0⟩ := rd_int Try.underlying3 m0
  obtain ⟨csum, f1⟩ := rd_dig m1
  obtain ⟨pi, pcs, f2, hpi, _, hpl⟩ := rd_slice Try.underlying40 (f := digC) (n := 32) (R := fun _ => True) (by omega) (by kernel_rfl) (fun _ => rfl) (fun _ _ h => let ⟨g, hg⟩ := rd_dig h; ⟨g, hg, trivial⟩) m2
  refine ⟨csize, csum, pi, pcs, ?_, hpi, k0, by omega⟩
  have := dropSplit cs 0 1
  rw [f0, dropSplit cs (0 + 1) 32, f1, dropSplit cs (0 + 1 + 32) 1, f2, show cs.drop (0 + 1 + 32 + 1) = [] from List.drop_of_length_le (by omega)] at this
  simpa using this
theorem rd_entry {cs : List Value} {d : DataW H} (h : Rd enc Try.prog W 44 cs d) : ∃ p : Ent × EntH, cs = entC p.1 p.2 ∧ EntOk W p.1 p.2 ∧ EntNum p.1 ∧ EntLen (Rows.uptoBulk d) p.1 := by
  obtain ⟨hl, hf⟩ := rd_struct Try.underlying44 h
  have hl : cs.length = 76 := hl.trans (by kernel_rfl)
  obtain ⟨_, g0, _⟩ := rd_field Try.underlying44 h 0 9 0 1 rfl (by kernel_rfl)
  obtain ⟨_, g1, _⟩ := rd_field Try.underlying44 h 1 3 1 1 rfl (by kernel_rfl)
  obtain ⟨_, g2, _⟩ := rd_field Try.underlying44 h 2 3 2 1 rfl (by kernel_rfl)
  obtain ⟨_, g3, _⟩ := rd_field Try.underlying44 h 3 3 3 1 rfl (by kernel_rfl)
  obtain ⟨_, g4, _⟩ := rd_field Try.underlying44 h 4 3 4 1 rfl (by kernel_rfl)
  obtain ⟨_, g5, _⟩ := rd_field Try.underlying44 h 5 37 5 32 rfl (by kernel_rfl)
  obtain ⟨_, g6, hb6⟩ := rd_field Try.underlying44 h 6 38 37 1 rfl (by kernel_rfl)
  obtain ⟨_, g7, hb7⟩ := rd_field Try.underlying44 h 7 39 38 1 rfl (by kernel_rfl)
  obtain ⟨_, g8, _⟩ := rd_field Try.underlying44 h 8 3 39 1 rfl (by kernel_rfl)
  obtain ⟨_, g9, _⟩ := rd_field Try.underlying44 h 9 3 40 1 rfl (by kernel_rfl)
  obtain ⟨_, g10, _⟩ := rd_field Try.underlying44 h 10 3 41 1 rfl (by kernel_rfl)
  obtain ⟨_, g11, hb11⟩ := rd_field Try.underlying44 h 11 42 42 34 rfl (by kernel_rfl)
  obtain ⟨name, e0, _⟩ := rd_str Try.underlying9 g0
  obtain ⟨ver, e1, n1⟩ := rd_int Try.underlying3 g1
  obtain ⟨kind, e2, n2⟩ := rd_int Try.underlying3 g2
  obtain ⟨day, e3, n3⟩ := rd_int Try.underlying3 g3
  obtain ⟨size, e4, n4⟩ := rd_int Try.underlying3 g4
  obtain ⟨sum, e5⟩ := rd_dig g5
  obtain ⟨so, srcs, e6, hso, hso', hsl⟩ := rd_slice Try.underlying38 (f := refC) (n := 2) (R := fun r => I64 r.ver) (by omega) (by kernel_rfl) (fun _ => rfl) (fun _ _ h => rd_ref h) g6
  obtain ⟨gr, grs, e7, hgr, _, hgl⟩ := rd_slice Try.underlying39 (f := strC) (n := 1) (R := fun _ => True) (by omega) (by kernel_rfl) (fun _ => rfl) (fun _ _ h => let ⟨l, hl, _⟩ := rd_str Try.underlying9 h; ⟨l, hl, trivial⟩) g7
  obtain ⟨emb, e8, n8⟩ := rd_int Try.underlying3 g8
  obtain ⟨need, e9, n9⟩ := rd_int Try.underlying3 g9
  obtain ⟨keep, e10, n10⟩ := rd_int Try.underlying3 g10
  obtain ⟨csize, csum, pi, pcs, e11, hpi, k0, hpl⟩ := rd_man g11
  refine ⟨(⟨name, ver, kind, day, size, sum, srcs, grs, emb, need, keep, csize, csum, pcs⟩, ⟨so, gr, pi⟩), ?_, ⟨hso, hgr, hpi⟩, ⟨n1, n2, n3, n4, n8, n9, n10, k0, hso'⟩, ⟨by dsimp only; omega, by dsimp only; omega, by dsimp only; omega⟩⟩
  have := dropSplit cs 0 1
  rw [e0, dropSplit cs (0 + 1) 1, e1, dropSplit cs (0 + 1 + 1) 1, e2, dropSplit cs (0 + 1 + 1 + 1) 1, e3, dropSplit cs (0 + 1 + 1 + 1 + 1) 1, e4, dropSplit cs (0 + 1 + 1 + 1 + 1 + 1) 32, e5,
    dropSplit cs (0 + 1 + 1 + 1 + 1 + 1 + 32) 1, e6, dropSplit cs (0 + 1 + 1 + 1 + 1 + 1 + 32 + 1) 1, e7, dropSplit cs (0 + 1 + 1 + 1 + 1 + 1 + 32 + 1 + 1) 1, e8, dropSplit cs (0 + 1 + 1 + 1 + 1 + 1 + 32 + 1 + 1 + 1) 1, e9,
    dropSplit cs (0 + 1 + 1 + 1 + 1 + 1 + 32 + 1 + 1 + 1 + 1) 1, e10, dropSplit cs (0 + 1 + 1 + 1 + 1 + 1 + 32 + 1 + 1 + 1 + 1 + 1) 34, e11, show cs.drop (0 + 1 + 1 + 1 + 1 + 1 + 32 + 1 + 1 + 1 + 1 + 1 + 34) = [] from List.drop_of_length_le (by omega)] at this
  rw [List.drop_zero] at this
  rw [this]
  simp only [entC, List.cons_append, List.nil_append, List.append_nil]
theorem rd_cat {cs : List Value} {d : DataW H} (h : Rd enc Try.prog W 24 cs d) : ∃ (s : Sl) (l : List Ent), cs = [s.v] ∧ Ents W s l ∧ (∀ e ∈ l, EntNum e) ∧ l.length ≤ Rows.uptoBulk d := by
  obtain ⟨hl, hf⟩ := rd_struct Try.underlying24 h
  have hl : cs.length = 1 := hl.trans (by kernel_rfl)
  obtain ⟨d0, g0, hd0⟩ := rd_field Try.underlying24 h 0 22 0 1 rfl (by kernel_rfl)
  obtain ⟨s, ps, e, hs, hR, hlen⟩ := rd_slice Try.underlying22 (f := fun p : Ent × EntH => entC p.1 p.2) (n := 76) (R := fun p => EntOk W p.1 p.2 ∧ EntNum p.1) (by omega) (by kernel_rfl) (fun _ => rfl) (fun _ _ h => let ⟨p, h1, h2, h3, _⟩ := rd_entry h; ⟨p, h1, h2, h3⟩) g0
  rw [List.drop_zero, List.take_of_length_le (by omega)] at e
  refine ⟨s, ps.map (·.1), e, ⟨ps, rfl, hs, fun p hp => (hR p hp).1⟩, fun e he => ?_, by simp; omega⟩
  obtain ⟨p, hp, rfl⟩ := List.mem_map.1 he
  exact (hR p hp).2
theorem open_agg {P : Program} {t : TypeId} {fs : Array Field} (ht : P.underlying t = some (.struct fs)) {r : Reach} {b0 : Nat} {v : Value} (hval : Value.okWide P W r b0 t v) : ∃ cs : List Value, v = .agg cs.toArray ∧ v.cells.toList = cs := by
  simp only [Value.okWide, ht] at hval
  obtain ⟨cs, rfl, _⟩ := hval
  exact ⟨cs.toList, by simp, rfl⟩
set_option maxRecDepth 100000 in
theorem open_cat {r : Reach} {b0 : Nat} {v : Value} {d : DataW H} {ps : List MemPlace} (hval : Value.okWide Try.prog W r b0 24 v) (hd : DataW.Trod enc Try.prog W 0 (fun _ => true) true 24 v d ps) :
    ∃ (s : Sl) (l : List Ent), v = .agg #[s.v] ∧ Ents W s l ∧ (∀ e ∈ l, EntNum e) ∧ l.length ≤ Rows.uptoBulk d := by
  obtain ⟨cs, rfl, hc⟩ := open_agg Try.underlying24 hval
  obtain ⟨n, hn⟩ := hd
  rw [hc] at hn
  obtain ⟨s, l, rfl, h1, h2, h3⟩ := rd_cat ⟨n, ps, hn⟩
  exact ⟨s, l, rfl, h1, h2, h3⟩
set_option maxRecDepth 100000 in
theorem open_entry {r : Reach} {b0 : Nat} {v : Value} {d : DataW H} {ps : List MemPlace} (hval : Value.okWide Try.prog W r b0 44 v) (hd : DataW.Trod enc Try.prog W 0 (fun _ => true) true 44 v d ps) :
    ∃ (e : Ent) (h : EntH), v = .agg (entC e h).toArray ∧ EntOk W e h ∧ EntNum e ∧ EntLen (Rows.uptoBulk d) e := by
  obtain ⟨cs, rfl, hc⟩ := open_agg Try.underlying44 hval
  obtain ⟨n, hn⟩ := hd
  rw [hc] at hn
  obtain ⟨p, rfl, h1, h2, h3⟩ := rd_entry ⟨n, ps, hn⟩
  exact ⟨p.1, p.2, rfl, h1, h2, h3⟩
set_option maxRecDepth 100000 in
theorem open_reader {r : Reach} {b0 : Nat} {v : Value} {d : DataW H} {ps : List MemPlace} (hval : Value.okWide Try.prog W r b0 56 v) (hd : DataW.Trod enc Try.prog W 0 (fun _ => true) true 56 v d ps) :
    ∃ (g : Sl) (gs : List (List UInt8)) (day : Int), v = .agg #[g.v, iv day] ∧ SlF strC W g gs ∧ I64 day ∧ gs.length ≤ Rows.uptoBulk d := by
  obtain ⟨cs, rfl, hc⟩ := open_agg Try.underlying56 hval
  obtain ⟨n, hn⟩ := hd
  rw [hc] at hn
  have h : Rd enc Try.prog W 56 cs d := ⟨n, ps, hn⟩
  have hl : cs.length = 2 := (rd_struct Try.underlying56 h).1.trans (by kernel_rfl)
  obtain ⟨d0, h0, hb0⟩ := rd_field Try.underlying56 h 0 39 0 1 rfl (by kernel_rfl)
  obtain ⟨d1, h1, _⟩ := rd_field Try.underlying56 h 1 3 1 1 rfl (by kernel_rfl)
  obtain ⟨gr, grs, e7, hgr, _, hgl⟩ := rd_slice Try.underlying39 (f := strC) (n := 1) (R := fun _ => True) (by omega) (by kernel_rfl) (fun _ => rfl) (fun _ _ h => let ⟨l, hl, _⟩ := rd_str Try.underlying9 h; ⟨l, hl, trivial⟩) h0
  obtain ⟨v, hv, hv64⟩ := rd_int Try.underlying3 h1
  refine ⟨gr, grs, v, ?_, hgr, hv64, by omega⟩
  have := dropSplit cs 0 1
  rw [e7, dropSplit cs (0 + 1) 1, hv, show cs.drop (0 + 1 + 1) = [] from List.drop_of_length_le (by omega)] at this
  rw [List.drop_zero] at this
  rw [this]
  rfl
theorem open_i64 {P : Program} {t : TypeId} (ht : P.underlying t = some (.int .i64)) {r : Reach} {b0 : Nat} {v : Value} {d : DataW H} {ps : List MemPlace} (hval : Value.okWide P W r b0 t v) (hd : DataW.Trod enc P W 0 (fun _ => true) true t v d ps) : ∃ n : Int, v = iv n ∧ I64 n := by
  obtain ⟨m, rfl, hx, hw⟩ := open_int ht hval hd
  simp only [Lit.wf, Bool.and_eq_true, decide_eq_true_eq] at hw
  have h1 : IntKind.i64.min = -9223372036854775808 := by decide
  have h2 : IntKind.i64.max = 9223372036854775807 := by decide
  rw [h1, h2] at hw
  exact ⟨m, rfl, hw.2⟩
theorem open_str {P : Program} {t : TypeId} (ht : P.underlying t = some .string) {r : Reach} {b0 : Nat} {v : Value} {d : DataW H} {ps : List MemPlace} (hval : Value.okWide P W r b0 t v) (hd : DataW.Trod enc P W 0 (fun _ => true) true t v d ps) : ∃ l : List UInt8, v = str l ∧ l.length ≤ Rows.uptoBulk d := by
  obtain ⟨s, rfl, rfl, _, _⟩ := Go.ChangeMaps.open_string ht hval hd
  exact ⟨s.data.toList, rfl, by simp only [Rows.uptoBulk]; omega⟩
end
end Go.Proofs.Ytlhgmigoncmcaaa
