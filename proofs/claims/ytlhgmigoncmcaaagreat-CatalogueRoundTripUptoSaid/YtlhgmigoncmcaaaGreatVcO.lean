/-
  Arguments that come in: digests, entries, catalogues, readers.
-/
import Derived.Test.YtlhgmigoncmcaaaGreatVcP
namespace Go.Proofs.YtlhgmigoncmcaaaGreat
open Go Go.RowKit Go.ChangeShapes Go.WideShapes Go.ChangeAt

section
variable {H : Type} {enc : TypeId × Value → H} {W : World}
def byteOf (o : Option Value) : UInt8 := match o with | some (.int _ n) => UInt8.ofNat n.toNat | _ => 0
theorem rd_dig {cs : List Value} {d : DataW H} (h : Rd enc Tryz.prog W 56 cs d) : ∃ g : Dig, cs = digC g := by
  obtain ⟨hl, he⟩ := rd_array Tryz.underlying56 h
  have hl : cs.length = 32 := hl.trans (by kernel_rfl)
  have hc1 : Tryz.prog.cellsOf 5 = 1 := by kernel_rfl
  have hb : ∀ i, i < 32 → ∃ b : UInt8, cs[i]? = some (bv b) := by
    intro i hi
    obtain ⟨d', hd⟩ := he i hi
    obtain ⟨b, hb⟩ := rd_u8 Tryz.underlying5 hd
    rw [hc1, Nat.mul_one] at hb
    refine ⟨b, ?_⟩
    have := congrArg (·[0]?) hb
    simpa using this
  refine ⟨fun i => byteOf cs[i]?, ?_⟩
  have e : ∀ g : Dig, digC g = (List.range 32).map fun i => bv (g i) := fun _ => rfl
  rw [e]
  apply List.ext_getElem?
  intro i
  by_cases hi : i < 32
  · obtain ⟨b, hbi⟩ := hb i hi
    rw [List.getElem?_map, List.getElem?_range hi]
    simp [hbi, byteOf]
  · rw [List.getElem?_eq_none (by omega), List.getElem?_eq_none (by simp; omega)]
theorem rd_ref {cs : List Value} {d : DataW H} (h : Rd enc Tryz.prog W 54 cs d) : ∃ r : RefD, cs = refC r ∧ I64 r.ver := by
  obtain ⟨hl, hf⟩ := rd_struct Tryz.underlying54 h
  have hl : cs.length = 2 := hl.trans (by kernel_rfl)
  obtain ⟨d0, h0, _⟩ := rd_field Tryz.underlying54 h 0 9 0 1 rfl (by kernel_rfl)
  obtain ⟨d1, h1, _⟩ := rd_field Tryz.underlying54 h 1 3 1 1 rfl (by kernel_rfl)
  obtain ⟨n, hn, _⟩ := rd_str Tryz.underlying9 h0
  obtain ⟨v, hv, hv64⟩ := rd_int Tryz.underlying3 h1
  refine ⟨⟨n, v⟩, ?_, hv64⟩
  have := dropSplit cs 0 1
  rw [hn, dropSplit cs (0 + 1) 1, hv, show cs.drop (0 + 1 + 1) = [] from List.drop_of_length_le (by omega)] at this
  simpa using this
/-- what an entry's numbers are -/
structure EntNum (e : Ent) : Prop where
  ver : I64 e.ver
  kind : I64 e.kind
  day : I64 e.day
  size : I64 e.size
  emb : I64 e.emb
  need : I64 e.need
  keep : I64 e.keep
  csize : I64 e.csize
  srcs : ∀ r ∈ e.sources, I64 r.ver
structure EntLen (N : Nat) (e : Ent) : Prop where
  so : e.sources.length ≤ N
  gr : e.groups.length ≤ N
  pi : e.pieces.length ≤ N
theorem rd_man {cs : List Value} {d : DataW H} (h : Rd enc Tryz.prog W 59 cs d) : ∃ (n : Int) (g : Dig) (s : Sl) (l : List Dig), cs = iv n :: (digC g ++ [s.v]) ∧ Digs W s l ∧ I64 n ∧ l.length ≤ Rows.uptoBulk d := by
  obtain ⟨hl, hfm⟩ := rd_struct Tryz.underlying59 h
  have hl : cs.length = 34 := hl.trans (by kernel_rfl)
  obtain ⟨_, m0, _⟩ := rd_field Tryz.underlying59 h 0 3 0 1 rfl (by kernel_rfl)
  obtain ⟨_, m1, _⟩ := rd_field Tryz.underlying59 h 1 56 1 32 rfl (by kernel_rfl)
  obtain ⟨_, m2, hb2⟩ := rd_field Tryz.underlying59 h 2 57 33 1 rfl (by kernel_rfl)
  obtain ⟨csize, f0, k0⟩ := rd_int Tryz.underlying3 m0
  obtain ⟨csum, f1⟩ := rd_dig m1
  obtain ⟨pi, pcs, f2, hpi, _, hpl⟩ := rd_slice Tryz.underlying57 (f := digC) (n := 32) (R := fun _ => True) (by omega) (by kernel_rfl) (fun _ => rfl) (fun _ _ h => let ⟨g, hg⟩ := rd_dig h; ⟨g, hg, trivial⟩) m2
  refine ⟨csize, csum, pi, pcs, ?_, hpi, k0, by omega⟩
  have := dropSplit cs 0 1
  rw [f0, dropSplit cs (0 + 1) 32, f1, dropSplit cs (0 + 1 + 32) 1, f2, show cs.drop (0 + 1 + 32 + 1) = [] from List.drop_of_length_le (by omega)] at this
  simpa using this
theorem rd_entry {cs : List Value} {d : DataW H} (h : Rd enc Tryz.prog W 61 cs d) : ∃ p : Ent × EntH, cs = entC p.1 p.2 ∧ EntOk W p.1 p.2 ∧ EntNum p.1 ∧ EntLen (Rows.uptoBulk d) p.1 := by
  obtain ⟨hl, hf⟩ := rd_struct Tryz.underlying61 h
  have hl : cs.length = 76 := hl.trans (by kernel_rfl)
  obtain ⟨_, g0, _⟩ := rd_field Tryz.underlying61 h 0 9 0 1 rfl (by kernel_rfl)
  obtain ⟨_, g1, _⟩ := rd_field Tryz.underlying61 h 1 3 1 1 rfl (by kernel_rfl)
  obtain ⟨_, g2, _⟩ := rd_field Tryz.underlying61 h 2 3 2 1 rfl (by kernel_rfl)
  obtain ⟨_, g3, _⟩ := rd_field Tryz.underlying61 h 3 3 3 1 rfl (by kernel_rfl)
  obtain ⟨_, g4, _⟩ := rd_field Tryz.underlying61 h 4 3 4 1 rfl (by kernel_rfl)
  obtain ⟨_, g5, _⟩ := rd_field Tryz.underlying61 h 5 56 5 32 rfl (by kernel_rfl)
  obtain ⟨_, g6, hb6⟩ := rd_field Tryz.underlying61 h 6 44 37 1 rfl (by kernel_rfl)
  obtain ⟨_, g7, hb7⟩ := rd_field Tryz.underlying61 h 7 48 38 1 rfl (by kernel_rfl)
  obtain ⟨_, g8, _⟩ := rd_field Tryz.underlying61 h 8 3 39 1 rfl (by kernel_rfl)
  obtain ⟨_, g9, _⟩ := rd_field Tryz.underlying61 h 9 3 40 1 rfl (by kernel_rfl)
  obtain ⟨_, g10, _⟩ := rd_field Tryz.underlying61 h 10 3 41 1 rfl (by kernel_rfl)
  obtain ⟨_, g11, hb11⟩ := rd_field Tryz.underlying61 h 11 59 42 34 rfl (by kernel_rfl)
  obtain ⟨name, e0, _⟩ := rd_str Tryz.underlying9 g0
  obtain ⟨ver, e1, n1⟩ := rd_int Tryz.underlying3 g1
  obtain ⟨kind, e2, n2⟩ := rd_int Tryz.underlying3 g2
  obtain ⟨day, e3, n3⟩ := rd_int Tryz.underlying3 g3
  obtain ⟨size, e4, n4⟩ := rd_int Tryz.underlying3 g4
  obtain ⟨sum, e5⟩ := rd_dig g5
  obtain ⟨so, srcs, e6, hso, hso', hsl⟩ := rd_slice Tryz.underlying44 (f := refC) (n := 2) (R := fun r => I64 r.ver) (by omega) (by kernel_rfl) (fun _ => rfl) (fun _ _ h => rd_ref h) g6
  obtain ⟨gr, grs, e7, hgr, _, hgl⟩ := rd_slice Tryz.underlying48 (f := strC) (n := 1) (R := fun _ => True) (by omega) (by kernel_rfl) (fun _ => rfl) (fun _ _ h => let ⟨l, hl, _⟩ := rd_str Tryz.underlying9 h; ⟨l, hl, trivial⟩) g7
  obtain ⟨emb, e8, n8⟩ := rd_int Tryz.underlying3 g8
  obtain ⟨need, e9, n9⟩ := rd_int Tryz.underlying3 g9
  obtain ⟨keep, e10, n10⟩ := rd_int Tryz.underlying3 g10
  obtain ⟨csize, csum, pi, pcs, e11, hpi, k0, hpl⟩ := rd_man g11
  refine ⟨(⟨name, ver, kind, day, size, sum, srcs, grs, emb, need, keep, csize, csum, pcs⟩, ⟨so, gr, pi⟩), ?_, ⟨hso, hgr, hpi⟩, ⟨n1, n2, n3, n4, n8, n9, n10, k0, hso'⟩, ⟨by dsimp only; omega, by dsimp only; omega, by dsimp only; omega⟩⟩
  have := dropSplit cs 0 1
  rw [e0, dropSplit cs (0 + 1) 1, e1, dropSplit cs (0 + 1 + 1) 1, e2, dropSplit cs (0 + 1 + 1 + 1) 1, e3, dropSplit cs (0 + 1 + 1 + 1 + 1) 1, e4, dropSplit cs (0 + 1 + 1 + 1 + 1 + 1) 32, e5,
    dropSplit cs (0 + 1 + 1 + 1 + 1 + 1 + 32) 1, e6, dropSplit cs (0 + 1 + 1 + 1 + 1 + 1 + 32 + 1) 1, e7, dropSplit cs (0 + 1 + 1 + 1 + 1 + 1 + 32 + 1 + 1) 1, e8, dropSplit cs (0 + 1 + 1 + 1 + 1 + 1 + 32 + 1 + 1 + 1) 1, e9,
    dropSplit cs (0 + 1 + 1 + 1 + 1 + 1 + 32 + 1 + 1 + 1 + 1) 1, e10, dropSplit cs (0 + 1 + 1 + 1 + 1 + 1 + 32 + 1 + 1 + 1 + 1 + 1) 34, e11, show cs.drop (0 + 1 + 1 + 1 + 1 + 1 + 32 + 1 + 1 + 1 + 1 + 1 + 34) = [] from List.drop_of_length_le (by omega)] at this
  rw [List.drop_zero] at this
  rw [this]
  simp only [entC, List.cons_append, List.nil_append, List.append_nil]
theorem rd_cat {cs : List Value} {d : DataW H} (h : Rd enc Tryz.prog W 24 cs d) : ∃ (s : Sl) (l : List Ent), cs = [s.v] ∧ Ents W s l ∧ (∀ e ∈ l, EntNum e) ∧ l.length ≤ Rows.uptoBulk d := by
  obtain ⟨hl, hf⟩ := rd_struct Tryz.underlying24 h
  have hl : cs.length = 1 := hl.trans (by kernel_rfl)
  obtain ⟨d0, g0, hd0⟩ := rd_field Tryz.underlying24 h 0 22 0 1 rfl (by kernel_rfl)
  obtain ⟨s, ps, e, hs, hR, hlen⟩ := rd_slice Tryz.underlying22 (f := fun p : Ent × EntH => entC p.1 p.2) (n := 76) (R := fun p => EntOk W p.1 p.2 ∧ EntNum p.1) (by omega) (by kernel_rfl) (fun _ => rfl) (fun _ _ h => let ⟨p, h1, h2, h3, _⟩ := rd_entry h; ⟨p, h1, h2, h3⟩) g0
  rw [List.drop_zero, List.take_of_length_le (by omega)] at e
  refine ⟨s, ps.map (·.1), e, ⟨ps, rfl, hs, fun p hp => (hR p hp).1⟩, fun e he => ?_, by simp; omega⟩
  obtain ⟨p, hp, rfl⟩ := List.mem_map.1 he
  exact (hR p hp).2
set_option maxRecDepth 100000 in
theorem open_cat {r : Reach} {b0 : Nat} {v : Value} {d : DataW H} {ps : List MemPlace} (hval : Value.okWide Tryz.prog W r b0 24 v) (hd : DataW.Trod enc Tryz.prog W 0 (fun _ => true) true 24 v d ps) :
    ∃ (s : Sl) (l : List Ent), v = .agg #[s.v] ∧ Ents W s l ∧ (∀ e ∈ l, EntNum e) ∧ l.length ≤ Rows.uptoBulk d := by
  obtain ⟨cs, rfl, hc⟩ := open_agg Tryz.underlying24 hval
  obtain ⟨n, hn⟩ := hd
  rw [hc] at hn
  obtain ⟨s, l, rfl, h1, h2, h3⟩ := rd_cat ⟨n, ps, hn⟩
  exact ⟨s, l, rfl, h1, h2, h3⟩
set_option maxRecDepth 100000 in
theorem open_entry {r : Reach} {b0 : Nat} {v : Value} {d : DataW H} {ps : List MemPlace} (hval : Value.okWide Tryz.prog W r b0 61 v) (hd : DataW.Trod enc Tryz.prog W 0 (fun _ => true) true 61 v d ps) :
    ∃ (e : Ent) (h : EntH), v = .agg (entC e h).toArray ∧ EntOk W e h ∧ EntNum e ∧ EntLen (Rows.uptoBulk d) e := by
  obtain ⟨cs, rfl, hc⟩ := open_agg Tryz.underlying61 hval
  obtain ⟨n, hn⟩ := hd
  rw [hc] at hn
  obtain ⟨p, rfl, h1, h2, h3⟩ := rd_entry ⟨n, ps, hn⟩
  exact ⟨p.1, p.2, rfl, h1, h2, h3⟩
set_option maxRecDepth 100000 in
theorem open_reader {r : Reach} {b0 : Nat} {v : Value} {d : DataW H} {ps : List MemPlace} (hval : Value.okWide Tryz.prog W r b0 50 v) (hd : DataW.Trod enc Tryz.prog W 0 (fun _ => true) true 50 v d ps) :
    ∃ (g : Sl) (gs : List (List UInt8)) (day : Int), v = .agg #[g.v, iv day] ∧ SlF strC W g gs ∧ I64 day ∧ gs.length ≤ Rows.uptoBulk d := by
  obtain ⟨cs, rfl, hc⟩ := open_agg Tryz.underlying50 hval
  obtain ⟨n, hn⟩ := hd
  rw [hc] at hn
  have h : Rd enc Tryz.prog W 50 cs d := ⟨n, ps, hn⟩
  have hl : cs.length = 2 := (rd_struct Tryz.underlying50 h).1.trans (by kernel_rfl)
  obtain ⟨d0, h0, hb0⟩ := rd_field Tryz.underlying50 h 0 48 0 1 rfl (by kernel_rfl)
  obtain ⟨d1, h1, _⟩ := rd_field Tryz.underlying50 h 1 3 1 1 rfl (by kernel_rfl)
  obtain ⟨gr, grs, e7, hgr, _, hgl⟩ := rd_slice Tryz.underlying48 (f := strC) (n := 1) (R := fun _ => True) (by omega) (by kernel_rfl) (fun _ => rfl) (fun _ _ h => let ⟨l, hl, _⟩ := rd_str Tryz.underlying9 h; ⟨l, hl, trivial⟩) h0
  obtain ⟨v, hv, hv64⟩ := rd_int Tryz.underlying3 h1
  refine ⟨gr, grs, v, ?_, hgr, hv64, by omega⟩
  have := dropSplit cs 0 1
  rw [e7, dropSplit cs (0 + 1) 1, hv, show cs.drop (0 + 1 + 1) = [] from List.drop_of_length_le (by omega)] at this
  rw [List.drop_zero] at this
  rw [this]
  rfl
end
end Go.Proofs.YtlhgmigoncmcaaaGreat
