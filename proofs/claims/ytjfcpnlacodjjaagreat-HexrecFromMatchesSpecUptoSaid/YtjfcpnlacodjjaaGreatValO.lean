/-
  Arguments that come in: plain values.
-/
import Derived.Test.YtjfcpnlacodjjaaGreatVcW
import Derived.Test.YtjfcpnlacodjjaaGreatValP
namespace Go.Proofs.YtjfcpnlacodjjaaGreat
open Go Go.RowKit Go.ChangeShapes Go.WideShapes Go.ChangeAt

section
variable {H : Type} {enc : TypeId × Value → H} {W : World}
set_option maxRecDepth 100000 in
theorem rd_value : ∀ (n : Nat) (cs : List Value) (d : DataW H), RdF enc Tryz.prog W n 26 cs d → ∃ (h : VH) (v : Val), cs = valC h ∧ ValAt W h v ∧ VB (Rows.uptoBulk d) v := by
  intro n
  induction n using Nat.strongRecOn with
  | ind n ih =>
    intro cs d h
    have hl : cs.length = 5 := (rd_structF Tryz.underlying26 h).1.trans (by kernel_rfl)
    obtain ⟨k0, d0, _, h0, _⟩ := rd_fieldF Tryz.underlying26 h 0 3 0 1 rfl (by kernel_rfl)
    obtain ⟨k1, d1, _, h1, _⟩ := rd_fieldF Tryz.underlying26 h 1 3 1 1 rfl (by kernel_rfl)
    obtain ⟨k2, d2, _, h2, b2⟩ := rd_fieldF Tryz.underlying26 h 2 22 2 1 rfl (by kernel_rfl)
    obtain ⟨k3, d3, _, h3, b3⟩ := rd_fieldF Tryz.underlying26 h 3 23 3 1 rfl (by kernel_rfl)
    obtain ⟨k4, d4, l4, h4, b4⟩ := rd_fieldF Tryz.underlying26 h 4 24 4 1 rfl (by kernel_rfl)
    obtain ⟨x0, e0, i0⟩ := rd_int Tryz.underlying3 h0.rd
    obtain ⟨x1, e1, i1⟩ := rd_int Tryz.underlying3 h1.rd
    obtain ⟨s2, y2, e2, g2, _, n2⟩ := rd_slice Tryz.underlying22 (f := byC) (n := 1) (R := fun _ => True) (by omega) (by kernel_rfl) (fun _ => rfl) (fun _ _ h => let ⟨l, hl⟩ := rd_u8 Tryz.underlying5 h; ⟨l, hl, trivial⟩) h2.rd
    obtain ⟨s3, y3, e3, g3, r3, n3⟩ := rd_sliceF Tryz.underlying23 (f := strC) (n := 1) (R := fun s => s.length ≤ Rows.uptoBulk d3) (by omega) (by kernel_rfl) (fun _ => rfl) (fun _ _ d' _ hb h => let ⟨l, hl, hn⟩ := rd_str Tryz.underlying9 h.rd; ⟨l, hl, Nat.le_trans hn hb⟩) h3
    obtain ⟨s4, y4, e4, g4, r4, n4⟩ := rd_sliceF Tryz.underlying24 (f := valC) (n := 5) (R := fun x => ∃ v, ValAt W x v ∧ VB (Rows.uptoBulk d4) v) (by omega) (by kernel_rfl) (fun _ => rfl) (fun k cs d' hk hb h => by
      obtain ⟨x, v, q1, q2, q3⟩ := ih k (by omega) cs d' h
      exact ⟨x, q1, v, q2, q3.mono hb⟩) h4
    obtain ⟨vs, p1, p2⟩ := pick_list r4
    refine ⟨⟨x0, x1, s2, s3, s4⟩, .mk x0 x1 y2 y3 vs, ?_, .mk y4 rfl rfl g2 g3 g4 p1.symm (fun i x p hx hp => (p2 i x p hx hp).1), .mk i0 i1 (by show y2.length ≤ _; omega) (by show y3.length ≤ _; omega) (fun s hs => Nat.le_trans (r3 s hs) b3) (by show vs.length ≤ _; omega) (fun p hp => ?_)⟩
    · have := dropSplit cs 0 1
      rw [e0, dropSplit cs (0 + 1) 1, e1, dropSplit cs (0 + 1 + 1) 1, e2, dropSplit cs (0 + 1 + 1 + 1) 1, e3, dropSplit cs (0 + 1 + 1 + 1 + 1) 1, e4, show cs.drop (0 + 1 + 1 + 1 + 1 + 1) = [] from List.drop_of_length_le (by omega)] at this
      rw [List.drop_zero] at this
      rw [this]
      rfl
    · obtain ⟨i, hi, rfl⟩ := List.getElem_of_mem hp
      have hi : i < vs.length := hi
      exact (p2 i y4[i] vs[i] (List.getElem?_eq_getElem (by omega)) (List.getElem?_eq_getElem hi)).2.mono b4
set_option maxRecDepth 100000 in
theorem open_value {r : Reach} {b0 : Nat} {v : Value} {d : DataW H} {ps : List MemPlace} (hval : Value.okWide Tryz.prog W r b0 26 v) (hd : DataW.Trod enc Tryz.prog W 0 (fun _ => true) true 26 v d ps) :
    ∃ (h : VH) (x : Val), v = valV h ∧ ValAt W h x ∧ VB (Rows.uptoBulk d) x := by
  obtain ⟨cs, rfl, hc⟩ := open_agg Tryz.underlying26 hval
  obtain ⟨n, hn⟩ := hd
  rw [hc] at hn
  obtain ⟨h, x, rfl, h1, h2⟩ := rd_value n cs d ⟨ps, hn⟩
  exact ⟨h, x, rfl, h1, h2⟩
end
end Go.Proofs.YtjfcpnlacodjjaaGreat
