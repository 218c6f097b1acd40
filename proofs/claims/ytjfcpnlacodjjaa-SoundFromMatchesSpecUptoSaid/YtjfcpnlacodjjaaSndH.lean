/-
  Sound files: notes and residues.
-/
import Derived.Test.YtjfcpnlacodjjaaSndR
import Derived.Test.YtjfcpnlacodjjaaSndF
import Derived.Test.YtjfcpnlacodjjaaCnvR
import Derived.Test.YtjfcpnlacodjjaaWirF
namespace Go.Proofs.Ytjfcpnlacodjjaa
open Go Go.RowKit

abbrev NtP := Note × Sl
abbrev ntC (p : NtP) : List Value := [bv p.1.2.1, p.2.v, iv p.1.1]
abbrev NtR (V : World) (p : NtP) (e : Note) : Prop := p.1 = e ∧ Byt V p.2 p.1.2.2
abbrev Nts (V : World) (s : Sl) (ns : List Note) : Prop := RL ntC NtR V s ns
theorem Nts.up {V V' : World} {s : Sl} {ns : List Note} (h : Nts V s ns) (k : Sub V V') : Nts V' s ns := by
  obtain ⟨ps, h1, h2⟩ := h
  exact ⟨ps, h1.up k, h2.up (fun _ _ _ _ hs h => ⟨h.1, h.2.up hs⟩) k⟩
theorem Nts.nil (V : World) : Nts V ⟨none, 0, 0⟩ [] := ⟨[], SlF.nil _ _, Pw.nil⟩
theorem Pw.ntFst {V : World} {ps : List NtP} {ns : List Note} (h : Pw NtR V ps ns) : ps.map (·.1) = ns := by
  refine List.ext_getElem (by simp [h.len]) fun i h1 h2 => ?_
  have h3 : i < ps.length := by simpa using h1
  rw [List.getElem_map]
  exact (h.all i _ _ (List.getElem?_eq_getElem h3) (List.getElem?_eq_getElem h2)).1
theorem SlF.at3 {V : World} {α : Type} {f : α → List Value} {s : Sl} {l : List α} (h : SlF f V s l) {g g' g'' : α → Value} (hf : ∀ x, f x = [g x, g' x, g'' x]) {i : Nat} (hi : i < l.length) : Plain s.a ∧ V.cell? ⟨ablk s.a, aoff s.a + i * 3, none⟩ = some (g l[i]) ∧ V.cell? ⟨ablk s.a, aoff s.a + i * 3 + 1, none⟩ = some (g' l[i]) ∧ V.cell? ⟨ablk s.a, aoff s.a + i * 3 + 2, none⟩ = some (g'' l[i]) := by
  obtain ⟨h1, h2⟩ := h.get (n := 3) (fun x => by rw [hf]; rfl) (by omega) hi
  exact ⟨h1, h2 0 _ (by rw [hf]; rfl), h2 1 _ (by rw [hf]; rfl), h2 2 _ (by rw [hf]; rfl)⟩
section
variable {V W : World}
theorem fault_sound (hV : Sub V W) (c i : Int) : Ret Try.prog 40 [iv c, iv i].toArray W fun v w' => v = faultV c i ∧ Rel W V [] V w' := by
  have H := Rel.start hV
  refine cal_of_vc tabOk Try.func40 rfl (by kernel_rfl) 8 rfl (by simp) [0, 1, 4] ?_
  ((repeat ((conv => whnf); first | refine an ?_ | ((first | refine H.nwD ?_ | refine H.nw ?_); clear H; intro w _ H) | refine H.ce ?_ | refine H.db ?_ | refine ea ?_ | refine ol ?_ | (refine H.st ?_; (conv => whnf); clear H; intro w H) | refine cT ?_ | refine cF ?_ | refine cN ?_ | refine cM ?_ | refine H.lw ?_ | refine H.ll ?_)); (conv => whnf))
  exact H.sx
theorem note_one (p : NtP) (h1 : I64 p.1.1) (h2 : p.1.2.2.length ≤ 1099511620000) (hx : Byt V p.2 p.1.2.2) : OneOk V 82 [] (.agg (ntC p).toArray) (noteB p.1) := oneOk_of fun V1 W1 hV hVV => by
  have H := Rel.start hV
  have hx1 := hx.up hVV
  have hn := putN_len h1.1 h1.2
  have hc := putC_len (b := p.1.2.2) (by omega)
  refine cal_of_vc tabOk Try.func82 rfl (by kernel_rfl) 16 rfl (by simp) [0, 1, 2] ?_
  ((repeat ((conv => whnf); first | refine an ?_ | refine H.ce ?_ | refine H.db ?_ | refine ea ?_ | refine ol ?_ | (refine H.st ?_; (conv => whnf); clear H; intro w H) | refine cT ?_ | refine cF ?_ | refine cN ?_ | refine cM ?_ | refine H.lw ?_ | refine H.ll ?_)); (conv => whnf))
  ((first | refine Rel.nwD H ?_ | refine Rel.nw H ?_); clear H; intro w b1 H)
  ((repeat ((conv => whnf); first | refine an ?_ | ((first | refine H.nwD ?_ | refine H.nw ?_); clear H; intro w _ H) | refine H.ce ?_ | refine H.db ?_ | refine ea ?_ | refine ol ?_ | (refine H.st ?_; (conv => whnf); clear H; intro w H) | refine cT ?_ | refine cF ?_ | refine cN ?_ | refine cM ?_ | refine H.lw ?_ | refine H.ll ?_)); (conv => whnf))
  ((first | refine draw_vcT (id := 1) tabOk mixed [2, 6, 10] [0, 1, 3, 4, 5, 7, 8, 9, 2, 6, 10, 11, 12, 13] [(2, []), (6, []), (10, [2]), (11, [2, 6, 10]), (12, [2, 6, 10, 11])] (by kernel_rfl) ?_); intro w hdw; replace H := Rel.ext H hdw.ext)
  ((repeat ((conv => whnf); first | refine an ?_ | refine H.ce ?_ | refine H.db ?_ | refine ea ?_ | refine ol ?_ | (refine H.st ?_; (conv => whnf); clear H; intro w H) | refine cT ?_ | refine cF ?_ | refine cN ?_ | refine cM ?_ | refine H.lw ?_ | refine H.ll ?_)); (conv => whnf))
  refine ⟨?_, ?_⟩
  · ((repeat ((conv => whnf); first | refine an ?_ | ((first | refine H.nwD ?_ | refine H.nw ?_); clear H; intro w _ H) | refine H.ce ?_ | refine H.db ?_ | refine ea ?_ | refine ol ?_ | (refine H.st ?_; (conv => whnf); clear H; intro w H) | refine cT ?_ | refine cF ?_ | refine cN ?_ | refine cM ?_ | refine H.lw ?_ | refine H.ll ?_)); (conv => whnf))
    refine (number_spec H.data h1).use ?_
    rintro v w ⟨r1, rfl, K⟩
    (have hKb := K.base; replace H := Rel.call H K)
    simp only [List.cons_append, List.nil_append] at H
    obtain ⟨V2, hV2, H, hr1⟩ := Rel.freezeF H (fun _ => rfl) (by decide)
    replace hx1 := hx1.up hV2
    try replace hr1 := hr1.up hV2
    try replace hb9 := hb9.up hV2
    try replace hr3 := hr3.up hV2
    ((repeat ((conv => whnf); first | refine an ?_ | ((first | refine H.nwD ?_ | refine H.nw ?_); clear H; intro w _ H) | refine H.ce ?_ | refine H.db ?_ | refine ea ?_ | refine ol ?_ | (refine H.st ?_; (conv => whnf); clear H; intro w H) | refine cT ?_ | refine cF ?_ | refine cN ?_ | refine cM ?_ | refine H.lw ?_ | refine H.ll ?_)); (conv => whnf))
    refine ⟨?_, ?_⟩
    · ((repeat ((conv => whnf); first | refine an ?_ | refine H.ce ?_ | refine H.db ?_ | refine ea ?_ | refine ol ?_ | (refine H.st ?_; (conv => whnf); clear H; intro w H) | refine cT ?_ | refine cF ?_ | refine cN ?_ | refine cM ?_ | refine H.lw ?_ | refine H.ll ?_)); (conv => whnf))
      ((first | refine Rel.nwD H ?_ | refine Rel.nw H ?_); clear H; intro w b9 H)
      obtain ⟨V3, hV3, H, hb9b⟩ := H.freezeBlk
      have hb9 : Byt V3 ⟨some ⟨b9, 0, none⟩, 1, 1⟩ [p.1.2.1] := Blk.byt (l := [p.1.2.1]) hb9b rfl
      replace hx1 := hx1.up hV3
      try replace hr1 := hr1.up hV3
      try replace hb9 := hb9.up hV3
      try replace hr3 := hr3.up hV3
      ((repeat ((conv => whnf); first | refine an ?_ | refine H.ce ?_ | refine H.db ?_ | refine ea ?_ | refine ol ?_ | (refine H.st ?_; (conv => whnf); clear H; intro w H) | refine cT ?_ | refine cF ?_ | refine cN ?_ | refine cM ?_ | refine H.lw ?_ | refine H.ll ?_)); (conv => whnf))
      ((repeat ((conv => whnf); first | refine an ?_ | ((first | refine H.nwD ?_ | refine H.nw ?_); clear H; intro w _ H) | refine H.ce ?_ | refine H.db ?_ | refine ea ?_ | refine ol ?_ | (refine H.st ?_; (conv => whnf); clear H; intro w H) | refine cT ?_ | refine cF ?_ | refine cN ?_ | refine cM ?_ | refine H.lw ?_ | refine H.ll ?_)); (conv => whnf))
      refine (chunk_spec H.data hx1 (by omega)).use ?_
      rintro v w ⟨r3, rfl, K⟩
      (have hKb := K.base; replace H := Rel.call H K)
      simp only [List.cons_append, List.nil_append] at H
      obtain ⟨V4, hV4, H, hr3⟩ := Rel.freezeF H (fun _ => rfl) (by decide)
      replace hx1 := hx1.up hV4
      try replace hr1 := hr1.up hV4
      try replace hb9 := hb9.up hV4
      try replace hr3 := hr3.up hV4
      ((repeat ((conv => whnf); first | refine an ?_ | refine H.ce ?_ | refine H.db ?_ | refine ea ?_ | refine ol ?_ | (refine H.st ?_; (conv => whnf); clear H; intro w H) | refine cT ?_ | refine cF ?_ | refine cN ?_ | refine cM ?_ | refine H.lw ?_ | refine H.ll ?_)); (conv => whnf))
      ((first | refine Rel.nwD H ?_ | refine Rel.nw H ?_); clear H; intro w b14 H)
      obtain ⟨V5, hV5, H, hb14⟩ := H.freezeBlk
      replace hx1 := hx1.up hV5
      try replace hr1 := hr1.up hV5
      try replace hb9 := hb9.up hV5
      try replace hr3 := hr3.up hV5
      ((repeat ((conv => whnf); first | refine an ?_ | ((first | refine H.nwD ?_ | refine H.nw ?_); clear H; intro w _ H) | refine H.ce ?_ | refine H.db ?_ | refine ea ?_ | refine ol ?_ | (refine H.st ?_; (conv => whnf); clear H; intro w H) | refine cT ?_ | refine cF ?_ | refine cN ?_ | refine cM ?_ | refine H.lw ?_ | refine H.ll ?_)); (conv => whnf))
      refine (concat_bytes (s := ⟨some ⟨b14, 0, none⟩, 3, 3⟩) (hl := [r1, ⟨some ⟨b9, 0, none⟩, 1, 1⟩, r3]) (ll := [putN p.1.1, [p.1.2.1], putC p.1.2.2]) H.data ⟨rfl, Nat.le_refl _, hb14.cells⟩ ⟨rfl, fun k x y hx hy => ?_⟩ (by simp) ?_).use ?_
      · match k, hx, hy with
        | 0, hx, hy => cases hx; cases hy; exact hr1
        | 1, hx, hy => cases hx; cases hy; exact hb9
        | 2, hx, hy => cases hx; cases hy; exact hr3
        | k + 3, hx, hy => simp at hx
      · simp only [List.flatten_cons, List.flatten_nil, List.length_append, List.length_cons, List.length_nil]
        omega
      rintro v w ⟨r, rfl, K⟩
      (have hKb := K.base; replace H := Rel.call H K)
      simp only [List.cons_append, List.nil_append] at H
      ((repeat ((conv => whnf); first | refine an ?_ | ((first | refine H.nwD ?_ | refine H.nw ?_); clear H; intro w _ H) | refine H.ce ?_ | refine H.db ?_ | refine ea ?_ | refine ol ?_ | (refine H.st ?_; (conv => whnf); clear H; intro w H) | refine cT ?_ | refine cF ?_ | refine cN ?_ | refine cM ?_ | refine H.lw ?_ | refine H.ll ?_)); (conv => whnf))
      refine ⟨r, rfl, ?_⟩
      have e : noteB p.1 = [putN p.1.1, [p.1.2.1], putC p.1.2.2].flatten := by simp [noteB]
      rw [e]
      exact Rel.back H.sx
    · ((repeat ((conv => whnf); first | refine an ?_ | ((first | refine H.nwD ?_ | refine H.nw ?_); clear H; intro w _ H) | refine H.ce ?_ | refine H.db ?_ | refine ea ?_ | refine ol ?_ | (refine H.st ?_; (conv => whnf); clear H; intro w H) | refine cT ?_ | refine cF ?_ | refine cN ?_ | refine cM ?_ | refine H.lw ?_ | refine H.ll ?_)); (conv => whnf))
      refine (chunk_spec H.data hx1 (by omega)).use ?_
      rintro v w ⟨r3, rfl, K⟩
      (have hKb := K.base; replace H := Rel.call H K)
      simp only [List.cons_append, List.nil_append] at H
      obtain ⟨V4, hV4, H, hr3⟩ := Rel.freezeF H (fun _ => rfl) (by decide)
      replace hx1 := hx1.up hV4
      try replace hr1 := hr1.up hV4
      try replace hb9 := hb9.up hV4
      try replace hr3 := hr3.up hV4
      ((repeat ((conv => whnf); first | refine an ?_ | refine H.ce ?_ | refine H.db ?_ | refine ea ?_ | refine ol ?_ | (refine H.st ?_; (conv => whnf); clear H; intro w H) | refine cT ?_ | refine cF ?_ | refine cN ?_ | refine cM ?_ | refine H.lw ?_ | refine H.ll ?_)); (conv => whnf))
      ((repeat ((conv => whnf); first | refine an ?_ | refine H.ce ?_ | refine H.db ?_ | refine ea ?_ | refine ol ?_ | (refine H.st ?_; (conv => whnf); clear H; intro w H) | refine cT ?_ | refine cF ?_ | refine cN ?_ | refine cM ?_ | refine H.lw ?_ | refine H.ll ?_)); (conv => whnf))
      ((first | refine Rel.nwD H ?_ | refine Rel.nw H ?_); clear H; intro w b9 H)
      obtain ⟨V3, hV3, H, hb9b⟩ := H.freezeBlk
      have hb9 : Byt V3 ⟨some ⟨b9, 0, none⟩, 1, 1⟩ [p.1.2.1] := Blk.byt (l := [p.1.2.1]) hb9b rfl
      replace hx1 := hx1.up hV3
      try replace hr1 := hr1.up hV3
      try replace hb9 := hb9.up hV3
      try replace hr3 := hr3.up hV3
      ((repeat ((conv => whnf); first | refine an ?_ | refine H.ce ?_ | refine H.db ?_ | refine ea ?_ | refine ol ?_ | (refine H.st ?_; (conv => whnf); clear H; intro w H) | refine cT ?_ | refine cF ?_ | refine cN ?_ | refine cM ?_ | refine H.lw ?_ | refine H.ll ?_)); (conv => whnf))
      ((first | refine Rel.nwD H ?_ | refine Rel.nw H ?_); clear H; intro w b14 H)
      obtain ⟨V5, hV5, H, hb14⟩ := H.freezeBlk
      replace hx1 := hx1.up hV5
      try replace hr1 := hr1.up hV5
      try replace hb9 := hb9.up hV5
      try replace hr3 := hr3.up hV5
      ((repeat ((conv => whnf); first | refine an ?_ | ((first | refine H.nwD ?_ | refine H.nw ?_); clear H; intro w _ H) | refine H.ce ?_ | refine H.db ?_ | refine ea ?_ | refine ol ?_ | (refine H.st ?_; (conv => whnf); clear H; intro w H) | refine cT ?_ | refine cF ?_ | refine cN ?_ | refine cM ?_ | refine H.lw ?_ | refine H.ll ?_)); (conv => whnf))
      refine (concat_bytes (s := ⟨some ⟨b14, 0, none⟩, 3, 3⟩) (hl := [r1, ⟨some ⟨b9, 0, none⟩, 1, 1⟩, r3]) (ll := [putN p.1.1, [p.1.2.1], putC p.1.2.2]) H.data ⟨rfl, Nat.le_refl _, hb14.cells⟩ ⟨rfl, fun k x y hx hy => ?_⟩ (by simp) ?_).use ?_
      · match k, hx, hy with
        | 0, hx, hy => cases hx; cases hy; exact hr1
        | 1, hx, hy => cases hx; cases hy; exact hb9
        | 2, hx, hy => cases hx; cases hy; exact hr3
        | k + 3, hx, hy => simp at hx
      · simp only [List.flatten_cons, List.flatten_nil, List.length_append, List.length_cons, List.length_nil]
        omega
      rintro v w ⟨r, rfl, K⟩
      (have hKb := K.base; replace H := Rel.call H K)
      simp only [List.cons_append, List.nil_append] at H
      ((repeat ((conv => whnf); first | refine an ?_ | ((first | refine H.nwD ?_ | refine H.nw ?_); clear H; intro w _ H) | refine H.ce ?_ | refine H.db ?_ | refine ea ?_ | refine ol ?_ | (refine H.st ?_; (conv => whnf); clear H; intro w H) | refine cT ?_ | refine cF ?_ | refine cN ?_ | refine cM ?_ | refine H.lw ?_ | refine H.ll ?_)); (conv => whnf))
      refine ⟨r, rfl, ?_⟩
      have e : noteB p.1 = [putN p.1.1, [p.1.2.1], putC p.1.2.2].flatten := by simp [noteB]
      rw [e]
      exact Rel.back H.sx
  · ((repeat ((conv => whnf); first | refine an ?_ | refine H.ce ?_ | refine H.db ?_ | refine ea ?_ | refine ol ?_ | (refine H.st ?_; (conv => whnf); clear H; intro w H) | refine cT ?_ | refine cF ?_ | refine cN ?_ | refine cM ?_ | refine H.lw ?_ | refine H.ll ?_)); (conv => whnf))
    ((first | refine Rel.nwD H ?_ | refine Rel.nw H ?_); clear H; intro w b9 H)
    obtain ⟨V3, hV3, H, hb9b⟩ := H.freezeBlk
    have hb9 : Byt V3 ⟨some ⟨b9, 0, none⟩, 1, 1⟩ [p.1.2.1] := Blk.byt (l := [p.1.2.1]) hb9b rfl
    replace hx1 := hx1.up hV3
    try replace hr1 := hr1.up hV3
    try replace hb9 := hb9.up hV3
    try replace hr3 := hr3.up hV3
    ((repeat ((conv => whnf); first | refine an ?_ | refine H.ce ?_ | refine H.db ?_ | refine ea ?_ | refine ol ?_ | (refine H.st ?_; (conv => whnf); clear H; intro w H) | refine cT ?_ | refine cF ?_ | refine cN ?_ | refine cM ?_ | refine H.lw ?_ | refine H.ll ?_)); (conv => whnf))
    ((repeat ((conv => whnf); first | refine an ?_ | ((first | refine H.nwD ?_ | refine H.nw ?_); clear H; intro w _ H) | refine H.ce ?_ | refine H.db ?_ | refine ea ?_ | refine ol ?_ | (refine H.st ?_; (conv => whnf); clear H; intro w H) | refine cT ?_ | refine cF ?_ | refine cN ?_ | refine cM ?_ | refine H.lw ?_ | refine H.ll ?_)); (conv => whnf))
    refine (number_spec H.data h1).use ?_
    rintro v w ⟨r1, rfl, K⟩
    (have hKb := K.base; replace H := Rel.call H K)
    simp only [List.cons_append, List.nil_append] at H
    obtain ⟨V2, hV2, H, hr1⟩ := Rel.freezeF H (fun _ => rfl) (by decide)
    replace hx1 := hx1.up hV2
    try replace hr1 := hr1.up hV2
    try replace hb9 := hb9.up hV2
    try replace hr3 := hr3.up hV2
    ((repeat ((conv => whnf); first | refine an ?_ | ((first | refine H.nwD ?_ | refine H.nw ?_); clear H; intro w _ H) | refine H.ce ?_ | refine H.db ?_ | refine ea ?_ | refine ol ?_ | (refine H.st ?_; (conv => whnf); clear H; intro w H) | refine cT ?_ | refine cF ?_ | refine cN ?_ | refine cM ?_ | refine H.lw ?_ | refine H.ll ?_)); (conv => whnf))
    ((repeat ((conv => whnf); first | refine an ?_ | ((first | refine H.nwD ?_ | refine H.nw ?_); clear H; intro w _ H) | refine H.ce ?_ | refine H.db ?_ | refine ea ?_ | refine ol ?_ | (refine H.st ?_; (conv => whnf); clear H; intro w H) | refine cT ?_ | refine cF ?_ | refine cN ?_ | refine cM ?_ | refine H.lw ?_ | refine H.ll ?_)); (conv => whnf))
    refine (chunk_spec H.data hx1 (by omega)).use ?_
    rintro v w ⟨r3, rfl, K⟩
    (have hKb := K.base; replace H := Rel.call H K)
    simp only [List.cons_append, List.nil_append] at H
    obtain ⟨V4, hV4, H, hr3⟩ := Rel.freezeF H (fun _ => rfl) (by decide)
    replace hx1 := hx1.up hV4
    try replace hr1 := hr1.up hV4
    try replace hb9 := hb9.up hV4
    try replace hr3 := hr3.up hV4
    ((repeat ((conv => whnf); first | refine an ?_ | refine H.ce ?_ | refine H.db ?_ | refine ea ?_ | refine ol ?_ | (refine H.st ?_; (conv => whnf); clear H; intro w H) | refine cT ?_ | refine cF ?_ | refine cN ?_ | refine cM ?_ | refine H.lw ?_ | refine H.ll ?_)); (conv => whnf))
    ((first | refine Rel.nwD H ?_ | refine Rel.nw H ?_); clear H; intro w b14 H)
    obtain ⟨V5, hV5, H, hb14⟩ := H.freezeBlk
    replace hx1 := hx1.up hV5
    try replace hr1 := hr1.up hV5
    try replace hb9 := hb9.up hV5
    try replace hr3 := hr3.up hV5
    ((repeat ((conv => whnf); first | refine an ?_ | ((first | refine H.nwD ?_ | refine H.nw ?_); clear H; intro w _ H) | refine H.ce ?_ | refine H.db ?_ | refine ea ?_ | refine ol ?_ | (refine H.st ?_; (conv => whnf); clear H; intro w H) | refine cT ?_ | refine cF ?_ | refine cN ?_ | refine cM ?_ | refine H.lw ?_ | refine H.ll ?_)); (conv => whnf))
    refine (concat_bytes (s := ⟨some ⟨b14, 0, none⟩, 3, 3⟩) (hl := [r1, ⟨some ⟨b9, 0, none⟩, 1, 1⟩, r3]) (ll := [putN p.1.1, [p.1.2.1], putC p.1.2.2]) H.data ⟨rfl, Nat.le_refl _, hb14.cells⟩ ⟨rfl, fun k x y hx hy => ?_⟩ (by simp) ?_).use ?_
    · match k, hx, hy with
      | 0, hx, hy => cases hx; cases hy; exact hr1
      | 1, hx, hy => cases hx; cases hy; exact hb9
      | 2, hx, hy => cases hx; cases hy; exact hr3
      | k + 3, hx, hy => simp at hx
    · simp only [List.flatten_cons, List.flatten_nil, List.length_append, List.length_cons, List.length_nil]
      omega
    rintro v w ⟨r, rfl, K⟩
    (have hKb := K.base; replace H := Rel.call H K)
    simp only [List.cons_append, List.nil_append] at H
    ((repeat ((conv => whnf); first | refine an ?_ | ((first | refine H.nwD ?_ | refine H.nw ?_); clear H; intro w _ H) | refine H.ce ?_ | refine H.db ?_ | refine ea ?_ | refine ol ?_ | (refine H.st ?_; (conv => whnf); clear H; intro w H) | refine cT ?_ | refine cF ?_ | refine cN ?_ | refine cM ?_ | refine H.lw ?_ | refine H.ll ?_)); (conv => whnf))
    refine ⟨r, rfl, ?_⟩
    have e : noteB p.1 = [putN p.1.1, [p.1.2.1], putC p.1.2.2].flatten := by simp [noteB]
    rw [e]
    exact Rel.back H.sx
theorem slice_notes {V W : World} (hV : Sub V W) {s : Sl} {l : List NtP} (hs : SlF ntC V s l) {g : FuncId} {cap : List Value} {enc : NtP → List UInt8} (hone : ∀ x ∈ l, OneOk V g cap ((fun p => .agg (ntC p).toArray) x) (enc x)) (hll : l.length ≤ 1099511627776) (hb : (putL enc l).length ≤ 1099511627776) :
    Ret Try.prog 81 [s.v, .func (.func g) #[] cap.toArray].toArray W fun v w' => ∃ r : Sl, v = r.v ∧ Rel W V [.row r 5 1 ((putL enc l).flatMap byC)] V w' := by
  have H := Rel.start hV
  have hlen := hs.len
  rw [putL, List.length_append] at hb
  refine cal_of_vc tabOk Try.func81 rfl (by kernel_rfl) 24 rfl (by simp) [0, 1, 4, 5, 7, 11, 12, 13, 14] ?_
  ((repeat ((conv => whnf); first | refine an ?_ | ((first | refine H.nwD ?_ | refine H.nw ?_); clear H; intro w _ H) | refine H.ce ?_ | refine H.db ?_ | refine ea ?_ | refine ol ?_ | (refine H.st ?_; (conv => whnf); clear H; intro w H) | refine cT ?_ | refine cF ?_ | refine cN ?_ | refine cM ?_ | refine H.lw ?_ | refine H.ll ?_)); (conv => whnf))
  rw [hlen]
  refine (number_spec (n := l.length) H.data (by constructor <;> omega)).use ?_
  rintro v w ⟨r0, rfl, K⟩
  replace H := H.call K
  ((repeat ((conv => whnf); first | refine an ?_ | ((first | refine H.nwD ?_ | refine H.nw ?_); clear H; intro w _ H) | refine H.ce ?_ | refine H.db ?_ | refine ea ?_ | refine ol ?_ | (refine H.st ?_; (conv => whnf); clear H; intro w H) | refine cT ?_ | refine cF ?_ | refine cN ?_ | refine cM ?_ | refine H.lw ?_ | refine H.ll ?_)); (conv => whnf))
  refine loop_inv (S := Nat × Sl) tabOk [0, 1, 4, 11, 12] (fun k => [(5, k.2.v), (13, iv k.1)]) (fun k w' => k.1 ≤ l.length ∧ ∃ V1, Sub V V1 ∧ Rel W V [.row k.2 5 1 ((putN l.length ++ (l.take k.1).flatMap enc).flatMap byC)] V1 w') (fun k _ => l.length - k.1) (0, r0) ?_
  (conv => whnf)
  refine ⟨(by repeat (first | exact trivial | refine ⟨rfl, ?_⟩)), ⟨by omega, V, Sub.refl _, by simpa using H⟩, ?_⟩
  clear H
  rintro ⟨k, r⟩ w ⟨hk, V1, hV1, H⟩
  dsimp only at hk H
  by_cases hlt : k < l.length
  rotate_left
  · ((repeat ((conv => whnf); first | refine an ?_ | ((first | refine H.nwD ?_ | refine H.nw ?_); clear H; intro w _ H) | refine H.ce ?_ | refine H.db ?_ | refine ea ?_ | refine ol ?_ | (refine H.st ?_; (conv => whnf); clear H; intro w H) | refine cT ?_ | refine cF ?_ | refine cN ?_ | refine cM ?_ | refine H.lw ?_ | refine H.ll ?_)); (conv => whnf))
    rw [List.take_of_length_le (by omega)] at H
    exact ⟨r, rfl, H.back⟩
  have hbl := flat_part (enc := enc) hlt
  obtain ⟨hp, hq1, hq2, hq3⟩ := (hs.up hV1).at3 (g := fun p : NtP => bv p.1.2.1) (g' := fun p : NtP => p.2.v) (g'' := fun p : NtP => iv p.1.1) (fun _ => rfl) hlt
  ((repeat ((conv => whnf); first | refine an ?_ | ((first | refine H.nwD ?_ | refine H.nw ?_); clear H; intro w _ H) | refine H.ce ?_ | refine H.db ?_ | refine ea ?_ | refine ol ?_ | (refine H.st ?_; (conv => whnf); clear H; intro w H) | refine cT ?_ | refine cF ?_ | refine cN ?_ | refine cM ?_ | refine H.lw ?_ | refine H.ll ?_)); (conv => whnf))
  refine (hone l[k] (List.getElem_mem hlt) V1 w hV1 H.data).use ?_
  rintro v w ⟨V2, x, hV2, rfl, hx, K⟩
  replace H := H.call K
  simp only [List.nil_append] at H
  ((repeat ((conv => whnf); first | refine an ?_ | ((first | refine H.nwD ?_ | refine H.nw ?_); clear H; intro w _ H) | refine H.ce ?_ | refine H.db ?_ | refine ea ?_ | refine ol ?_ | (refine H.st ?_; (conv => whnf); clear H; intro w H) | refine cT ?_ | refine cF ?_ | refine cN ?_ | refine cM ?_ | refine H.lw ?_ | refine H.ll ?_)); (conv => whnf))
  refine Rel.appD H (i := 1) rfl hx (by simp only [List.length_append]; omega) ?_
  clear H
  intro rn w H
  rw [flat_next hlt] at H
  ((repeat ((conv => whnf); first | refine an ?_ | ((first | refine H.nwD ?_ | refine H.nw ?_); clear H; intro w _ H) | refine H.ce ?_ | refine H.db ?_ | refine ea ?_ | refine ol ?_ | (refine H.st ?_; (conv => whnf); clear H; intro w H) | refine cT ?_ | refine cF ?_ | refine cN ?_ | refine cM ?_ | refine H.lw ?_ | refine H.ll ?_)); (conv => whnf))
  exact ⟨(by repeat (first | exact trivial | refine ⟨rfl, ?_⟩)), (k + 1, rn), (by repeat (first | exact trivial | refine ⟨rfl, ?_⟩)), ⟨by omega, V2, hV1.trans hV2, H.sx⟩, by omega⟩
set_option maxRecDepth 100000 in
set_option maxHeartbeats 1000000 in
theorem readSlice_notes {V W : World} (hV : Sub V W) {s : Sl} {l : List UInt8} (hs : Byt V s l) (hl : l.length ≤ 1099511627776) {p : Nat} (hp : p ≤ l.length) {m : Int} (hm : 0 ≤ m ∧ m ≤ 4294967296) {g : FuncId} {cap : List Value} {one : Nat → Got Note}
    (hone : ∀ q, q ≤ l.length → Reads V g cap s (fun p => .agg (ntC p).toArray) (fun V p e => p.1 = e ∧ Byt V p.2 p.1.2.2) q (one q)) (hin : ∀ q x q', q ≤ l.length → one q = .ok x q' → q' ≤ l.length) :
    Ret Try.prog 86 [s.v, iv p, iv m, .func (.func g) #[] cap.toArray].toArray W (ReadR Sl.v (RL ntC (fun V p e => p.1 = e ∧ Byt V p.2 p.1.2.2)) W V (listAt l one m p)) := by
  have H := Rel.start hV
  have hlen := hs.len
  have hR : ∀ (V V' : World) (x : NtP) (y : Note), Sub V V' → ((fun V p e => p.1 = e ∧ Byt V p.2 p.1.2.2) : World → NtP → Note → Prop) V x y → ((fun V p e => p.1 = e ∧ Byt V p.2 p.1.2.2) : World → NtP → Note → Prop) V' x y := fun _ _ _ _ hs h => ⟨h.1, h.2.up hs⟩
  refine cal_of_vc tabOk Try.func86 rfl (by kernel_rfl) 64 rfl (by simp) [0, 1, 2, 3, 8, 9, 10, 11, 12, 13, 14, 15, 16, 17, 25, 30, 40, 41, 42, 53] ?_
  ((repeat ((conv => whnf); first | refine an ?_ | refine H.ce ?_ | refine H.db ?_ | refine ea ?_ | refine ol ?_ | (refine H.st ?_; (conv => whnf); clear H; intro w H) | refine cT ?_ | refine cF ?_ | refine cN ?_ | refine cM ?_ | refine H.lw ?_ | refine H.ll ?_)); (conv => whnf))
  ((first | refine Rel.nwD H ?_ | refine Rel.nw H ?_); clear H; intro w b10 H)
  ((repeat ((conv => whnf); first | refine an ?_ | ((first | refine H.nwD ?_ | refine H.nw ?_); clear H; intro w _ H) | refine H.ce ?_ | refine H.db ?_ | refine ea ?_ | refine ol ?_ | (refine H.st ?_; (conv => whnf); clear H; intro w H) | refine cT ?_ | refine cF ?_ | refine cN ?_ | refine cM ?_ | refine H.lw ?_ | refine H.ll ?_)); (conv => whnf))
  refine (readNumber_spec H.data hs hl hp).use ?_
  rintro v w ⟨rfl, K⟩
  replace H := H.call K
  simp only [List.nil_append] at H
  cases hn : numAt l p with
  | bad c i =>
    have hc0 := numAt_ne hn
    have hr : listAt l one m p = .bad c i := by rw [listAt, hn]
    rw [hr]
    ((repeat ((conv => whnf); first | refine an ?_ | refine H.ce ?_ | refine H.db ?_ | refine ea ?_ | refine ol ?_ | (refine H.st ?_; (conv => whnf); clear H; intro w H) | refine cT ?_ | refine cF ?_ | refine cN ?_ | refine cM ?_ | refine H.lw ?_ | refine H.ll ?_)); (conv => whnf))
    ((first | refine Rel.nwD H ?_ | refine Rel.nw H ?_); clear H; intro w b13 H)
    ((repeat ((conv => whnf); first | refine an ?_ | ((first | refine H.nwD ?_ | refine H.nw ?_); clear H; intro w _ H) | refine H.ce ?_ | refine H.db ?_ | refine ea ?_ | refine ol ?_ | (refine H.st ?_; (conv => whnf); clear H; intro w H) | refine cT ?_ | refine cF ?_ | refine cN ?_ | refine cM ?_ | refine H.lw ?_ | refine H.ll ?_)); (conv => whnf))
    ((first | refine draw_vc (id := 3) tabOk mixed [] [0, 1, 2, 3] (by kernel_rfl) ?_ | refine draw_vc (id := 11) tabOk mixed [] [0, 1, 2, 3] (by kernel_rfl) ?_); intro w hdw; replace H := Rel.ext H hdw.ext)
    ((repeat ((conv => whnf); first | refine an ?_ | ((first | refine H.nwD ?_ | refine H.nw ?_); clear H; intro w _ H) | refine H.ce ?_ | refine H.db ?_ | refine ea ?_ | refine ol ?_ | (refine H.st ?_; (conv => whnf); clear H; intro w H) | refine cT ?_ | refine cF ?_ | refine cN ?_ | refine cM ?_ | refine H.lw ?_ | refine H.ll ?_)); (conv => whnf))
    exact ⟨V, ⟨none, 0, 0⟩, 0, c, i, Sub.refl _, H.sx, rfl, rfl, rfl, hc0⟩
  | ok n q0 =>
    obtain ⟨h1, h2, h3, h4, h5⟩ := numAt_ok hp hn
    ((repeat ((conv => whnf); first | refine an ?_ | refine H.ce ?_ | refine H.db ?_ | refine ea ?_ | refine ol ?_ | (refine H.st ?_; (conv => whnf); clear H; intro w H) | refine cT ?_ | refine cF ?_ | refine cN ?_ | refine cM ?_ | refine H.lw ?_ | refine H.ll ?_)); (conv => whnf))
    ((first | refine Rel.nwD H ?_ | refine Rel.nw H ?_); clear H; intro w b13 H)
    by_cases hb : n < 0 ∨ m < n
    · have hr : listAt l one m p = .bad 4 p := by rw [listAt, hn]; simp only; rw [if_pos hb]
      rw [hr]
      by_cases hn0 : n < 0
      all_goals
        ((repeat ((conv => whnf); first | refine an ?_ | ((first | refine H.nwD ?_ | refine H.nw ?_); clear H; intro w _ H) | refine H.ce ?_ | refine H.db ?_ | refine ea ?_ | refine ol ?_ | (refine H.st ?_; (conv => whnf); clear H; intro w H) | refine cT ?_ | refine cF ?_ | refine cN ?_ | refine cM ?_ | refine H.lw ?_ | refine H.ll ?_)); (conv => whnf))
        refine (fault_wire H.data 4 p).use ?_
        rintro v w ⟨rfl, K⟩
        replace H := H.call K
        simp only [List.nil_append] at H
        ((repeat ((conv => whnf); first | refine an ?_ | ((first | refine H.nwD ?_ | refine H.nw ?_); clear H; intro w _ H) | refine H.ce ?_ | refine H.db ?_ | refine ea ?_ | refine ol ?_ | (refine H.st ?_; (conv => whnf); clear H; intro w H) | refine cT ?_ | refine cF ?_ | refine cN ?_ | refine cM ?_ | refine H.lw ?_ | refine H.ll ?_)); (conv => whnf))
        exact ⟨V, ⟨none, 0, 0⟩, 0, 4, p, Sub.refl _, H.sx, rfl, rfl, rfl, by decide⟩
    have hr : listAt l one m p = manyAt one n.toNat q0 := by rw [listAt, hn]; simp only; rw [if_neg hb]
    rw [hr]
    obtain ⟨N, rfl⟩ : ∃ N : Nat, n = N := ⟨n.toNat, by omega⟩
    rw [Int.toNat_natCast]
    ((repeat ((conv => whnf); first | refine an ?_ | ((first | refine H.nwD ?_ | refine H.nw ?_); clear H; intro w _ H) | refine H.ce ?_ | refine H.db ?_ | refine ea ?_ | refine ol ?_ | (refine H.st ?_; (conv => whnf); clear H; intro w H) | refine cT ?_ | refine cF ?_ | refine cN ?_ | refine cM ?_ | refine H.lw ?_ | refine H.ll ?_)); (conv => whnf))
    replace H := H.rowNil 120 3
    refine loop_inv (S := Nat × Nat × Sl × List NtP × List Note) tabOk [0, 1, 2, 3, 10, 11, 13, 25, 30, 40] (fun k => [(12, iv k.2.1), (14, k.2.2.1.v), (41, iv k.1)]) (fun k w' => k.1 ≤ N ∧ k.2.1 ≤ l.length ∧ k.2.2.2.1.length = k.1 ∧ manyAt one k.1 q0 = .ok k.2.2.2.2 k.2.1 ∧ ∃ V1, Sub V V1 ∧ Pw (fun V p e => p.1 = e ∧ Byt V p.2 p.1.2.2) V1 k.2.2.2.1 k.2.2.2.2 ∧ Rel W V [.row k.2.2.1 120 3 (k.2.2.2.1.flatMap ntC), .blk b13 [iv 0, iv 0] 29, .blk b10 [iv 0, iv 0] 29] V1 w') (fun k _ => N - k.1) (0, q0, ⟨none, 0, 0⟩, [], []) ?_
    (conv => whnf)
    refine ⟨(by repeat (first | exact trivial | refine ⟨rfl, ?_⟩)), ⟨by omega, h2, rfl, rfl, V, Sub.refl _, Pw.nil, H.sx⟩, ?_⟩
    clear H
    rintro ⟨k, q, r, xs, ys⟩ w ⟨hk, hq, hxl, hma, V1, hV1, hpw, H⟩
    dsimp only at hk hq hxl hma hpw H
    by_cases hlt : k < N
    rotate_left
    · obtain rfl : k = N := by omega
      ((repeat ((conv => whnf); first | refine an ?_ | ((first | refine H.nwD ?_ | refine H.nw ?_); clear H; intro w _ H) | refine H.ce ?_ | refine H.db ?_ | refine ea ?_ | refine ol ?_ | (refine H.st ?_; (conv => whnf); clear H; intro w H) | refine cT ?_ | refine cF ?_ | refine cN ?_ | refine cM ?_ | refine H.lw ?_ | refine H.ll ?_)); (conv => whnf))
      obtain ⟨V2, hV2, H, hrr⟩ := Rel.freezeF H (fun _ => rfl) (by decide)
      rw [hma]
      exact ⟨V2, r, q, 0, 0, hV1.trans hV2, H.sx, rfl, rfl, rfl, rfl, xs, hrr, hpw.up hR hV2⟩
    ((repeat ((conv => whnf); first | refine an ?_ | ((first | refine H.nwD ?_ | refine H.nw ?_); clear H; intro w _ H) | refine H.ce ?_ | refine H.db ?_ | refine ea ?_ | refine ol ?_ | (refine H.st ?_; (conv => whnf); clear H; intro w H) | refine cT ?_ | refine cF ?_ | refine cN ?_ | refine cM ?_ | refine H.lw ?_ | refine H.ll ?_)); (conv => whnf))
    refine (hone q hq V1 w hV1 H.data).use ?_
    rintro v w ⟨V2, x, n2, c, i, hV2, K, rfl, hres⟩
    replace H := H.call K
    simp only [List.nil_append] at H
    cases ho : one q with
    | bad c' i' =>
      rw [ho] at hres
      obtain ⟨rfl, rfl, hc0⟩ := hres
      have hmb : manyAt one N q0 = .bad c i := by
        have := manyAt_badAt hma ho (N - (k + 1))
        rwa [show k + 1 + (N - (k + 1)) = N by omega] at this
      rw [hmb]
      ((repeat ((conv => whnf); first | refine an ?_ | ((first | refine H.nwD ?_ | refine H.nw ?_); clear H; intro w _ H) | refine H.ce ?_ | refine H.db ?_ | refine ea ?_ | refine ol ?_ | (refine H.st ?_; (conv => whnf); clear H; intro w H) | refine cT ?_ | refine cF ?_ | refine cN ?_ | refine cM ?_ | refine H.lw ?_ | refine H.ll ?_)); (conv => whnf))
      ((first | refine draw_vc (id := 3) tabOk mixed [] [0, 1, 2, 3] (by kernel_rfl) ?_ | refine draw_vc (id := 11) tabOk mixed [] [0, 1, 2, 3] (by kernel_rfl) ?_); intro w hdw; replace H := Rel.ext H hdw.ext)
      ((repeat ((conv => whnf); first | refine an ?_ | ((first | refine H.nwD ?_ | refine H.nw ?_); clear H; intro w _ H) | refine H.ce ?_ | refine H.db ?_ | refine ea ?_ | refine ol ?_ | (refine H.st ?_; (conv => whnf); clear H; intro w H) | refine cT ?_ | refine cF ?_ | refine cN ?_ | refine cM ?_ | refine H.lw ?_ | refine H.ll ?_)); (conv => whnf))
      exact ⟨V2, ⟨none, 0, 0⟩, 0, c, i, hV1.trans hV2, H.sx, rfl, rfl, rfl, hc0⟩
    | ok y q' =>
      rw [ho] at hres
      obtain ⟨rfl, rfl, rfl, hxy⟩ := hres
      have hq' := hin q y q' hq ho
      ((repeat ((conv => whnf); first | refine an ?_ | ((first | refine H.nwD ?_ | refine H.nw ?_); clear H; intro w _ H) | refine H.ce ?_ | refine H.db ?_ | refine ea ?_ | refine ol ?_ | (refine H.st ?_; (conv => whnf); clear H; intro w H) | refine cT ?_ | refine cF ?_ | refine cN ?_ | refine cM ?_ | refine H.lw ?_ | refine H.ll ?_)); (conv => whnf))
      refine Rel.app1_2 (f := ntC) (l := xs) (x := x) tabOk rfl rfl rfl rfl rfl (by decide) (fun _ => rfl) (List.all_eq_true.1 rfl) H (by simp; omega) (by omega) ?_
      clear H
      intro rn w H
      ((repeat ((conv => whnf); first | refine an ?_ | ((first | refine H.nwD ?_ | refine H.nw ?_); clear H; intro w _ H) | refine H.ce ?_ | refine H.db ?_ | refine ea ?_ | refine ol ?_ | (refine H.st ?_; (conv => whnf); clear H; intro w H) | refine cT ?_ | refine cF ?_ | refine cN ?_ | refine cM ?_ | refine H.lw ?_ | refine H.ll ?_)); (conv => whnf))
      exact ⟨(by repeat (first | exact trivial | refine ⟨rfl, ?_⟩)), (k + 1, q', rn, xs ++ [x], ys ++ [y]), (by repeat (first | exact trivial | refine ⟨rfl, ?_⟩)), ⟨by omega, hq', by simp [hxl], manyAt_step hma ho, V2, hV1.trans hV2, (hpw.up hR hV2).snoc hxy, H.sx⟩, by omega⟩
set_option maxRecDepth 100000 in
theorem readNote_spec {s : Sl} {l : List UInt8} (hs : Byt V s l) (hl : l.length ≤ 1099511627776) {p : Nat} (hp : p ≤ l.length) : Reads V 87 [] s (fun p => .agg (ntC p).toArray) NtR p (noteAt l p) := by
  intro V1 W1 h1 h2
  have H := Rel.start h2
  have hs1 := hs.up h1
  have hlen := hs1.len
  refine cal_of_vc tabOk Try.func87 rfl (by kernel_rfl) 49 rfl (by simp) [0, 1, 4, 5, 6, 7, 8, 9, 10, 20, 26] ?_
  ((repeat ((conv => whnf); first | refine an ?_ | refine H.ce ?_ | refine H.db ?_ | refine ea ?_ | refine ol ?_ | (refine H.st ?_; (conv => whnf); clear H; intro w H) | refine cT ?_ | refine cF ?_ | refine cN ?_ | refine cM ?_ | refine H.lw ?_ | refine H.ll ?_)); (conv => whnf))
  ((first | refine Rel.nwD H ?_ | refine Rel.nw H ?_); clear H; intro w b4 H)
  ((repeat ((conv => whnf); first | refine an ?_ | refine H.ce ?_ | refine H.db ?_ | refine ea ?_ | refine ol ?_ | (refine H.st ?_; (conv => whnf); clear H; intro w H) | refine cT ?_ | refine cF ?_ | refine cN ?_ | refine cM ?_ | refine H.lw ?_ | refine H.ll ?_)); (conv => whnf))
  ((first | refine Rel.nwD H ?_ | refine Rel.nw H ?_); clear H; intro w b6 H)
  ((repeat ((conv => whnf); first | refine an ?_ | ((first | refine H.nwD ?_ | refine H.nw ?_); clear H; intro w _ H) | refine H.ce ?_ | refine H.db ?_ | refine ea ?_ | refine ol ?_ | (refine H.st ?_; (conv => whnf); clear H; intro w H) | refine cT ?_ | refine cF ?_ | refine cN ?_ | refine cM ?_ | refine H.lw ?_ | refine H.ll ?_)); (conv => whnf))
  refine (readNumber_spec H.data hs1 hl hp).use ?_
  rintro v w ⟨rfl, K⟩
  (have hKb := K.base; replace H := H.call0 K)
  cases hn : numAt l p with
  | bad c i =>
    have hc0 := numAt_ne hn
    have hr : noteAt l p = .bad c i := by rw [noteAt, hn]
    rw [hr]
    ((repeat ((conv => whnf); first | refine an ?_ | refine H.ce ?_ | refine H.db ?_ | refine ea ?_ | refine ol ?_ | (refine H.st ?_; (conv => whnf); clear H; intro w H) | refine cT ?_ | refine cF ?_ | refine cN ?_ | refine cM ?_ | refine H.lw ?_ | refine H.ll ?_)); (conv => whnf))
    ((first | refine Rel.nwD H ?_ | refine Rel.nw H ?_); clear H; intro w b8 H)
    ((repeat ((conv => whnf); first | refine an ?_ | ((first | refine H.nwD ?_ | refine H.nw ?_); clear H; intro w _ H) | refine H.ce ?_ | refine H.db ?_ | refine ea ?_ | refine ol ?_ | (refine H.st ?_; (conv => whnf); clear H; intro w H) | refine cT ?_ | refine cF ?_ | refine cN ?_ | refine cM ?_ | refine H.lw ?_ | refine H.ll ?_)); (conv => whnf))
    ((first | refine draw_vcX (id := 3) tabOk mixed (Sav [b4]) (fun _ _ _ => Sav.trans) [2] [1] [0, 1, 2, 3, 4] (by kernel_rfl) ?_ | refine draw_vcX (id := 8) tabOk mixed (Sav [b4]) (fun _ _ _ => Sav.trans) [7] [6] [0, 1, 2, 3, 4, 5, 6, 7, 8, 9] (by kernel_rfl) ?_); intro w hdw; replace H := Rel.ext H hdw.ext)
    ((repeat ((conv => whnf); first | refine an ?_ | refine H.ce ?_ | refine H.db ?_ | refine ea ?_ | refine ol ?_ | fail | refine cT ?_ | refine cF ?_ | refine cN ?_ | refine cM ?_ | refine H.lw ?_ | refine H.ll ?_)); (conv => whnf))
    (refine And.intro (fun w1 hsv => ?_) ?_; focus (obtain ⟨_, H1⟩ := Rel.savAt H (i := 2) rfl rfl hsv; clear H; have H := H1; clear H1; ((repeat ((conv => whnf); first | refine an ?_ | ((first | refine H.nwD ?_ | refine H.nw ?_); clear H; intro w _ H) | refine H.ce ?_ | refine H.db ?_ | refine ea ?_ | refine ol ?_ | (refine H.st ?_; (conv => whnf); clear H; intro w H) | refine cT ?_ | refine cF ?_ | refine cN ?_ | refine cM ?_ | refine H.lw ?_ | refine H.ll ?_)); (conv => whnf)); try exact ⟨rfl, rfl⟩))
    ((repeat ((conv => whnf); first | refine an ?_ | refine H.ce ?_ | refine H.db ?_ | refine ea ?_ | refine ol ?_ | fail | refine cT ?_ | refine cF ?_ | refine cN ?_ | refine cM ?_ | refine H.lw ?_ | refine H.ll ?_)); (conv => whnf))
    (refine Rel.storeXAt H (i := 2) rfl ?_; (conv => whnf); clear H; intro w H)
    ((repeat ((conv => whnf); first | refine an ?_ | ((first | refine H.nwD ?_ | refine H.nw ?_); clear H; intro w _ H) | refine H.ce ?_ | refine H.db ?_ | refine ea ?_ | refine ol ?_ | (refine H.st ?_; (conv => whnf); clear H; intro w H) | refine cT ?_ | refine cF ?_ | refine cN ?_ | refine cM ?_ | refine H.lw ?_ | refine H.ll ?_)); (conv => whnf))
    exact ⟨V1, ((0, 0, []), ⟨none, 0, 0⟩), 0, c, i, Sub.refl _, H.sx, rfl, rfl, rfl, hc0⟩
  | ok n q =>
    obtain ⟨g1, g2, g3, g4, g5⟩ := numAt_ok hp hn
    ((repeat ((conv => whnf); first | refine an ?_ | refine H.ce ?_ | refine H.db ?_ | refine ea ?_ | refine ol ?_ | (refine H.st ?_; (conv => whnf); clear H; intro w H) | refine cT ?_ | refine cF ?_ | refine cN ?_ | refine cM ?_ | refine H.lw ?_ | refine H.ll ?_)); (conv => whnf))
    ((first | refine Rel.nwD H ?_ | refine Rel.nw H ?_); clear H; intro w b8 H)
    by_cases hq : q = l.length
    · have hr : noteAt l p = .bad 15 q := by
        rw [noteAt, hn]
        simp only
        rw [List.getElem?_eq_none (by omega)]
      rw [hr]
      ((repeat ((conv => whnf); first | refine an ?_ | ((first | refine H.nwD ?_ | refine H.nw ?_); clear H; intro w _ H) | refine H.ce ?_ | refine H.db ?_ | refine ea ?_ | refine ol ?_ | (refine H.st ?_; (conv => whnf); clear H; intro w H) | refine cT ?_ | refine cF ?_ | refine cN ?_ | refine cM ?_ | refine H.lw ?_ | refine H.ll ?_)); (conv => whnf))
      refine (fault_sound H.data 15 q).use ?_
      rintro v w ⟨rfl, K⟩
      (have hKb := K.base; replace H := H.call0 K)
      ((repeat ((conv => whnf); first | refine an ?_ | ((first | refine H.nwD ?_ | refine H.nw ?_); clear H; intro w _ H) | refine H.ce ?_ | refine H.db ?_ | refine ea ?_ | refine ol ?_ | (refine H.st ?_; (conv => whnf); clear H; intro w H) | refine cT ?_ | refine cF ?_ | refine cN ?_ | refine cM ?_ | refine H.lw ?_ | refine H.ll ?_)); (conv => whnf))
      exact ⟨V1, ((0, 0, []), ⟨none, 0, 0⟩), 0, 15, q, Sub.refl _, H.sx, rfl, rfl, rfl, by decide⟩
    have hqlt : q < l.length := by omega
    obtain ⟨c1, c2⟩ := hs1.at1 (g := bv) (fun _ => rfl) hqlt
    have hxq : l[q]? = some l[q] := List.getElem?_eq_getElem hqlt
    ((repeat ((conv => whnf); first | refine an ?_ | ((first | refine H.nwD ?_ | refine H.nw ?_); clear H; intro w _ H) | refine H.ce ?_ | refine H.db ?_ | refine ea ?_ | refine ol ?_ | (refine H.st ?_; (conv => whnf); clear H; intro w H) | refine cT ?_ | refine cF ?_ | refine cN ?_ | refine cM ?_ | refine H.lw ?_ | refine H.ll ?_)); (conv => whnf))
    refine (readChunk_spec (p := q + 1) H.data hs1 hl (by omega)).use ?_
    rintro v w ⟨V2, x, ys, n2, c, i, hV2, K, rfl, hx, hres⟩
    (have hKb := K.base; replace H := H.call0 K)
    ((repeat ((conv => whnf); first | refine an ?_ | ((first | refine H.nwD ?_ | refine H.nw ?_); clear H; intro w _ H) | refine H.ce ?_ | refine H.db ?_ | refine ea ?_ | refine ol ?_ | (refine H.st ?_; (conv => whnf); clear H; intro w H) | refine cT ?_ | refine cF ?_ | refine cN ?_ | refine cM ?_ | refine H.lw ?_ | refine H.ll ?_)); (conv => whnf))
    ((first | refine draw_vcX (id := 3) tabOk mixed (Sav [b4]) (fun _ _ _ => Sav.trans) [2] [1] [0, 1, 2, 3, 4] (by kernel_rfl) ?_ | refine draw_vcX (id := 8) tabOk mixed (Sav [b4]) (fun _ _ _ => Sav.trans) [7] [6] [0, 1, 2, 3, 4, 5, 6, 7, 8, 9] (by kernel_rfl) ?_); intro w hdw; replace H := Rel.ext H hdw.ext)
    ((repeat ((conv => whnf); first | refine an ?_ | refine H.ce ?_ | refine H.db ?_ | refine ea ?_ | refine ol ?_ | fail | refine cT ?_ | refine cF ?_ | refine cN ?_ | refine cM ?_ | refine H.lw ?_ | refine H.ll ?_)); (conv => whnf))
    (refine And.intro (fun w1 hsv => ?_) ?_; focus (obtain ⟨_, H1⟩ := Rel.savAt H (i := 2) rfl rfl hsv; clear H; have H := H1; clear H1; ((repeat ((conv => whnf); first | refine an ?_ | ((first | refine H.nwD ?_ | refine H.nw ?_); clear H; intro w _ H) | refine H.ce ?_ | refine H.db ?_ | refine ea ?_ | refine ol ?_ | (refine H.st ?_; (conv => whnf); clear H; intro w H) | refine cT ?_ | refine cF ?_ | refine cN ?_ | refine cM ?_ | refine H.lw ?_ | refine H.ll ?_)); (conv => whnf)); try exact ⟨rfl, rfl⟩))
    ((repeat ((conv => whnf); first | refine an ?_ | refine H.ce ?_ | refine H.db ?_ | refine ea ?_ | refine ol ?_ | fail | refine cT ?_ | refine cF ?_ | refine cN ?_ | refine cM ?_ | refine H.lw ?_ | refine H.ll ?_)); (conv => whnf))
    (refine Rel.storeXAt H (i := 2) rfl ?_; (conv => whnf); clear H; intro w H)
    ((repeat ((conv => whnf); first | refine an ?_ | ((first | refine H.nwD ?_ | refine H.nw ?_); clear H; intro w _ H) | refine H.ce ?_ | refine H.db ?_ | refine ea ?_ | refine ol ?_ | (refine H.st ?_; (conv => whnf); clear H; intro w H) | refine cT ?_ | refine cF ?_ | refine cN ?_ | refine cM ?_ | refine H.lw ?_ | refine H.ll ?_)); (conv => whnf))
    refine ⟨V2, ((n, l[q], ys), x), n2, c, i, hV2, H.sx, rfl, ?_⟩
    rw [noteAt, hn]
    simp only
    rw [hxq]
    simp only
    cases hch : chunkAt l (q + 1) with
    | bad c' i' =>
      rw [hch] at hres
      exact hres
    | ok d r =>
      rw [hch] at hres
      obtain ⟨e1, e2, e3, e4⟩ := hres
      subst e4
      exact ⟨e1, e2, e3, rfl, hx⟩
theorem noteAt_in {l : List UInt8} : ∀ q x q', q ≤ l.length → noteAt l q = .ok x q' → q' ≤ l.length := fun q x q' hq h => (noteAt_ok hq h).2.1
theorem residue_spec (hV : Sub V W) {coding : Nat} (hc : coding < 4) {s : Sl} {ns : List Note} (hs : Nts V s ns) (hl : ns.length ≤ 1000) (hb : ∀ n ∈ ns, I64 n.1 ∧ n.2.2.length ≤ 65535) :
    Ret Try.prog 44 [iv coding, s.v].toArray W fun v w' => ∃ r : Sl, v = r.v ∧ Rel W V [.row r 5 1 ((sndRes coding ns).flatMap byC)] V w' := by
  have H := Rel.start hV
  obtain ⟨ps, hps, hpw⟩ := hs
  have hpm := hpw.ntFst
  have hplen := hpw.len
  have hslen := hps.len
  have hn := putN_len (n := (coding : Int)) (by omega) (by omega)
  have hput : putL (fun p : NtP => noteB p.1) ps = putL noteB ns := by
    rw [← hpm]
    simp only [putL, List.length_map, List.flatMap_map]
  have hpl : (putL noteB ns).length ≤ 70000000 := by
    have := putL_len (f := noteB) (m := 65600) (l := ns) (by omega) fun x hx => by
      obtain ⟨⟨a, b⟩, c⟩ := hb x hx
      have h1 := putN_len a b
      have h2 := putC_len (b := x.2.2) (by omega)
      simp only [noteB, List.length_append, List.length_cons]
      omega
    have h3 := Nat.mul_le_mul_right 65600 hl
    omega
  refine cal_of_vc tabOk Try.func44 rfl (by kernel_rfl) 17 rfl (by simp) [0, 1, 4, 11] ?_
  by_cases h1 : coding = 1
  · subst h1
    have hn1 := putN_len (n := 1) (by omega) (by omega)
    by_cases h2 : ns.length = 0
    · have hn0 : ns = [] := List.eq_nil_of_length_eq_zero h2
      have e : sndRes 1 ns = [] := by rw [sndRes, if_pos ⟨rfl, hn0⟩]
      rw [e]
      ((repeat ((conv => whnf); first | refine an ?_ | ((first | refine H.nwD ?_ | refine H.nw ?_); clear H; intro w _ H) | refine H.ce ?_ | refine H.db ?_ | refine ea ?_ | refine ol ?_ | (refine H.st ?_; (conv => whnf); clear H; intro w H) | refine cT ?_ | refine cF ?_ | refine cN ?_ | refine cM ?_ | refine H.lw ?_ | refine H.ll ?_)); (conv => whnf))
      exact ⟨⟨none, 0, 0⟩, rfl, H.rowNil _ _⟩
    have e : sndRes 1 ns = putN 1 ++ putL noteB ns := by
      rw [sndRes, if_neg]
      · rfl
      · rintro ⟨_, h⟩
        rw [h] at h2
        exact h2 rfl
    rw [e]
    ((repeat ((conv => whnf); first | refine an ?_ | ((first | refine H.nwD ?_ | refine H.nw ?_); clear H; intro w _ H) | refine H.ce ?_ | refine H.db ?_ | refine ea ?_ | refine ol ?_ | (refine H.st ?_; (conv => whnf); clear H; intro w H) | refine cT ?_ | refine cF ?_ | refine cN ?_ | refine cM ?_ | refine H.lw ?_ | refine H.ll ?_)); (conv => whnf))
    refine (number_spec (n := 1) H.data (by constructor <;> omega)).use ?_
    rintro v w ⟨r1, rfl, K⟩
    (have hKb := K.base; replace H := Rel.call H K)
    simp only [List.append_nil] at H
    ((repeat ((conv => whnf); first | refine an ?_ | ((first | refine H.nwD ?_ | refine H.nw ?_); clear H; intro w _ H) | refine H.ce ?_ | refine H.db ?_ | refine ea ?_ | refine ol ?_ | (refine H.st ?_; (conv => whnf); clear H; intro w H) | refine cT ?_ | refine cF ?_ | refine cN ?_ | refine cM ?_ | refine H.lw ?_ | refine H.ll ?_)); (conv => whnf))
    refine (slice_notes (l := ps) (enc := fun p : NtP => noteB p.1) H.data hps (fun p hp => ?_) (by omega) (by rw [hput]; omega)).use ?_
    · obtain ⟨i, hi, rfl⟩ := List.getElem_of_mem hp
      have hin : i < ns.length := by omega
      have := hpw.all i _ _ (List.getElem?_eq_getElem hi) (List.getElem?_eq_getElem hin)
      obtain ⟨a, b⟩ := hb ps[i].1 (by rw [this.1]; exact List.getElem_mem hin)
      exact note_one _ a (by omega) this.2
    rintro v w ⟨r2, rfl, K⟩
    (have hKb := K.base; replace H := Rel.call H K)
    simp only [List.cons_append, List.nil_append] at H
    ((repeat ((conv => whnf); first | refine an ?_ | ((first | refine H.nwD ?_ | refine H.nw ?_); clear H; intro w _ H) | refine H.ce ?_ | refine H.db ?_ | refine ea ?_ | refine ol ?_ | (refine H.st ?_; (conv => whnf); clear H; intro w H) | refine cT ?_ | refine cF ?_ | refine cN ?_ | refine cM ?_ | refine H.lw ?_ | refine H.ll ?_)); (conv => whnf))
    refine Rel.appB H (i := 0) rfl (by rw [hput]; omega) ?_
    clear H
    intro rn w H
    rw [hput] at H
    ((repeat ((conv => whnf); first | refine an ?_ | ((first | refine H.nwD ?_ | refine H.nw ?_); clear H; intro w _ H) | refine H.ce ?_ | refine H.db ?_ | refine ea ?_ | refine ol ?_ | (refine H.st ?_; (conv => whnf); clear H; intro w H) | refine cT ?_ | refine cF ?_ | refine cN ?_ | refine cM ?_ | refine H.lw ?_ | refine H.ll ?_)); (conv => whnf))
    exact ⟨rn, rfl, H⟩
  · have e : sndRes coding ns = putN coding ++ putL noteB ns := by
      rw [sndRes, if_neg]
      rintro ⟨h, _⟩
      exact h1 h
    rw [e]
    ((repeat ((conv => whnf); first | refine an ?_ | ((first | refine H.nwD ?_ | refine H.nw ?_); clear H; intro w _ H) | refine H.ce ?_ | refine H.db ?_ | refine ea ?_ | refine ol ?_ | (refine H.st ?_; (conv => whnf); clear H; intro w H) | refine cT ?_ | refine cF ?_ | refine cN ?_ | refine cM ?_ | refine H.lw ?_ | refine H.ll ?_)); (conv => whnf))
    refine (number_spec (n := (coding : Int)) H.data (by constructor <;> omega)).use ?_
    rintro v w ⟨r1, rfl, K⟩
    (have hKb := K.base; replace H := Rel.call H K)
    simp only [List.append_nil] at H
    ((repeat ((conv => whnf); first | refine an ?_ | ((first | refine H.nwD ?_ | refine H.nw ?_); clear H; intro w _ H) | refine H.ce ?_ | refine H.db ?_ | refine ea ?_ | refine ol ?_ | (refine H.st ?_; (conv => whnf); clear H; intro w H) | refine cT ?_ | refine cF ?_ | refine cN ?_ | refine cM ?_ | refine H.lw ?_ | refine H.ll ?_)); (conv => whnf))
    refine (slice_notes (l := ps) (enc := fun p : NtP => noteB p.1) H.data hps (fun p hp => ?_) (by omega) (by rw [hput]; omega)).use ?_
    · obtain ⟨i, hi, rfl⟩ := List.getElem_of_mem hp
      have hin : i < ns.length := by omega
      have := hpw.all i _ _ (List.getElem?_eq_getElem hi) (List.getElem?_eq_getElem hin)
      obtain ⟨a, b⟩ := hb ps[i].1 (by rw [this.1]; exact List.getElem_mem hin)
      exact note_one _ a (by omega) this.2
    rintro v w ⟨r2, rfl, K⟩
    (have hKb := K.base; replace H := Rel.call H K)
    simp only [List.cons_append, List.nil_append] at H
    ((repeat ((conv => whnf); first | refine an ?_ | ((first | refine H.nwD ?_ | refine H.nw ?_); clear H; intro w _ H) | refine H.ce ?_ | refine H.db ?_ | refine ea ?_ | refine ol ?_ | (refine H.st ?_; (conv => whnf); clear H; intro w H) | refine cT ?_ | refine cF ?_ | refine cN ?_ | refine cM ?_ | refine H.lw ?_ | refine H.ll ?_)); (conv => whnf))
    refine Rel.appB H (i := 0) rfl (by rw [hput]; omega) ?_
    clear H
    intro rn w H
    rw [hput] at H
    ((repeat ((conv => whnf); first | refine an ?_ | ((first | refine H.nwD ?_ | refine H.nw ?_); clear H; intro w _ H) | refine H.ce ?_ | refine H.db ?_ | refine ea ?_ | refine ol ?_ | (refine H.st ?_; (conv => whnf); clear H; intro w H) | refine cT ?_ | refine cF ?_ | refine cN ?_ | refine cM ?_ | refine H.lw ?_ | refine H.ll ?_)); (conv => whnf))
    exact ⟨rn, rfl, H⟩
theorem isFD_nat (c : Chk) : isFD c = true ↔ c.1.toNat = 70 ∨ c.1.toNat = 68 := by
  have h1 : c.1 = 70 ↔ c.1.toNat = 70 := ⟨fun h => by rw [h]; rfl, fun h => UInt8.toNat_inj.1 (by rw [h]; rfl)⟩
  have h2 : c.1 = 68 ↔ c.1.toNat = 68 := ⟨fun h => by rw [h]; rfl, fun h => UInt8.toNat_inj.1 (by rw [h]; rfl)⟩
  simp only [isFD, Bool.or_eq_true, beq_iff_eq, h1, h2]
theorem manyAt_len {α : Type} {one : Nat → Got α} : ∀ {n p q : Nat} {l : List α}, manyAt one n p = .ok l q → l.length = n
  | 0, p, q, l, h => by
    simp only [manyAt] at h
    cases h
    rfl
  | n + 1, p, q, l, h => by
    simp only [manyAt] at h
    split at h
    · cases h
    · split at h
      · cases h
      · rename_i h2
        cases h
        simp [manyAt_len h2]
theorem listAt_len {α : Type} {l : List UInt8} {one : Nat → Got α} {m : Int} {p q : Nat} {ys : List α} (h : listAt l one m p = .ok ys q) : (ys.length : Int) ≤ m := by
  unfold listAt at h
  split at h
  · cases h
  · split at h
    · cases h
    · have := manyAt_len h
      omega
/-- what readResidue returns -/
structure RdR (W V : World) (res : Option (Nat × List Note)) (v : Value) (w' : World) : Prop where
  ex : ∃ (V' : World) (r : Sl), Sub V V' ∧ Rel W V [] V' w' ∧ (match res with
    | none => v = .tuple #[iv 0, .slice none 0 0, .bool false]
    | some (c, ns) => v = .tuple #[iv c, r.v, .bool true] ∧ Nts V' r ns)
set_option maxRecDepth 100000 in
set_option maxHeartbeats 1000000 in
theorem readResidue_spec (hV : Sub V W) {s : Sl} {b : List UInt8} (hs : Byt V s b) (hl : b.length ≤ 1099511627776) : Ret Try.prog 51 [s.v].toArray W (RdR W V (sndRd b)) := by
  have H := Rel.start hV
  have hlen := hs.len
  refine cal_of_vc tabOk Try.func51 rfl (by kernel_rfl) 104 rfl (by simp) [0, 2, 3, 4, 5, 6, 7, 8, 9, 11, 14, 31, 56, 57, 58, 59, 60, 98] ?_
  by_cases h0 : b.length = 0
  · have hb : b = [] := List.eq_nil_of_length_eq_zero h0
    have e : sndRd b = some (1, []) := by rw [sndRd, if_pos hb]
    rw [e]
    ((repeat ((conv => whnf); first | refine an ?_ | ((first | refine H.nwD ?_ | refine H.nw ?_); clear H; intro w _ H) | refine H.ce ?_ | refine H.db ?_ | refine ea ?_ | refine ol ?_ | (refine H.st ?_; (conv => whnf); clear H; intro w H) | refine cT ?_ | refine cF ?_ | refine cN ?_ | refine cM ?_ | refine H.lw ?_ | refine H.ll ?_)); (conv => whnf))
    exact ⟨V, ⟨none, 0, 0⟩, Sub.refl _, H.sx, rfl, Nts.nil _⟩
  have hb : b ≠ [] := fun h => h0 (by rw [h]; rfl)
  ((repeat ((conv => whnf); first | refine an ?_ | ((first | refine H.nwD ?_ | refine H.nw ?_); clear H; intro w _ H) | refine H.ce ?_ | refine H.db ?_ | refine ea ?_ | refine ol ?_ | (refine H.st ?_; (conv => whnf); clear H; intro w H) | refine cT ?_ | refine cF ?_ | refine cN ?_ | refine cM ?_ | refine H.lw ?_ | refine H.ll ?_)); (conv => whnf))
  refine (readNumber_spec (p := 0) H.data hs hl (Nat.zero_le _)).use ?_
  rintro v w ⟨rfl, K⟩
  (have hKb := K.base; replace H := H.call0 K)
  cases hn : numAt b 0 with
  | bad c i =>
    have hc0 := numAt_ne hn
    have hr : sndRd b = none := by rw [sndRd, if_neg hb, hn]
    rw [hr]
    ((repeat ((conv => whnf); first | refine an ?_ | refine H.ce ?_ | refine H.db ?_ | refine ea ?_ | refine ol ?_ | (refine H.st ?_; (conv => whnf); clear H; intro w H) | refine cT ?_ | refine cF ?_ | refine cN ?_ | refine cM ?_ | refine H.lw ?_ | refine H.ll ?_)); (conv => whnf))
    ((first | refine Rel.nwD H ?_ | refine Rel.nw H ?_); clear H; intro w b7 H)
    ((repeat ((conv => whnf); first | refine an ?_ | ((first | refine H.nwD ?_ | refine H.nw ?_); clear H; intro w _ H) | refine H.ce ?_ | refine H.db ?_ | refine ea ?_ | refine ol ?_ | (refine H.st ?_; (conv => whnf); clear H; intro w H) | refine cT ?_ | refine cF ?_ | refine cN ?_ | refine cM ?_ | refine H.lw ?_ | refine H.ll ?_)); (conv => whnf))
    exact ⟨V, ⟨none, 0, 0⟩, Sub.refl _, H.sx, rfl⟩
  | ok c q =>
    obtain ⟨g1, g2, g3, g4, g5⟩ := numAt_ok (Nat.zero_le _) hn
    ((repeat ((conv => whnf); first | refine an ?_ | refine H.ce ?_ | refine H.db ?_ | refine ea ?_ | refine ol ?_ | (refine H.st ?_; (conv => whnf); clear H; intro w H) | refine cT ?_ | refine cF ?_ | refine cN ?_ | refine cM ?_ | refine H.lw ?_ | refine H.ll ?_)); (conv => whnf))
    ((first | refine Rel.nwD H ?_ | refine Rel.nw H ?_); clear H; intro w b7 H)
    by_cases hc : c < 0 ∨ 4 ≤ c
    · have hr : sndRd b = none := by
        rw [sndRd, if_neg hb, hn]
        simp only
        rw [if_pos hc]
      rw [hr]
      by_cases hcn : c < 0
      all_goals
        ((repeat ((conv => whnf); first | refine an ?_ | ((first | refine H.nwD ?_ | refine H.nw ?_); clear H; intro w _ H) | refine H.ce ?_ | refine H.db ?_ | refine ea ?_ | refine ol ?_ | (refine H.st ?_; (conv => whnf); clear H; intro w H) | refine cT ?_ | refine cF ?_ | refine cN ?_ | refine cM ?_ | refine H.lw ?_ | refine H.ll ?_)); (conv => whnf))
        exact ⟨V, ⟨none, 0, 0⟩, Sub.refl _, H.sx, rfl⟩
    have hr0 : sndRd b = (match listAt b (noteAt b) 1000 q with
      | .bad _ _ => none
      | .ok ns q => if q ≠ b.length ∨ (c = 1 ∧ ns = []) then none else if notesOk ns.length (-1) ns = true then some (c.toNat, ns) else none) := by
      rw [sndRd, if_neg hb, hn]
      simp only
      rw [if_neg hc]
      rfl
    obtain ⟨C, rfl⟩ : ∃ C : Nat, c = C := ⟨c.toNat, by omega⟩
    ((repeat ((conv => whnf); first | refine an ?_ | ((first | refine H.nwD ?_ | refine H.nw ?_); clear H; intro w _ H) | refine H.ce ?_ | refine H.db ?_ | refine ea ?_ | refine ol ?_ | (refine H.st ?_; (conv => whnf); clear H; intro w H) | refine cT ?_ | refine cF ?_ | refine cN ?_ | refine cM ?_ | refine H.lw ?_ | refine H.ll ?_)); (conv => whnf))
    refine (readSlice_notes (m := 1000) H.data hs hl g2 (by constructor <;> omega) (fun q hq => readNote_spec hs hl hq) noteAt_in).use ?_
    rintro v w ⟨V2, x, n, c, i, hV2, K, rfl, hres⟩
    (have hKb := K.base; replace H := H.call0 K)
    cases hli : listAt b (noteAt b) 1000 q with
    | bad c' i' =>
      rw [hli] at hres hr0
      obtain ⟨rfl, rfl, hc0⟩ := hres
      rw [hr0]
      ((repeat ((conv => whnf); first | refine an ?_ | ((first | refine H.nwD ?_ | refine H.nw ?_); clear H; intro w _ H) | refine H.ce ?_ | refine H.db ?_ | refine ea ?_ | refine ol ?_ | (refine H.st ?_; (conv => whnf); clear H; intro w H) | refine cT ?_ | refine cF ?_ | refine cN ?_ | refine cM ?_ | refine H.lw ?_ | refine H.ll ?_)); (conv => whnf))
      exact ⟨V2, ⟨none, 0, 0⟩, hV2, H.sx, rfl⟩
    | ok ns q' =>
      rw [hli] at hres hr0
      obtain ⟨rfl, rfl, rfl, hns⟩ := hres
      obtain ⟨ps, hps, hpw⟩ := hns
      have hplen := hpw.len
      have hxl := hps.len
      have hn1000 := listAt_len hli
      simp only at hr0
      by_cases hbad : q' ≠ b.length ∨ (C = 1 ∧ ns = [])
      · rw [if_pos (hbad.imp id fun h => ⟨by omega, h.2⟩)] at hr0
        rw [hr0]
        by_cases hq : q' = b.length
        · have h2 : C = 1 ∧ ns = [] := hbad.resolve_left fun h => h hq
          have h3 : ns.length = 0 := by rw [h2.2]; rfl
          obtain ⟨rfl, _⟩ := h2
          ((repeat ((conv => whnf); first | refine an ?_ | ((first | refine H.nwD ?_ | refine H.nw ?_); clear H; intro w _ H) | refine H.ce ?_ | refine H.db ?_ | refine ea ?_ | refine ol ?_ | (refine H.st ?_; (conv => whnf); clear H; intro w H) | refine cT ?_ | refine cF ?_ | refine cN ?_ | refine cM ?_ | refine H.lw ?_ | refine H.ll ?_)); (conv => whnf))
          exact ⟨V2, ⟨none, 0, 0⟩, hV2, H.sx, rfl⟩
        · ((repeat ((conv => whnf); first | refine an ?_ | ((first | refine H.nwD ?_ | refine H.nw ?_); clear H; intro w _ H) | refine H.ce ?_ | refine H.db ?_ | refine ea ?_ | refine ol ?_ | (refine H.st ?_; (conv => whnf); clear H; intro w H) | refine cT ?_ | refine cF ?_ | refine cN ?_ | refine cM ?_ | refine H.lw ?_ | refine H.ll ?_)); (conv => whnf))
          exact ⟨V2, ⟨none, 0, 0⟩, hV2, H.sx, rfl⟩
      rw [if_neg (fun h => hbad (h.imp id fun h => ⟨by omega, h.2⟩))] at hr0
      have hq : q' = b.length := Decidable.byContradiction fun h => hbad (.inl h)
      have hnn : C = 1 → ns.length ≠ 0 := fun h h2 => hbad (.inr ⟨h, List.eq_nil_of_length_eq_zero h2⟩)
      by_cases hC : C = 1
      · subst hC
        have hnn1 := hnn rfl
        ((repeat ((conv => whnf); first | refine an ?_ | ((first | refine H.nwD ?_ | refine H.nw ?_); clear H; intro w _ H) | refine H.ce ?_ | refine H.db ?_ | refine ea ?_ | refine ol ?_ | (refine H.st ?_; (conv => whnf); clear H; intro w H) | refine cT ?_ | refine cF ?_ | refine cN ?_ | refine cM ?_ | refine H.lw ?_ | refine H.ll ?_)); (conv => whnf))
        refine loop_inv (S := Nat × Int) tabOk [0, 5, 6, 7, 8, 14, 31, 56, 57, 58] (fun k => [(9, iv k.2), (59, iv k.1)]) (fun k w' => k.1 ≤ ns.length ∧ notesOk ns.length (-1) (ns.take k.1) = true ∧ k.2 = lastOf (-1) (ns.take k.1) ∧ Rel W V [.blk b7 [iv 0, iv 0] 29] V2 w') (fun k _ => ns.length - k.1) (0, -1) ?_
        (conv => whnf)
        refine ⟨(by repeat (first | exact trivial | refine ⟨rfl, ?_⟩)), ⟨by omega, rfl, rfl, H.sx⟩, ?_⟩
        clear H
        rintro ⟨k, last⟩ w ⟨hk, hok, hla, H⟩
        dsimp only at hk hok hla H
        by_cases hlt : k < ns.length
        rotate_left
        · rw [List.take_of_length_le (by omega)] at hok
          rw [if_pos hok, Int.toNat_natCast] at hr0
          rw [hr0]
          ((repeat ((conv => whnf); first | refine an ?_ | ((first | refine H.nwD ?_ | refine H.nw ?_); clear H; intro w _ H) | refine H.ce ?_ | refine H.db ?_ | refine ea ?_ | refine ol ?_ | (refine H.st ?_; (conv => whnf); clear H; intro w H) | refine cT ?_ | refine cF ?_ | refine cN ?_ | refine cM ?_ | refine H.lw ?_ | refine H.ll ?_)); (conv => whnf))
          exact ⟨V2, x, hV2, H.sx, rfl, ps, hps, hpw⟩
        have hlt' : k < ps.length := by omega
        obtain ⟨hp, hq1, hq2, hq3⟩ := hps.at3 (g := fun p : NtP => bv p.1.2.1) (g' := fun p : NtP => p.2.v) (g'' := fun p : NtP => iv p.1.1) (fun _ => rfl) hlt'
        have hpe := (hpw.all k _ _ (List.getElem?_eq_getElem hlt') (List.getElem?_eq_getElem hlt)).1
        generalize ps[k] = p at hq1 hq2 hq3 hpe
        have hfd := isFD_nat p.1.2
        have hbyte : p.1.2.1.toNat < 256 := UInt8.toNat_lt _
        by_cases hnk : NoteOk ns.length last p.1
        · obtain ⟨n1, n2, n3, n4, n5⟩ := hnk
          have n3' : ¬ (p.1.2.1.toNat = 70 ∨ p.1.2.1.toNat = 68) := fun h => by rw [hfd.2 h] at n3; cases n3
          have q7 : ¬ ((x.len : Nat) : Int) + 2 ≤ p.1.1 := by omega
          clear hfd
          ((repeat ((conv => whnf); first | refine an ?_ | ((first | refine H.nwD ?_ | refine H.nw ?_); clear H; intro w _ H) | refine H.ce ?_ | refine H.db ?_ | refine ea ?_ | refine ol ?_ | (refine H.st ?_; (conv => whnf); clear H; intro w H) | refine cT ?_ | refine cF ?_ | refine cN ?_ | refine cM ?_ | refine H.lw ?_ | refine H.ll ?_)); (conv => whnf))
          refine ⟨(by repeat (first | exact trivial | refine ⟨rfl, ?_⟩)), (k + 1, p.1.1), (by repeat (first | exact trivial | refine ⟨rfl, ?_⟩)), ⟨by dsimp only; omega, ?_, ?_, H.sx⟩, by dsimp only; omega⟩
          · dsimp only
            rw [List.take_succ_eq_append_getElem hlt, notesOk_snoc, hok, ← hla, ← hpe, decide_eq_true ⟨n1, n2, n3, n4, n5⟩]
            rfl
          · dsimp only
            rw [List.take_succ_eq_append_getElem hlt, lastOf_snoc, hpe]
        · have hno : notesOk ns.length (-1) ns = false := notesOk_false hlt (by rw [← hla, ← hpe]; exact hnk)
          rw [hno, if_neg (by decide)] at hr0
          rw [hr0]
          by_cases q1 : p.1.2.1.toNat < 65
          · ((repeat ((conv => whnf); first | refine an ?_ | ((first | refine H.nwD ?_ | refine H.nw ?_); clear H; intro w _ H) | refine H.ce ?_ | refine H.db ?_ | refine ea ?_ | refine ol ?_ | (refine H.st ?_; (conv => whnf); clear H; intro w H) | refine cT ?_ | refine cF ?_ | refine cN ?_ | refine cM ?_ | refine H.lw ?_ | refine H.ll ?_)); (conv => whnf))
            exact ⟨V2, ⟨none, 0, 0⟩, hV2, H.sx, rfl⟩
          by_cases q2 : 90 < p.1.2.1.toNat
          · ((repeat ((conv => whnf); first | refine an ?_ | ((first | refine H.nwD ?_ | refine H.nw ?_); clear H; intro w _ H) | refine H.ce ?_ | refine H.db ?_ | refine ea ?_ | refine ol ?_ | (refine H.st ?_; (conv => whnf); clear H; intro w H) | refine cT ?_ | refine cF ?_ | refine cN ?_ | refine cM ?_ | refine H.lw ?_ | refine H.ll ?_)); (conv => whnf))
            exact ⟨V2, ⟨none, 0, 0⟩, hV2, H.sx, rfl⟩
          by_cases q3 : p.1.2.1.toNat = 70
          · ((repeat ((conv => whnf); first | refine an ?_ | ((first | refine H.nwD ?_ | refine H.nw ?_); clear H; intro w _ H) | refine H.ce ?_ | refine H.db ?_ | refine ea ?_ | refine ol ?_ | (refine H.st ?_; (conv => whnf); clear H; intro w H) | refine cT ?_ | refine cF ?_ | refine cN ?_ | refine cM ?_ | refine H.lw ?_ | refine H.ll ?_)); (conv => whnf))
            exact ⟨V2, ⟨none, 0, 0⟩, hV2, H.sx, rfl⟩
          by_cases q4 : p.1.2.1.toNat = 68
          · ((repeat ((conv => whnf); first | refine an ?_ | ((first | refine H.nwD ?_ | refine H.nw ?_); clear H; intro w _ H) | refine H.ce ?_ | refine H.db ?_ | refine ea ?_ | refine ol ?_ | (refine H.st ?_; (conv => whnf); clear H; intro w H) | refine cT ?_ | refine cF ?_ | refine cN ?_ | refine cM ?_ | refine H.lw ?_ | refine H.ll ?_)); (conv => whnf))
            exact ⟨V2, ⟨none, 0, 0⟩, hV2, H.sx, rfl⟩
          by_cases q5 : p.1.1 ≤ last
          · ((repeat ((conv => whnf); first | refine an ?_ | ((first | refine H.nwD ?_ | refine H.nw ?_); clear H; intro w _ H) | refine H.ce ?_ | refine H.db ?_ | refine ea ?_ | refine ol ?_ | (refine H.st ?_; (conv => whnf); clear H; intro w H) | refine cT ?_ | refine cF ?_ | refine cN ?_ | refine cM ?_ | refine H.lw ?_ | refine H.ll ?_)); (conv => whnf))
            exact ⟨V2, ⟨none, 0, 0⟩, hV2, H.sx, rfl⟩
          have q6 : (ns.length : Int) + 2 ≤ p.1.1 := Decidable.byContradiction fun h => hnk ⟨by omega, by omega, by
            cases hf : isFD p.1.2 with
            | false => rfl
            | true => exact absurd (hfd.1 hf) (by omega), by omega, by omega⟩
          have q7 : ((x.len : Nat) : Int) + 2 ≤ p.1.1 := by omega
          clear hfd hnk
          ((repeat ((conv => whnf); first | refine an ?_ | ((first | refine H.nwD ?_ | refine H.nw ?_); clear H; intro w _ H) | refine H.ce ?_ | refine H.db ?_ | refine ea ?_ | refine ol ?_ | (refine H.st ?_; (conv => whnf); clear H; intro w H) | refine cT ?_ | refine cF ?_ | refine cN ?_ | refine cM ?_ | refine H.lw ?_ | refine H.ll ?_)); (conv => whnf))
          exact ⟨V2, ⟨none, 0, 0⟩, hV2, H.sx, rfl⟩
      · ((repeat ((conv => whnf); first | refine an ?_ | ((first | refine H.nwD ?_ | refine H.nw ?_); clear H; intro w _ H) | refine H.ce ?_ | refine H.db ?_ | refine ea ?_ | refine ol ?_ | (refine H.st ?_; (conv => whnf); clear H; intro w H) | refine cT ?_ | refine cF ?_ | refine cN ?_ | refine cM ?_ | refine H.lw ?_ | refine H.ll ?_)); (conv => whnf))
        refine loop_inv (S := Nat × Int) tabOk [0, 5, 6, 7, 8, 14, 31, 56, 57, 58] (fun k => [(9, iv k.2), (59, iv k.1)]) (fun k w' => k.1 ≤ ns.length ∧ notesOk ns.length (-1) (ns.take k.1) = true ∧ k.2 = lastOf (-1) (ns.take k.1) ∧ Rel W V [.blk b7 [iv 0, iv 0] 29] V2 w') (fun k _ => ns.length - k.1) (0, -1) ?_
        (conv => whnf)
        refine ⟨(by repeat (first | exact trivial | refine ⟨rfl, ?_⟩)), ⟨by omega, rfl, rfl, H.sx⟩, ?_⟩
        clear H
        rintro ⟨k, last⟩ w ⟨hk, hok, hla, H⟩
        dsimp only at hk hok hla H
        by_cases hlt : k < ns.length
        rotate_left
        · rw [List.take_of_length_le (by omega)] at hok
          rw [if_pos hok, Int.toNat_natCast] at hr0
          rw [hr0]
          ((repeat ((conv => whnf); first | refine an ?_ | ((first | refine H.nwD ?_ | refine H.nw ?_); clear H; intro w _ H) | refine H.ce ?_ | refine H.db ?_ | refine ea ?_ | refine ol ?_ | (refine H.st ?_; (conv => whnf); clear H; intro w H) | refine cT ?_ | refine cF ?_ | refine cN ?_ | refine cM ?_ | refine H.lw ?_ | refine H.ll ?_)); (conv => whnf))
          exact ⟨V2, x, hV2, H.sx, rfl, ps, hps, hpw⟩
        have hlt' : k < ps.length := by omega
        obtain ⟨hp, hq1, hq2, hq3⟩ := hps.at3 (g := fun p : NtP => bv p.1.2.1) (g' := fun p : NtP => p.2.v) (g'' := fun p : NtP => iv p.1.1) (fun _ => rfl) hlt'
        have hpe := (hpw.all k _ _ (List.getElem?_eq_getElem hlt') (List.getElem?_eq_getElem hlt)).1
        generalize ps[k] = p at hq1 hq2 hq3 hpe
        have hfd := isFD_nat p.1.2
        have hbyte : p.1.2.1.toNat < 256 := UInt8.toNat_lt _
        by_cases hnk : NoteOk ns.length last p.1
        · obtain ⟨n1, n2, n3, n4, n5⟩ := hnk
          have n3' : ¬ (p.1.2.1.toNat = 70 ∨ p.1.2.1.toNat = 68) := fun h => by rw [hfd.2 h] at n3; cases n3
          have q7 : ¬ ((x.len : Nat) : Int) + 2 ≤ p.1.1 := by omega
          clear hfd
          ((repeat ((conv => whnf); first | refine an ?_ | ((first | refine H.nwD ?_ | refine H.nw ?_); clear H; intro w _ H) | refine H.ce ?_ | refine H.db ?_ | refine ea ?_ | refine ol ?_ | (refine H.st ?_; (conv => whnf); clear H; intro w H) | refine cT ?_ | refine cF ?_ | refine cN ?_ | refine cM ?_ | refine H.lw ?_ | refine H.ll ?_)); (conv => whnf))
          refine ⟨(by repeat (first | exact trivial | refine ⟨rfl, ?_⟩)), (k + 1, p.1.1), (by repeat (first | exact trivial | refine ⟨rfl, ?_⟩)), ⟨by dsimp only; omega, ?_, ?_, H.sx⟩, by dsimp only; omega⟩
          · dsimp only
            rw [List.take_succ_eq_append_getElem hlt, notesOk_snoc, hok, ← hla, ← hpe, decide_eq_true ⟨n1, n2, n3, n4, n5⟩]
            rfl
          · dsimp only
            rw [List.take_succ_eq_append_getElem hlt, lastOf_snoc, hpe]
        · have hno : notesOk ns.length (-1) ns = false := notesOk_false hlt (by rw [← hla, ← hpe]; exact hnk)
          rw [hno, if_neg (by decide)] at hr0
          rw [hr0]
          by_cases q1 : p.1.2.1.toNat < 65
          · ((repeat ((conv => whnf); first | refine an ?_ | ((first | refine H.nwD ?_ | refine H.nw ?_); clear H; intro w _ H) | refine H.ce ?_ | refine H.db ?_ | refine ea ?_ | refine ol ?_ | (refine H.st ?_; (conv => whnf); clear H; intro w H) | refine cT ?_ | refine cF ?_ | refine cN ?_ | refine cM ?_ | refine H.lw ?_ | refine H.ll ?_)); (conv => whnf))
            exact ⟨V2, ⟨none, 0, 0⟩, hV2, H.sx, rfl⟩
          by_cases q2 : 90 < p.1.2.1.toNat
          · ((repeat ((conv => whnf); first | refine an ?_ | ((first | refine H.nwD ?_ | refine H.nw ?_); clear H; intro w _ H) | refine H.ce ?_ | refine H.db ?_ | refine ea ?_ | refine ol ?_ | (refine H.st ?_; (conv => whnf); clear H; intro w H) | refine cT ?_ | refine cF ?_ | refine cN ?_ | refine cM ?_ | refine H.lw ?_ | refine H.ll ?_)); (conv => whnf))
            exact ⟨V2, ⟨none, 0, 0⟩, hV2, H.sx, rfl⟩
          by_cases q3 : p.1.2.1.toNat = 70
          · ((repeat ((conv => whnf); first | refine an ?_ | ((first | refine H.nwD ?_ | refine H.nw ?_); clear H; intro w _ H) | refine H.ce ?_ | refine H.db ?_ | refine ea ?_ | refine ol ?_ | (refine H.st ?_; (conv => whnf); clear H; intro w H) | refine cT ?_ | refine cF ?_ | refine cN ?_ | refine cM ?_ | refine H.lw ?_ | refine H.ll ?_)); (conv => whnf))
            exact ⟨V2, ⟨none, 0, 0⟩, hV2, H.sx, rfl⟩
          by_cases q4 : p.1.2.1.toNat = 68
          · ((repeat ((conv => whnf); first | refine an ?_ | ((first | refine H.nwD ?_ | refine H.nw ?_); clear H; intro w _ H) | refine H.ce ?_ | refine H.db ?_ | refine ea ?_ | refine ol ?_ | (refine H.st ?_; (conv => whnf); clear H; intro w H) | refine cT ?_ | refine cF ?_ | refine cN ?_ | refine cM ?_ | refine H.lw ?_ | refine H.ll ?_)); (conv => whnf))
            exact ⟨V2, ⟨none, 0, 0⟩, hV2, H.sx, rfl⟩
          by_cases q5 : p.1.1 ≤ last
          · ((repeat ((conv => whnf); first | refine an ?_ | ((first | refine H.nwD ?_ | refine H.nw ?_); clear H; intro w _ H) | refine H.ce ?_ | refine H.db ?_ | refine ea ?_ | refine ol ?_ | (refine H.st ?_; (conv => whnf); clear H; intro w H) | refine cT ?_ | refine cF ?_ | refine cN ?_ | refine cM ?_ | refine H.lw ?_ | refine H.ll ?_)); (conv => whnf))
            exact ⟨V2, ⟨none, 0, 0⟩, hV2, H.sx, rfl⟩
          have q6 : (ns.length : Int) + 2 ≤ p.1.1 := Decidable.byContradiction fun h => hnk ⟨by omega, by omega, by
            cases hf : isFD p.1.2 with
            | false => rfl
            | true => exact absurd (hfd.1 hf) (by omega), by omega, by omega⟩
          have q7 : ((x.len : Nat) : Int) + 2 ≤ p.1.1 := by omega
          clear hfd hnk
          ((repeat ((conv => whnf); first | refine an ?_ | ((first | refine H.nwD ?_ | refine H.nw ?_); clear H; intro w _ H) | refine H.ce ?_ | refine H.db ?_ | refine ea ?_ | refine ol ?_ | (refine H.st ?_; (conv => whnf); clear H; intro w H) | refine cT ?_ | refine cF ?_ | refine cN ?_ | refine cM ?_ | refine H.lw ?_ | refine H.ll ?_)); (conv => whnf))
          exact ⟨V2, ⟨none, 0, 0⟩, hV2, H.sx, rfl⟩
end
end Go.Proofs.Ytjfcpnlacodjjaa
