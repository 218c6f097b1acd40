/-
  The chunks of a sound file.
-/
import Derived.Test.YtjfcpnlacodjjaaSndP
import Derived.Test.YtjfcpnlacodjjaaWirB
import Derived.Test.YtjfcpnlacodjjaaCnvR
namespace Go.Proofs.Ytjfcpnlacodjjaa
open Go Go.RowKit

abbrev ChkH := UInt8 × Sl
abbrev chkC (c : ChkH) : List Value := [bv c.1, c.2.v]
structure ChkAt (V : World) (h : ChkH) (c : Chk) : Prop where
  id : h.1 = c.1
  data : Byt V h.2 c.2
theorem ChkAt.up (V V' : World) (x : ChkH) (y : Chk) (hs : Sub V V') (h : ChkAt V x y) : ChkAt V' x y := ⟨h.id, h.data.up hs⟩
section
variable {V W : World}
theorem equal_bytes (hV : Sub V W) {x y : Sl} {a b : List UInt8} (hx : Byt V x a) (hy : Byt V y b) : Ret Try.prog 66 [x.v, y.v].toArray W fun v w' => v = .bool (decide (a = b)) ∧ Rel W V [] V w' := by
  have H := Rel.start hV
  have h1 := hx.len
  have h2 := hy.len
  have hcx : Cells W x.a (a.map bv) := byC_map a ▸ (hx.up hV).cells
  have hcy : Cells W y.a (b.map bv) := byC_map b ▸ (hy.up hV).cells
  refine cal_of_vc tabOk Try.func66 rfl (by kernel_rfl) 10 rfl (by simp) [0, 1, 4] ?_
  ((repeat ((conv => whnf); first | refine an ?_ | ((first | refine H.nwD ?_ | refine H.nw ?_); clear H; intro w _ H) | refine H.ce ?_ | refine H.db ?_ | refine ea ?_ | refine ol ?_ | (refine H.st ?_; (conv => whnf); clear H; intro w H) | refine cT ?_ | refine cF ?_ | refine cN ?_ | refine cM ?_ | refine H.da (hc4 _ _ (by rfl)) ?_ | refine H.datw hc4 (by rfl) ?_ | refine H.datl hc4 (by rfl) ?_ | refine H.lw ?_ | refine H.ll ?_)); (conv => whnf))
  exact H
theorem hasPrefix_spec (hV : Sub V W) {x y : Sl} {a b : List UInt8} (hx : Byt V x a) (hy : Byt V y b) : Ret Try.prog 125 [x.v, y.v].toArray W fun v w' => v = .bool (decide (a.take b.length = b)) ∧ Rel W V [] V w' := by
  have H := Rel.start hV
  have h1 := hx.len
  have h2 := hy.len
  have hc := hx.cap
  refine cal_of_vc tabOk Try.func125 rfl (by kernel_rfl) 18 rfl (by simp) [0, 1, 4] ?_
  by_cases hl : b.length ≤ a.length
  · have hsub := hx.sub (n := 1) (fun _ => rfl) (a := 0) (b := y.len) (by omega) (by omega)
    rw [List.drop_zero] at hsub
    ((repeat ((conv => whnf); first | refine an ?_ | ((first | refine H.nwD ?_ | refine H.nw ?_); clear H; intro w _ H) | refine H.ce ?_ | refine H.db ?_ | refine ea ?_ | refine ol ?_ | (refine H.st ?_; (conv => whnf); clear H; intro w H) | refine cT ?_ | refine cF ?_ | refine cN ?_ | refine cM ?_ | refine H.da (hc4 _ _ (by rfl)) ?_ | refine H.datw hc4 (by rfl) ?_ | refine H.datl hc4 (by rfl) ?_ | refine H.lw ?_ | refine H.ll ?_)); (conv => whnf))
    refine (equal_bytes H.data hsub hy).use ?_
    rintro v w ⟨rfl, K⟩
    (have hKb := K.base; replace H := Rel.call H K)
    ((repeat ((conv => whnf); first | refine an ?_ | ((first | refine H.nwD ?_ | refine H.nw ?_); clear H; intro w _ H) | refine H.ce ?_ | refine H.db ?_ | refine ea ?_ | refine ol ?_ | (refine H.st ?_; (conv => whnf); clear H; intro w H) | refine cT ?_ | refine cF ?_ | refine cN ?_ | refine cM ?_ | refine H.da (hc4 _ _ (by rfl)) ?_ | refine H.datw hc4 (by rfl) ?_ | refine H.datl hc4 (by rfl) ?_ | refine H.lw ?_ | refine H.ll ?_)); (conv => whnf))
    exact ⟨by rw [h2], H.sx⟩
  · ((repeat ((conv => whnf); first | refine an ?_ | ((first | refine H.nwD ?_ | refine H.nw ?_); clear H; intro w _ H) | refine H.ce ?_ | refine H.db ?_ | refine ea ?_ | refine ol ?_ | (refine H.st ?_; (conv => whnf); clear H; intro w H) | refine cT ?_ | refine cF ?_ | refine cN ?_ | refine cM ?_ | refine H.da (hc4 _ _ (by rfl)) ?_ | refine H.datw hc4 (by rfl) ?_ | refine H.datl hc4 (by rfl) ?_ | refine H.lw ?_ | refine H.ll ?_)); (conv => whnf))
    refine ⟨?_, H.sx⟩
    rw [decide_eq_false]
    intro h
    have := congrArg List.length h
    simp at this
    omega
theorem cutPrefix_spec (hV : Sub V W) {x y : Sl} {a b : List UInt8} (hx : Byt V x a) (hy : Byt V y b) : Ret Try.prog 109 [x.v, y.v].toArray W fun v w' => (∃ r : Sl, v = .tuple #[r.v, .bool (decide (a.take b.length = b))] ∧ (a.take b.length = b → Byt V r (a.drop b.length))) ∧ Rel W V [] V w' := by
  have H := Rel.start hV
  have h1 := hx.len
  have h2 := hy.len
  have hc := hx.cap
  refine cal_of_vc tabOk Try.func109 rfl (by kernel_rfl) 15 rfl (by simp) [0, 1, 4, 5, 9] ?_
  ((repeat ((conv => whnf); first | refine an ?_ | ((first | refine H.nwD ?_ | refine H.nw ?_); clear H; intro w _ H) | refine H.ce ?_ | refine H.db ?_ | refine ea ?_ | refine ol ?_ | (refine H.st ?_; (conv => whnf); clear H; intro w H) | refine cT ?_ | refine cF ?_ | refine cN ?_ | refine cM ?_ | refine H.da (hc4 _ _ (by rfl)) ?_ | refine H.datw hc4 (by rfl) ?_ | refine H.datl hc4 (by rfl) ?_ | refine H.lw ?_ | refine H.ll ?_)); (conv => whnf))
  refine (hasPrefix_spec H.data hx hy).use ?_
  rintro v w ⟨rfl, K⟩
  (have hKb := K.base; replace H := H.call0 K)
  by_cases hp : a.take b.length = b
  · have hl : b.length ≤ a.length := by
      have := congrArg List.length hp
      simp at this
      omega
    have hsub := hx.sub (n := 1) (fun _ => rfl) (a := y.len) (b := x.len) (by omega) (by omega)
    rw [h1, List.take_length] at hsub
    rw [decide_eq_true hp]
    ((repeat ((conv => whnf); first | refine an ?_ | ((first | refine H.nwD ?_ | refine H.nw ?_); clear H; intro w _ H) | refine H.ce ?_ | refine H.db ?_ | refine ea ?_ | refine ol ?_ | (refine H.st ?_; (conv => whnf); clear H; intro w H) | refine cT ?_ | refine cF ?_ | refine cN ?_ | refine cM ?_ | refine H.da (hc4 _ _ (by rfl)) ?_ | refine H.datw hc4 (by rfl) ?_ | refine H.datl hc4 (by rfl) ?_ | refine H.lw ?_ | refine H.ll ?_)); (conv => whnf))
    refine ⟨⟨⟨subA x.a y.len x.cap 1, x.len - y.len, x.cap - y.len⟩, rfl, fun _ => ?_⟩, H.sx⟩
    rw [h1]
    rw [h2] at hsub ⊢
    exact hsub
  · rw [decide_eq_false hp]
    ((repeat ((conv => whnf); first | refine an ?_ | ((first | refine H.nwD ?_ | refine H.nw ?_); clear H; intro w _ H) | refine H.ce ?_ | refine H.db ?_ | refine ea ?_ | refine ol ?_ | (refine H.st ?_; (conv => whnf); clear H; intro w H) | refine cT ?_ | refine cF ?_ | refine cN ?_ | refine cM ?_ | refine H.da (hc4 _ _ (by rfl)) ?_ | refine H.datw hc4 (by rfl) ?_ | refine H.datl hc4 (by rfl) ?_ | refine H.lw ?_ | refine H.ll ?_)); (conv => whnf))
    exact ⟨⟨x, rfl, fun h => absurd h hp⟩, H.sx⟩
/-- what reads a file's chunks returns -/
structure ChksR (W V : World) (res : Option (List Chk)) (v : Value) (w' : World) : Prop where
  ex : ∃ (V' : World) (r : Sl), Sub V V' ∧ Rel W V [] V' w' ∧ (match res with
    | none => v = .tuple #[.slice none 0 0, .bool false]
    | some cs => v = .tuple #[r.v, .bool true] ∧ RL chkC ChkAt V' r cs)
theorem map_app {α : Type} (o : Option (List α)) (O : List α) (x : α) : (o.map (x :: ·)).map (O ++ ·) = o.map ((O ++ [x]) ++ ·) := by
  cases o <;> simp
theorem SlF.cell8 {s : Sl} {l : List UInt8} (h : Byt V s l) {i : Nat} (hi : i < l.length) : Plain s.a ∧ V.cell? ⟨ablk s.a, aoff s.a + i, none⟩ = some (.int .u8 (at8 l i : Nat)) := by
  obtain ⟨g1, g2⟩ := h.at1 (g := bv) (fun _ => rfl) hi
  exact ⟨g1, by rw [g2, at8_get hi]⟩
set_option maxRecDepth 100000 in
set_option maxHeartbeats 1000000 in
theorem readChunks_spec (hV : Sub V W) {s : Sl} {l : List UInt8} (hs : Byt V s l) (hl : l.length ≤ 1099511627) : Ret Try.prog 74 [s.v].toArray W (ChksR W V (sndChks l)) := by
  have H := Rel.start hV
  refine cal_of_vc tabOk Try.func74 rfl (by kernel_rfl) 74 rfl (by simp) [0, 2, 3, 4, 5, 6, 7, 16, 17, 28, 58] ?_
  ((repeat ((conv => whnf); first | refine an ?_ | refine H.ce ?_ | refine H.db ?_ | refine ea ?_ | refine ol ?_ | (refine H.st ?_; (conv => whnf); clear H; intro w H) | refine cT ?_ | refine cF ?_ | refine cN ?_ | refine cM ?_ | refine H.da (hc4 _ _ (by rfl)) ?_ | refine H.datw hc4 (by rfl) ?_ | refine H.datl hc4 (by rfl) ?_ | refine H.lw ?_ | refine H.ll ?_)); (conv => whnf))
  ((first | refine Rel.nwD H ?_ | refine Rel.nw H ?_); clear H; intro w bm H)
  ((repeat ((conv => whnf); first | refine an ?_ | refine H.ce ?_ | refine H.db ?_ | refine ea ?_ | refine ol ?_ | (refine H.st ?_; (conv => whnf); clear H; intro w H) | refine cT ?_ | refine cF ?_ | refine cN ?_ | refine cM ?_ | refine H.da (hc4 _ _ (by rfl)) ?_ | refine H.datw hc4 (by rfl) ?_ | refine H.datl hc4 (by rfl) ?_ | refine H.lw ?_ | refine H.ll ?_)); (conv => whnf))
  refine Rel.convBB (l := [83, 78, 68, 49]) Try.underlying22 Try.underlying5 H rfl ?_
  clear H
  intro V1 w hV1 hm H
  ((repeat ((conv => whnf); first | refine an ?_ | ((first | refine H.nwD ?_ | refine H.nw ?_); clear H; intro w _ H) | refine H.ce ?_ | refine H.db ?_ | refine ea ?_ | refine ol ?_ | (refine H.st ?_; (conv => whnf); clear H; intro w H) | refine cT ?_ | refine cF ?_ | refine cN ?_ | refine cM ?_ | refine H.da (hc4 _ _ (by rfl)) ?_ | refine H.datw hc4 (by rfl) ?_ | refine H.datl hc4 (by rfl) ?_ | refine H.lw ?_ | refine H.ll ?_)); (conv => whnf))
  refine (cutPrefix_spec H.data (hs.up hV1) hm).use ?_
  rintro v w ⟨⟨r, rfl, hr⟩, K⟩
  (have hKb := K.base; replace H := H.call0 K)
  have hlen4 : ([83, 78, 68, 49] : List UInt8).length = 4 := rfl
  rw [hlen4] at hr ⊢
  by_cases hp : l.take 4 = [83, 78, 68, 49]
  rotate_left
  · rw [show sndChks l = none by rw [sndChks, if_neg hp], decide_eq_false hp]
    ((repeat ((conv => whnf); first | refine an ?_ | ((first | refine H.nwD ?_ | refine H.nw ?_); clear H; intro w _ H) | refine H.ce ?_ | refine H.db ?_ | refine ea ?_ | refine ol ?_ | (refine H.st ?_; (conv => whnf); clear H; intro w H) | refine cT ?_ | refine cF ?_ | refine cN ?_ | refine cM ?_ | refine H.da (hc4 _ _ (by rfl)) ?_ | refine H.datw hc4 (by rfl) ?_ | refine H.datl hc4 (by rfl) ?_ | refine H.lw ?_ | refine H.ll ?_)); (conv => whnf))
    exact ⟨V1, ⟨none, 0, 0⟩, hV1, H.sx, rfl⟩
  rw [show sndChks l = chks (l.drop 4) by rw [sndChks, if_pos hp], decide_eq_true hp]
  replace hr := hr hp
  obtain ⟨L, hL⟩ : ∃ L, L = l.drop 4 := ⟨_, rfl⟩
  have hLl : L.length ≤ 1099511627 := by rw [hL]; simp; omega
  rw [← hL] at hr ⊢
  replace H := H.rowNil 118 2
  ((repeat ((conv => whnf); first | refine an ?_ | ((first | refine H.nwD ?_ | refine H.nw ?_); clear H; intro w _ H) | refine H.ce ?_ | refine H.db ?_ | refine ea ?_ | refine ol ?_ | (refine H.st ?_; (conv => whnf); clear H; intro w H) | refine cT ?_ | refine cF ?_ | refine cN ?_ | refine cM ?_ | refine H.da (hc4 _ _ (by rfl)) ?_ | refine H.datw hc4 (by rfl) ?_ | refine H.datl hc4 (by rfl) ?_ | refine H.lw ?_ | refine H.ll ?_)); (conv => whnf))
  refine loop_inv (S := Sl × List UInt8 × Sl × List ChkH × List Chk) tabOk [0, 5, 16] (fun k => [(4, k.1.v), (6, k.2.2.1.v)]) (fun k w' => Byt V1 k.1 k.2.1 ∧ chks L = (chks k.2.1).map (k.2.2.2.2 ++ ·) ∧ k.2.1.length + k.2.2.2.2.length ≤ 1099511627 ∧ Pw ChkAt V1 k.2.2.2.1 k.2.2.2.2 ∧ Rel W V [.row k.2.2.1 118 2 (k.2.2.2.1.flatMap chkC)] V1 w') (fun k _ => k.2.1.length) (r, L, ⟨none, 0, 0⟩, [], []) ?_
  (conv => whnf)
  refine ⟨(by repeat (first | exact trivial | refine ⟨rfl, ?_⟩)), ⟨hr, by simp, by simpa using hLl, Pw.nil, H⟩, ?_⟩
  clear H
  rintro ⟨q, X, ro, os, O⟩ w ⟨hq, hch, hXl, hpw, H⟩
  dsimp only at hq hch hXl hpw H ⊢
  have hql := hq.len
  have hqc := hq.cap
  have hpl := hpw.len
  have hce := chks_eq X
  have c0 := fun h => hq.cell8 (i := 0) h
  have c1 := fun h => hq.cell8 (i := 1) h
  have c2 := fun h => hq.cell8 (i := 2) h
  have fin1 : X.length = 1 ∧ at8 X 0 = 0 → chks L = some O := fun h => by rw [hch, hce, if_pos h]; simp
  have fin2 : ¬ (X.length = 1 ∧ at8 X 0 = 0) → (X.length < 3 ∨ at8 X 0 < 65 ∨ 90 < at8 X 0) → chks L = none := fun h h2 => by rw [hch, hce, if_neg h, if_pos h2]; rfl
  by_cases h0 : X.length = 0
  · rw [fin2 (by omega) (by omega)]
    ((repeat ((conv => whnf); first | refine an ?_ | ((first | refine H.nwD ?_ | refine H.nw ?_); clear H; intro w _ H) | refine H.ce ?_ | refine H.db ?_ | refine ea ?_ | refine ol ?_ | (refine H.st ?_; (conv => whnf); clear H; intro w H) | refine cT ?_ | refine cF ?_ | refine cN ?_ | refine cM ?_ | refine H.da (hc4 _ _ (by rfl)) ?_ | refine H.datw hc4 (by rfl) ?_ | refine H.datl hc4 (by rfl) ?_ | refine H.lw ?_ | refine H.ll ?_)); (conv => whnf))
    exact ⟨V1, ⟨none, 0, 0⟩, hV1, H.sx, rfl⟩
  obtain ⟨p0, d0⟩ := c0 (by omega)
  have h256 : at8 X 0 < 256 := UInt8.toNat_lt _
  by_cases h1 : X.length = 1 ∧ at8 X 0 = 0
  · obtain ⟨h1a, h1b⟩ := h1
    rw [fin1 ⟨h1a, h1b⟩]
    rw [h1b] at d0
    ((repeat ((conv => whnf); first | refine an ?_ | ((first | refine H.nwD ?_ | refine H.nw ?_); clear H; intro w _ H) | refine H.ce ?_ | refine H.db ?_ | refine ea ?_ | refine ol ?_ | (refine H.st ?_; (conv => whnf); clear H; intro w H) | refine cT ?_ | refine cF ?_ | refine cN ?_ | refine cM ?_ | refine H.da (hc4 _ _ (by rfl)) ?_ | refine H.datw hc4 (by rfl) ?_ | refine H.datl hc4 (by rfl) ?_ | refine H.lw ?_ | refine H.ll ?_)); (conv => whnf))
    obtain ⟨V2, hV2, H, hro⟩ := Rel.freezeF H (fun _ => rfl) (by decide)
    exact ⟨V2, ro, hV1.trans hV2, H.sx, rfl, os, hro, hpw.up ChkAt.up hV2⟩
  have fin2 := fin2 h1
  by_cases h3 : X.length < 3
  · rw [fin2 (by omega)]
    by_cases hx1 : X.length = 1
    all_goals
      ((repeat ((conv => whnf); first | refine an ?_ | ((first | refine H.nwD ?_ | refine H.nw ?_); clear H; intro w _ H) | refine H.ce ?_ | refine H.db ?_ | refine ea ?_ | refine ol ?_ | (refine H.st ?_; (conv => whnf); clear H; intro w H) | refine cT ?_ | refine cF ?_ | refine cN ?_ | refine cM ?_ | refine H.da (hc4 _ _ (by rfl)) ?_ | refine H.datw hc4 (by rfl) ?_ | refine H.datl hc4 (by rfl) ?_ | refine H.lw ?_ | refine H.ll ?_)); (conv => whnf))
      exact ⟨V1, ⟨none, 0, 0⟩, hV1, H.sx, rfl⟩
  by_cases h65 : at8 X 0 < 65
  · rw [fin2 (by omega)]
    ((repeat ((conv => whnf); first | refine an ?_ | ((first | refine H.nwD ?_ | refine H.nw ?_); clear H; intro w _ H) | refine H.ce ?_ | refine H.db ?_ | refine ea ?_ | refine ol ?_ | (refine H.st ?_; (conv => whnf); clear H; intro w H) | refine cT ?_ | refine cF ?_ | refine cN ?_ | refine cM ?_ | refine H.da (hc4 _ _ (by rfl)) ?_ | refine H.datw hc4 (by rfl) ?_ | refine H.datl hc4 (by rfl) ?_ | refine H.lw ?_ | refine H.ll ?_)); (conv => whnf))
    exact ⟨V1, ⟨none, 0, 0⟩, hV1, H.sx, rfl⟩
  by_cases h90 : 90 < at8 X 0
  · rw [fin2 (by omega)]
    ((repeat ((conv => whnf); first | refine an ?_ | ((first | refine H.nwD ?_ | refine H.nw ?_); clear H; intro w _ H) | refine H.ce ?_ | refine H.db ?_ | refine ea ?_ | refine ol ?_ | (refine H.st ?_; (conv => whnf); clear H; intro w H) | refine cT ?_ | refine cF ?_ | refine cN ?_ | refine cM ?_ | refine H.da (hc4 _ _ (by rfl)) ?_ | refine H.datw hc4 (by rfl) ?_ | refine H.datl hc4 (by rfl) ?_ | refine H.lw ?_ | refine H.ll ?_)); (conv => whnf))
    exact ⟨V1, ⟨none, 0, 0⟩, hV1, H.sx, rfl⟩
  obtain ⟨_, d1⟩ := c1 (by omega)
  obtain ⟨_, d2⟩ := c2 (by omega)
  have h1256 : at8 X 1 < 256 := UInt8.toNat_lt _
  have h2256 : at8 X 2 < 256 := UInt8.toNat_lt _
  have hor : bitsI .or .i64 ((at8 X 1 : Int) * 256) (at8 X 2 : Int) = ((chkLen X : Nat) : Int) := or_hi h1256 h2256
  have hcl : chkLen X ≤ 65535 := by unfold chkLen; omega
  ((repeat ((conv => whnf); first | refine an ?_ | ((first | refine H.nwD ?_ | refine H.nw ?_); clear H; intro w _ H) | refine H.ce ?_ | refine H.db ?_ | refine ea ?_ | refine ol ?_ | (refine H.st ?_; (conv => whnf); clear H; intro w H) | refine cT ?_ | refine cF ?_ | refine cN ?_ | refine cM ?_ | refine H.da (hc4 _ _ (by rfl)) ?_ | refine H.datw hc4 (by rfl) ?_ | refine H.datl hc4 (by rfl) ?_ | refine H.lw ?_ | refine H.ll ?_)); (conv => whnf))
  ((first | refine draw_vc (id := 9) tabOk mixed [] [0, 1, 2, 3, 4, 5, 6, 7, 8, 9, 10] (by kernel_rfl) ?_ | refine draw_vc (id := 12) tabOk mixed [] [0, 1, 2, 3, 4, 5, 6, 7, 8, 9, 10, 11] (by kernel_rfl) ?_); intro w hdw; replace H := Rel.ext H hdw.ext)
  ((repeat ((conv => whnf); first | refine an ?_ | ((first | refine H.nwD ?_ | refine H.nw ?_); clear H; intro w _ H) | refine H.ce ?_ | refine H.db ?_ | refine ea ?_ | refine ol ?_ | (refine H.st ?_; (conv => whnf); clear H; intro w H) | refine cT ?_ | refine cF ?_ | refine cN ?_ | refine cM ?_ | refine H.da (hc4 _ _ (by rfl)) ?_ | refine H.datw hc4 (by rfl) ?_ | refine H.datl hc4 (by rfl) ?_ | refine H.lw ?_ | refine H.ll ?_)); (conv => whnf))
  rw [shl8]
  ((repeat ((conv => whnf); first | refine an ?_ | ((first | refine H.nwD ?_ | refine H.nw ?_); clear H; intro w _ H) | refine H.ce ?_ | refine H.db ?_ | refine ea ?_ | refine ol ?_ | (refine H.st ?_; (conv => whnf); clear H; intro w H) | refine cT ?_ | refine cF ?_ | refine cN ?_ | refine cM ?_ | refine H.da (hc4 _ _ (by rfl)) ?_ | refine H.datw hc4 (by rfl) ?_ | refine H.datl hc4 (by rfl) ?_ | refine H.lw ?_ | refine H.ll ?_)); (conv => whnf))
  rw [hor]
  ((repeat ((conv => whnf); first | refine an ?_ | ((first | refine H.nwD ?_ | refine H.nw ?_); clear H; intro w _ H) | refine H.ce ?_ | refine H.db ?_ | refine ea ?_ | refine ol ?_ | (refine H.st ?_; (conv => whnf); clear H; intro w H) | refine cT ?_ | refine cF ?_ | refine cN ?_ | refine cM ?_ | refine H.da (hc4 _ _ (by rfl)) ?_ | refine H.datw hc4 (by rfl) ?_ | refine H.datl hc4 (by rfl) ?_ | refine H.lw ?_ | refine H.ll ?_)); (conv => whnf))
  by_cases hn : X.length - 3 < chkLen X
  · have : chks L = none := by rw [hch, hce, if_neg h1, if_neg (by omega), if_pos hn]; rfl
    rw [this]
    ((repeat ((conv => whnf); first | refine an ?_ | ((first | refine H.nwD ?_ | refine H.nw ?_); clear H; intro w _ H) | refine H.ce ?_ | refine H.db ?_ | refine ea ?_ | refine ol ?_ | (refine H.st ?_; (conv => whnf); clear H; intro w H) | refine cT ?_ | refine cF ?_ | refine cN ?_ | refine cM ?_ | refine H.da (hc4 _ _ (by rfl)) ?_ | refine H.datw hc4 (by rfl) ?_ | refine H.datl hc4 (by rfl) ?_ | refine H.lw ?_ | refine H.ll ?_)); (conv => whnf))
    exact ⟨V1, ⟨none, 0, 0⟩, hV1, H.sx, rfl⟩
  have hch2 : chks L = (chks (X.drop (3 + chkLen X))).map ((O ++ [(X[0]?.getD 0, (X.drop 3).take (chkLen X))]) ++ ·) := by
    rw [hch, hce, if_neg h1, if_neg (by omega), if_neg hn, map_app]
  have hs1 := hq.sub (n := 1) (fun _ => rfl) (a := 3) (b := 3 + chkLen X) (by omega) (by omega)
  have hs2 := hq.sub (n := 1) (fun _ => rfl) (a := 3 + chkLen X) (b := q.len) (by omega) (by omega)
  have hd3 : (X.take (3 + chkLen X)).drop 3 = (X.drop 3).take (chkLen X) := by rw [List.drop_take, Nat.add_sub_cancel_left]
  rw [hd3] at hs1
  rw [hql, List.take_length] at hs2
  ((repeat ((conv => whnf); first | refine an ?_ | ((first | refine H.nwD ?_ | refine H.nw ?_); clear H; intro w _ H) | refine H.ce ?_ | refine H.db ?_ | refine ea ?_ | refine ol ?_ | (refine H.st ?_; (conv => whnf); clear H; intro w H) | refine cT ?_ | refine cF ?_ | refine cN ?_ | refine cM ?_ | refine H.da (hc4 _ _ (by rfl)) ?_ | refine H.datw hc4 (by rfl) ?_ | refine H.datl hc4 (by rfl) ?_ | refine H.lw ?_ | refine H.ll ?_)); (conv => whnf))
  ((first | refine draw_vc (id := 9) tabOk mixed [] [0, 1, 2, 3, 4, 5, 6, 7, 8, 9, 10] (by kernel_rfl) ?_ | refine draw_vc (id := 12) tabOk mixed [] [0, 1, 2, 3, 4, 5, 6, 7, 8, 9, 10, 11] (by kernel_rfl) ?_); intro w hdw; replace H := Rel.ext H hdw.ext)
  ((repeat ((conv => whnf); first | refine an ?_ | ((first | refine H.nwD ?_ | refine H.nw ?_); clear H; intro w _ H) | refine H.ce ?_ | refine H.db ?_ | refine ea ?_ | refine ol ?_ | (refine H.st ?_; (conv => whnf); clear H; intro w H) | refine cT ?_ | refine cF ?_ | refine cN ?_ | refine cM ?_ | refine H.da (hc4 _ _ (by rfl)) ?_ | refine H.datw hc4 (by rfl) ?_ | refine H.datl hc4 (by rfl) ?_ | refine H.lw ?_ | refine H.ll ?_)); (conv => whnf))
  refine Rel.app1_0 (f := chkC) (l := os) (x := (X[0]?.getD 0, ⟨subA q.a 3 q.cap 1, 3 + chkLen X - 3, q.cap - 3⟩)) tabOk rfl rfl rfl rfl rfl (by decide) (fun _ => rfl) (List.all_eq_true.1 rfl) H (by simp; omega) (by omega) ?_
  clear H
  intro rn w H
  ((repeat ((conv => whnf); first | refine an ?_ | ((first | refine H.nwD ?_ | refine H.nw ?_); clear H; intro w _ H) | refine H.ce ?_ | refine H.db ?_ | refine ea ?_ | refine ol ?_ | (refine H.st ?_; (conv => whnf); clear H; intro w H) | refine cT ?_ | refine cF ?_ | refine cN ?_ | refine cM ?_ | refine H.da (hc4 _ _ (by rfl)) ?_ | refine H.datw hc4 (by rfl) ?_ | refine H.datl hc4 (by rfl) ?_ | refine H.lw ?_ | refine H.ll ?_)); (conv => whnf))
  refine ⟨(by repeat (first | exact trivial | refine ⟨rfl, ?_⟩)), (⟨subA q.a (3 + chkLen X) q.cap 1, q.len - (3 + chkLen X), q.cap - (3 + chkLen X)⟩, X.drop (3 + chkLen X), rn, os ++ [(X[0]?.getD 0, ⟨subA q.a 3 q.cap 1, 3 + chkLen X - 3, q.cap - 3⟩)], O ++ [(X[0]?.getD 0, (X.drop 3).take (chkLen X))]), (by repeat (first | exact trivial | refine ⟨rfl, ?_⟩)), ⟨?_, hch2, by simp; omega, hpw.snoc ⟨rfl, hs1⟩, H.sx⟩, by simp; omega⟩
  rw [← hql] at hs2
  exact hs2
end
end Go.Proofs.Ytjfcpnlacodjjaa
namespace Go.Proofs.Ytjfcpnlacodjjaa
open Go Go.RowKit

abbrev ChkG := Int × Sl
abbrev chkG (c : ChkG) : List Value := [iv c.1, c.2.v]
structure ChkAtG (V : World) (h : ChkG) (c : Chk) : Prop where
  id : h.1 = c.1.toNat
  data : Byt V h.2 c.2
theorem ChkAtG.up (V V' : World) (x : ChkG) (y : Chk) (hs : Sub V V') (h : ChkAtG V x y) : ChkAtG V' x y := ⟨h.id, h.data.up hs⟩
theorem at8_drop (l : List UInt8) (a i : Nat) : at8 (l.drop a) i = at8 l (a + i) := by simp [at8]
theorem chks_short {X : List UInt8} (h : X.length < 4) (h0 : ¬ at8 X 0 = 0) : chks X = none := by
  rw [chks_eq, if_neg (by omega)]
  split
  · rfl
  · split
    · rfl
    · rw [show X.drop (3 + chkLen X) = [] from List.drop_of_length_le (by omega), chks_nil]; rfl
theorem chks_over {X : List UInt8} (h : X.length < 4 + chkLen X) (h0 : ¬ at8 X 0 = 0) : chks X = none := by
  rw [chks_eq, if_neg (by omega)]
  split
  · rfl
  · split
    · rfl
    · rw [show X.drop (3 + chkLen X) = [] from List.drop_of_length_le (by omega), chks_nil]; rfl
theorem chks_zero {X : List UInt8} (h0 : at8 X 0 = 0) : chks X = if X.length = 1 then some [] else none := by
  rw [chks_eq]
  by_cases h1 : X.length = 1
  · rw [if_pos ⟨h1, h0⟩, if_pos h1]
  · rw [if_neg (by omega), if_neg h1, if_pos (by omega)]
/-- what the reference's reader of chunks returns -/
structure ChksG (W V : World) (res : Option (List Chk)) (v : Value) (w' : World) : Prop where
  ex : ∃ (V' : World) (r : Sl), Sub V V' ∧ Rel W V [] V' w' ∧ (match res with
    | none => v = .tuple #[r.v, .bool false]
    | some cs => v = .tuple #[r.v, .bool true] ∧ RL chkG ChkAtG V' r cs)
section
variable {V W : World}
set_option maxRecDepth 100000 in
set_option maxHeartbeats 1000000 in
theorem soundChunks_ref (hV : Sub V W) {s : Sl} {l : List UInt8} (hs : Byt V s l) (hl : l.length ≤ 1099511627) : Ret Try.prog 46 [s.v].toArray W (ChksG W V (sndChks l)) := by
  have H := Rel.start hV
  have hlen := hs.len
  have hcap := hs.cap
  refine cal_of_vc tabOk Try.func46 rfl (by kernel_rfl) 84 rfl (by simp) [0, 2, 3, 4, 5, 6, 15, 20, 34, 55] ?_
  by_cases h5 : l.length < 5
  · have : sndChks l = none := by
      unfold sndChks
      split
      · rename_i h
        have := congrArg List.length h
        simp at this
        rw [List.drop_of_length_le (by omega), chks_nil]
      · rfl
    rw [this]
    ((repeat ((conv => whnf); first | refine an ?_ | ((first | refine H.nwD ?_ | refine H.nw ?_); clear H; intro w _ H) | refine H.ce ?_ | refine H.db ?_ | refine ea ?_ | refine ol ?_ | (refine H.st ?_; (conv => whnf); clear H; intro w H) | refine cT ?_ | refine cF ?_ | refine cN ?_ | refine cM ?_ | refine H.da (hc4 _ _ (by rfl)) ?_ | refine H.datw hc4 (by rfl) ?_ | refine H.datl hc4 (by rfl) ?_ | refine H.lw ?_ | refine H.ll ?_)); (conv => whnf))
    exact ⟨V, ⟨none, 0, 0⟩, Sub.refl _, H.sx, rfl⟩
  have hsub := hs.sub (n := 1) (fun _ => rfl) (a := 0) (b := 4) (by omega) (by omega)
  rw [List.drop_zero] at hsub
  have hc4 := (hsub.up hV).cells
  rw [byC_map] at hc4
  have hl4 : 4 - 0 = (l.take 4).length := by simp; omega
  ((repeat ((conv => whnf); first | refine an ?_ | ((first | refine H.nwD ?_ | refine H.nw ?_); clear H; intro w _ H) | refine H.ce ?_ | refine H.db ?_ | refine ea ?_ | refine ol ?_ | (refine H.st ?_; (conv => whnf); clear H; intro w H) | refine cT ?_ | refine cF ?_ | refine cN ?_ | refine cM ?_ | refine H.da (hc4 _ _ (by rfl)) ?_ | refine H.datw hc4 (by rfl) ?_ | refine H.datl hc4 (by rfl) ?_ | refine H.lw ?_ | refine H.ll ?_)); (conv => whnf))
  refine condG_ndec (fun hp => ?_) (fun hp => ?_)
  · rw [show sndChks l = none by rw [sndChks, if_neg hp]]
    ((repeat ((conv => whnf); first | refine an ?_ | ((first | refine H.nwD ?_ | refine H.nw ?_); clear H; intro w _ H) | refine H.ce ?_ | refine H.db ?_ | refine ea ?_ | refine ol ?_ | (refine H.st ?_; (conv => whnf); clear H; intro w H) | refine cT ?_ | refine cF ?_ | refine cN ?_ | refine cM ?_ | refine H.da (hc4 _ _ (by rfl)) ?_ | refine H.datw hc4 (by rfl) ?_ | refine H.datl hc4 (by rfl) ?_ | refine H.lw ?_ | refine H.ll ?_)); (conv => whnf))
    exact ⟨V, ⟨none, 0, 0⟩, Sub.refl _, H.sx, rfl⟩
  rw [show sndChks l = chks (l.drop 4) by rw [sndChks, if_pos hp]]
  replace H := H.rowNil 78 2
  ((repeat ((conv => whnf); first | refine an ?_ | ((first | refine H.nwD ?_ | refine H.nw ?_); clear H; intro w _ H) | refine H.ce ?_ | refine H.db ?_ | refine ea ?_ | refine ol ?_ | (refine H.st ?_; (conv => whnf); clear H; intro w H) | refine cT ?_ | refine cF ?_ | refine cN ?_ | refine cM ?_ | refine H.da (hc4 _ _ (by rfl)) ?_ | refine H.datw hc4 (by rfl) ?_ | refine H.datl hc4 (by rfl) ?_ | refine H.lw ?_ | refine H.ll ?_)); (conv => whnf))
  refine loop_inv (S := Nat × Sl × List ChkG × List Chk) tabOk [0, 15] (fun k => [(4, k.2.1.v), (5, iv k.1)]) (fun k w' => k.1 < l.length ∧ chks (l.drop 4) = (chks (l.drop k.1)).map (k.2.2.2 ++ ·) ∧ k.2.2.2.length ≤ k.1 ∧ ∃ V1, Sub V V1 ∧ Pw ChkAtG V1 k.2.2.1 k.2.2.2 ∧ Rel W V [.row k.2.1 78 2 (k.2.2.1.flatMap chkG)] V1 w') (fun k _ => l.length - k.1) (4, ⟨none, 0, 0⟩, [], []) ?_
  (conv => whnf)
  refine ⟨(by repeat (first | exact trivial | refine ⟨rfl, ?_⟩)), ⟨by omega, by simp, by simp, V, Sub.refl _, Pw.nil, H⟩, ?_⟩
  clear H
  rintro ⟨a, ro, os, O⟩ w ⟨ha, hch, hOl, V1, hV1, hpw, H⟩
  dsimp only at ha hch hOl hpw H ⊢
  have hpl := hpw.len
  have hs1 := hs.up hV1
  obtain ⟨X, hX⟩ : ∃ X, X = l.drop a := ⟨_, rfl⟩
  have hXl : X.length = l.length - a := by rw [hX, List.length_drop]
  have hat : ∀ i, at8 X i = at8 l (a + i) := fun i => by rw [hX, at8_drop]
  have e0 := hat 0
  have e1 := hat 1
  have e2 := hat 2
  rw [Nat.add_zero] at e0
  rw [← hX] at hch
  have h0256 : at8 X 0 < 256 := UInt8.toNat_lt _
  have h1256 : at8 X 1 < 256 := UInt8.toNat_lt _
  have h2256 : at8 X 2 < 256 := UInt8.toNat_lt _
  obtain ⟨p0, d0⟩ := hs1.cell8 (i := a) ha
  rw [← e0] at d0
  by_cases hz : at8 X 0 = 0
  · have hcz := chks_zero hz
    rw [hz] at d0
    by_cases h1 : X.length = 1
    · rw [if_pos h1] at hcz
      have : chks (l.drop 4) = some O := by rw [hch, hcz]; simp
      rw [this]
      ((repeat ((conv => whnf); first | refine an ?_ | ((first | refine H.nwD ?_ | refine H.nw ?_); clear H; intro w _ H) | refine H.ce ?_ | refine H.db ?_ | refine ea ?_ | refine ol ?_ | (refine H.st ?_; (conv => whnf); clear H; intro w H) | refine cT ?_ | refine cF ?_ | refine cN ?_ | refine cM ?_ | refine H.da (hc4 _ _ (by rfl)) ?_ | refine H.datw hc4 (by rfl) ?_ | refine H.datl hc4 (by rfl) ?_ | refine H.lw ?_ | refine H.ll ?_)); (conv => whnf))
      obtain ⟨V2, hV2, H, hro⟩ := Rel.freezeF H (fun _ => rfl) (by decide)
      refine ⟨V2, ro, hV1.trans hV2, H.sx, ?_, os, hro, hpw.up ChkAtG.up hV2⟩
      have hx : ((a : Int) = (s.len : Int) - 1) := by omega
      simp only [decide_eq_true hx]
    · rw [if_neg h1] at hcz
      have : chks (l.drop 4) = none := by rw [hch, hcz]; rfl
      rw [this]
      ((repeat ((conv => whnf); first | refine an ?_ | ((first | refine H.nwD ?_ | refine H.nw ?_); clear H; intro w _ H) | refine H.ce ?_ | refine H.db ?_ | refine ea ?_ | refine ol ?_ | (refine H.st ?_; (conv => whnf); clear H; intro w H) | refine cT ?_ | refine cF ?_ | refine cN ?_ | refine cM ?_ | refine H.da (hc4 _ _ (by rfl)) ?_ | refine H.datw hc4 (by rfl) ?_ | refine H.datl hc4 (by rfl) ?_ | refine H.lw ?_ | refine H.ll ?_)); (conv => whnf))
      refine ⟨V1, ro, hV1, H.sx, ?_⟩
      have hx : ¬ ((a : Int) = (s.len : Int) - 1) := by omega
      simp only [decide_eq_false hx]
  have hce := chks_eq X
  rw [if_neg (by omega)] at hce
  ((repeat ((conv => whnf); first | refine an ?_ | ((first | refine H.nwD ?_ | refine H.nw ?_); clear H; intro w _ H) | refine H.ce ?_ | refine H.db ?_ | refine ea ?_ | refine ol ?_ | (refine H.st ?_; (conv => whnf); clear H; intro w H) | refine cT ?_ | refine cF ?_ | refine cN ?_ | refine cM ?_ | refine H.da (hc4 _ _ (by rfl)) ?_ | refine H.datw hc4 (by rfl) ?_ | refine H.datl hc4 (by rfl) ?_ | refine H.lw ?_ | refine H.ll ?_)); (conv => whnf))
  refine (in_ref (at8 X 0 : Nat) 65 90 w).use ?_
  rintro q w' ⟨rfl, rfl⟩
  by_cases hin : 65 ≤ at8 X 0 ∧ at8 X 0 ≤ 90
  rotate_left
  · have : chks (l.drop 4) = none := by rw [hch, hce, if_pos (by omega)]; rfl
    rw [this]
    ((repeat ((conv => whnf); first | refine an ?_ | ((first | refine H.nwD ?_ | refine H.nw ?_); clear H; intro w _ H) | refine H.ce ?_ | refine H.db ?_ | refine ea ?_ | refine ol ?_ | (refine H.st ?_; (conv => whnf); clear H; intro w H) | refine cT ?_ | refine cF ?_ | refine cN ?_ | refine cM ?_ | refine H.da (hc4 _ _ (by rfl)) ?_ | refine H.datw hc4 (by rfl) ?_ | refine H.datl hc4 (by rfl) ?_ | refine H.lw ?_ | refine H.ll ?_)); (conv => whnf))
    exact ⟨V1, ⟨none, 0, 0⟩, hV1, H.sx, rfl⟩
  by_cases h4 : X.length < 4
  · have : chks (l.drop 4) = none := by rw [hch, chks_short h4 hz]; rfl
    rw [this]
    ((repeat ((conv => whnf); first | refine an ?_ | ((first | refine H.nwD ?_ | refine H.nw ?_); clear H; intro w _ H) | refine H.ce ?_ | refine H.db ?_ | refine ea ?_ | refine ol ?_ | (refine H.st ?_; (conv => whnf); clear H; intro w H) | refine cT ?_ | refine cF ?_ | refine cN ?_ | refine cM ?_ | refine H.da (hc4 _ _ (by rfl)) ?_ | refine H.datw hc4 (by rfl) ?_ | refine H.datl hc4 (by rfl) ?_ | refine H.lw ?_ | refine H.ll ?_)); (conv => whnf))
    exact ⟨V1, ⟨none, 0, 0⟩, hV1, H.sx, rfl⟩
  obtain ⟨_, d1⟩ := hs1.cell8 (i := a + 1) (by omega)
  obtain ⟨_, d2⟩ := hs1.cell8 (i := a + 2) (by omega)
  rw [← e1] at d1
  rw [← e2] at d2
  have ia1 : ((a : Int) + 1).toNat = a + 1 := by omega
  have ia2 : ((a : Int) + 2).toNat = a + 2 := by omega
  have hcd : chkLen X = 256 * at8 X 1 + at8 X 2 := rfl
  ((repeat ((conv => whnf); first | refine an ?_ | ((first | refine H.nwD ?_ | refine H.nw ?_); clear H; intro w _ H) | refine H.ce ?_ | refine H.db ?_ | refine ea ?_ | refine ol ?_ | (refine H.st ?_; (conv => whnf); clear H; intro w H) | refine cT ?_ | refine cF ?_ | refine cN ?_ | refine cM ?_ | refine H.da (hc4 _ _ (by rfl)) ?_ | refine H.datw hc4 (by rfl) ?_ | refine H.datl hc4 (by rfl) ?_ | refine H.lw ?_ | refine H.ll ?_)); (conv => whnf))
  ((first | refine draw_vc (id := 8) tabOk mixed [] [0, 1, 2, 3, 4, 5, 6, 7, 8, 9, 10, 11, 12, 13, 14] (by kernel_rfl) ?_ | refine draw_vc (id := 11) tabOk mixed [14] [0, 1, 2, 3, 4, 5, 6, 7, 8, 9, 10, 11, 12, 13, 14, 15, 16, 17, 18] (by kernel_rfl) ?_); intro w hdw; replace H := Rel.ext H hdw.ext)
  ((repeat ((conv => whnf); first | refine an ?_ | ((first | refine H.nwD ?_ | refine H.nw ?_); clear H; intro w _ H) | refine H.ce ?_ | refine H.db ?_ | refine ea ?_ | refine ol ?_ | (refine H.st ?_; (conv => whnf); clear H; intro w H) | refine cT ?_ | refine cF ?_ | refine cN ?_ | refine cM ?_ | refine H.da (hc4 _ _ (by rfl)) ?_ | refine H.datw hc4 (by rfl) ?_ | refine H.datl hc4 (by rfl) ?_ | refine H.lw ?_ | refine H.ll ?_)); (conv => whnf))
  by_cases hov : X.length < 4 + chkLen X
  · have : chks (l.drop 4) = none := by rw [hch, chks_over hov hz]; rfl
    rw [this]
    ((repeat ((conv => whnf); first | refine an ?_ | ((first | refine H.nwD ?_ | refine H.nw ?_); clear H; intro w _ H) | refine H.ce ?_ | refine H.db ?_ | refine ea ?_ | refine ol ?_ | (refine H.st ?_; (conv => whnf); clear H; intro w H) | refine cT ?_ | refine cF ?_ | refine cN ?_ | refine cM ?_ | refine H.da (hc4 _ _ (by rfl)) ?_ | refine H.datw hc4 (by rfl) ?_ | refine H.datl hc4 (by rfl) ?_ | refine H.lw ?_ | refine H.ll ?_)); (conv => whnf))
    exact ⟨V1, ⟨none, 0, 0⟩, hV1, H.sx, rfl⟩
  have hch2 : chks (l.drop 4) = (chks (l.drop (a + 3 + chkLen X))).map ((O ++ [(X[0]?.getD 0, (X.drop 3).take (chkLen X))]) ++ ·) := by
    rw [hch, hce, if_neg (by omega), if_neg (by omega), map_app]
    congr 2
    rw [hX, List.drop_drop]
    congr 1
    omega
  have hsub2 := hs1.sub (n := 1) (fun _ => rfl) (a := a + 3) (b := a + 3 + chkLen X) (by omega) (by omega)
  have hdd : (l.take (a + 3 + chkLen X)).drop (a + 3) = (X.drop 3).take (chkLen X) := by
    rw [List.drop_take, Nat.add_sub_cancel_left, hX, List.drop_drop]
  rw [hdd] at hsub2
  ((repeat ((conv => whnf); first | refine an ?_ | ((first | refine H.nwD ?_ | refine H.nw ?_); clear H; intro w _ H) | refine H.ce ?_ | refine H.db ?_ | refine ea ?_ | refine ol ?_ | (refine H.st ?_; (conv => whnf); clear H; intro w H) | refine cT ?_ | refine cF ?_ | refine cN ?_ | refine cM ?_ | refine H.da (hc4 _ _ (by rfl)) ?_ | refine H.datw hc4 (by rfl) ?_ | refine H.datl hc4 (by rfl) ?_ | refine H.lw ?_ | refine H.ll ?_)); (conv => whnf))
  ((first | refine draw_vc (id := 8) tabOk mixed [] [0, 1, 2, 3, 4, 5, 6, 7, 8, 9, 10, 11, 12, 13, 14] (by kernel_rfl) ?_ | refine draw_vc (id := 11) tabOk mixed [14] [0, 1, 2, 3, 4, 5, 6, 7, 8, 9, 10, 11, 12, 13, 14, 15, 16, 17, 18] (by kernel_rfl) ?_); intro w hdw; replace H := Rel.ext H hdw.ext)
  ((repeat ((conv => whnf); first | refine an ?_ | ((first | refine H.nwD ?_ | refine H.nw ?_); clear H; intro w _ H) | refine H.ce ?_ | refine H.db ?_ | refine ea ?_ | refine ol ?_ | (refine H.st ?_; (conv => whnf); clear H; intro w H) | refine cT ?_ | refine cF ?_ | refine cN ?_ | refine cM ?_ | refine H.da (hc4 _ _ (by rfl)) ?_ | refine H.datw hc4 (by rfl) ?_ | refine H.datl hc4 (by rfl) ?_ | refine H.lw ?_ | refine H.ll ?_)); (conv => whnf))
  refine (copy_ref (x := ⟨subA s.a (a + 3) s.cap 1, a + 3 + chkLen X - (a + 3), s.cap - (a + 3)⟩) H.data hsub2 (by simp only [List.length_take, List.length_drop]; omega)).use ?_
  rintro q w ⟨r1, rfl, K⟩
  (have hKb := K.base; replace H := Rel.call H K)
  simp only [List.cons_append, List.nil_append] at H
  obtain ⟨V2, hV2, H, hr1⟩ := Rel.freezeF H (fun _ => rfl) (by decide)
  ((repeat ((conv => whnf); first | refine an ?_ | ((first | refine H.nwD ?_ | refine H.nw ?_); clear H; intro w _ H) | refine H.ce ?_ | refine H.db ?_ | refine ea ?_ | refine ol ?_ | (refine H.st ?_; (conv => whnf); clear H; intro w H) | refine cT ?_ | refine cF ?_ | refine cN ?_ | refine cM ?_ | refine H.da (hc4 _ _ (by rfl)) ?_ | refine H.datw hc4 (by rfl) ?_ | refine H.datl hc4 (by rfl) ?_ | refine H.lw ?_ | refine H.ll ?_)); (conv => whnf))
  refine Rel.app1_0 (f := chkG) (l := os) (x := (((at8 X 0 : Nat) : Int), r1)) tabOk rfl rfl rfl rfl rfl (by decide) (fun _ => rfl) (List.all_eq_true.1 rfl) H (by simp; omega) (by omega) ?_
  clear H
  intro rn w H
  ((repeat ((conv => whnf); first | refine an ?_ | ((first | refine H.nwD ?_ | refine H.nw ?_); clear H; intro w _ H) | refine H.ce ?_ | refine H.db ?_ | refine ea ?_ | refine ol ?_ | (refine H.st ?_; (conv => whnf); clear H; intro w H) | refine cT ?_ | refine cF ?_ | refine cN ?_ | refine cM ?_ | refine H.da (hc4 _ _ (by rfl)) ?_ | refine H.datw hc4 (by rfl) ?_ | refine H.datl hc4 (by rfl) ?_ | refine H.lw ?_ | refine H.ll ?_)); (conv => whnf))
  refine ⟨(by repeat (first | exact trivial | refine ⟨rfl, ?_⟩)), (a + 3 + chkLen X, rn, os ++ [(((at8 X 0 : Nat) : Int), r1)], O ++ [(X[0]?.getD 0, (X.drop 3).take (chkLen X))]), (by repeat (first | exact trivial | refine ⟨rfl, ?_⟩)), ⟨by omega, hch2, by simp; omega, V2, hV1.trans hV2, (hpw.up ChkAtG.up hV2).snoc ⟨rfl, hr1⟩, H.sx⟩, by omega⟩
end
end Go.Proofs.Ytjfcpnlacodjjaa
