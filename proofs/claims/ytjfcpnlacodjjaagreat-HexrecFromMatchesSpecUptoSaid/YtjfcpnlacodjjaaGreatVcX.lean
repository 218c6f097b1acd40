/-
  Ranges over functions, with what is owned.
-/
import Derived.Test.YtjfcpnlacodjjaaGreatVcS
namespace Go.Proofs.YtjfcpnlacodjjaaGreat
open Go Go.RowKit

def Res.isC : Res → Bool
  | .obj _ _ => false
  | _ => true
section
variable {w0 V0 V w : World} {own : List Res}
theorem Rel.tw {B : Nat} (H : Rel w0 V0 own V w) (hc : own.all Res.isC = true) (hB : w0.heap.size ≤ B) {w' : World} (ht : Tw B w w') : Rel w0 V0 own V w' := by
  refine ⟨⟨ht.os.trans H.base.os, ht.tape.trans H.base.tape, ht.output.trans H.base.output, Nat.le_trans H.base.size ht.size, fun k hk => (ht.low k (by omega)).trans (H.base.block k hk)⟩, H.sub, H.old, fun r hr => ?_, H.new, H.hid, H.apart, ⟨fun b c t f hb => ht.cel _ _ _ _ (H.data.cel b c t f hb)⟩⟩
  have h1 := H.laid r hr
  have h2 := List.all_eq_true.1 hc r hr
  cases r with
  | blk b l t => exact Blk.tw h1 ht
  | row s e sz xs => exact Row.twb h1 ht
  | obj b o => cases h2
def notCells : Obj → Bool
  | .cells _ _ _ => false
  | _ => true
def markOf (w : World) (B j : Nat) : Option Res := match w.heap[j]? with
  | some o => if B ≤ j ∧ notCells o = true then some (.obj j o) else none
  | none => none
theorem markOf_some {B j : Nat} {r : Res} (h : markOf w B j = some r) : ∃ o, w.heap[j]? = some o ∧ B ≤ j ∧ notCells o = true ∧ r = .obj j o := by
  unfold markOf at h
  split at h
  · rename_i o ho
    split at h
    · rename_i hc
      cases h
      exact ⟨o, ho, hc.1, hc.2, rfl⟩
    · cases h
  · cases h
theorem Res.cell_of {r : Res} (hc : r.isC = true) (h : r.laid w) {b : Nat} (hb : r.at_ = some b) : ∃ c t f, w.heap[b]? = some (.cells c t f) := by
  cases r with
  | blk b' l t => cases hb; exact ⟨_, _, _, h⟩
  | row s e sz xs =>
    simp only [Res.at_, Option.map_eq_some_iff] at hb
    obtain ⟨p, hp, rfl⟩ := hb
    rcases h.at_ with ⟨h1, _⟩ | ⟨b', cur, h1, h2, _⟩
    · rw [hp] at h1; cases h1
    · rw [hp] at h1; cases h1; obtain ⟨fz, h2, _⟩ := h2; exact ⟨_, _, _, h2⟩
  | obj b' o => cases hc
/-- the marks that lie in the world, owned too -/
theorem Rel.marks (H : Rel w0 V0 own V w) (hc : own.all Res.isC = true) {B : Nat} (hB : w0.heap.size ≤ B) : ∃ X : List Res, Rel w0 V0 (own ++ X) V w ∧ ∀ w', (∀ r ∈ X, r.laid w') → Keep B w w' := by
  refine ⟨(List.range w.heap.size).filterMap (markOf w B), ⟨H.base, H.sub, H.old, ?_, ?_, ?_, ?_, H.data⟩, ?_⟩
  · intro r hr
    rcases List.mem_append.1 hr with hr | hr
    · exact H.laid r hr
    · obtain ⟨j, _, hj⟩ := List.mem_filterMap.1 hr
      obtain ⟨o, ho, _, _, rfl⟩ := markOf_some hj
      exact ho
  · intro r hr b hb
    rcases List.mem_append.1 hr with hr | hr
    · exact H.new r hr b hb
    · obtain ⟨j, _, hj⟩ := List.mem_filterMap.1 hr
      obtain ⟨o, ho, hBj, _, rfl⟩ := markOf_some hj
      cases hb
      omega
  · intro r hr b hb
    rcases List.mem_append.1 hr with hr | hr
    · exact H.hid r hr b hb
    · obtain ⟨j, _, hj⟩ := List.mem_filterMap.1 hr
      obtain ⟨o, ho, hBj, hn, rfl⟩ := markOf_some hj
      cases hb
      intro c t f hv
      have := H.data.cel _ _ _ _ hv
      rw [ho] at this
      cases this
      cases hn
  · refine List.pairwise_append.2 ⟨H.apart, ?_, fun r hr s hs b hb hb' => ?_⟩
    · rw [List.pairwise_filterMap]
      refine List.Pairwise.imp ?_ List.nodup_range
      intro i j hij r hr s hs b hb hb'
      obtain ⟨o, ho, _, _, rfl⟩ := markOf_some hr
      obtain ⟨o', ho', _, _, rfl⟩ := markOf_some hs
      cases hb
      cases hb'
      exact hij rfl
    · obtain ⟨c, t, f, hcell⟩ := Res.cell_of (List.all_eq_true.1 hc r hr) (H.laid r hr) hb
      obtain ⟨j, _, hj⟩ := List.mem_filterMap.1 hs
      obtain ⟨o, ho, hBj, hn, rfl⟩ := markOf_some hj
      cases hb'
      rw [ho] at hcell
      cases hcell
      cases hn
  · intro w' hX j o hj ho hn
    have hlt := (Array.getElem?_eq_some_iff.1 ho).1
    have hno : notCells o = true := by
      cases o with
      | cells c t f => exact absurd rfl (hn c t f)
      | _ => rfl
    exact hX (.obj j o) (List.mem_filterMap.2 ⟨j, List.mem_range.2 hlt, by simp [markOf, ho, hj, hno]⟩)
end
/-- a range over a function -/
theorem range_rel {C : Cx} (hT : TabOk C.P C.T) (hro : C.r = none) {g : Operand} {ps : Array Tmp} {assign body : Code} {env : Env} {ds : List Deferred} {w : World} {Q : Post} {gf : Nat} {lb : List Value} {w0 V0 V : World}
    (hg : withV env g fun v => v = .func (.func gf) #[] lb.toArray) {xs : List (List Value)} (hit : IterOk C.P gf lb xs (fun W => Sub V W)) (hps : ∀ x ∈ xs, x.length = ps.size) (hpn : (ps.toList.all fun p => decide (p < C.n)) = true)
    {σ : Type} (own : Nat → σ → List Res) (hcell : ∀ k s, (own k s).all Res.isC = true) (F : Nat → σ → World → Prop) {τ : Type} (ownx : Code → τ → List Res) (hcellx : ∀ c t, (ownx c t).all Res.isC = true) (Fx : Code → τ → World → Prop)
    (s0 : σ) {V1 : World} (hV1 : Sub V V1) (H : Rel w0 V0 (own 0 s0) V1 w) (hF : F 0 s0 V1)
    (hround : ∀ L k x W s V1, xs[k]? = some x → Sub V V1 → F k s V1 → Rel w0 V0 (own k s) V1 W → vcCode { C with r := some L } assign (putAll ps.toList x env) [] W fun e env1 ds1 W1 => (match e with
      | .normal => ds1 = [] ∧ Keep w.heap.size W W1 ∧ ∀ W2, Tw w.heap.size W1 W2 → vcCode { C with r := some L } body env1 [] W2 (roundQ w.heap.size W2 (fun W => ∃ V1 s, Sub V V1 ∧ F (k + 1) s V1 ∧ Rel w0 V0 (own (k + 1) s) V1 W) (fun c W => ∃ V1 t, Sub V V1 ∧ Fx c t V1 ∧ Rel w0 V0 (ownx c t) V1 W))
      | _ => False))
    (hdone : ∀ D W s V1, Sub V V1 → F xs.length s V1 → Rel w0 V0 (own xs.length s ++ [.obj D (.deferred (some []))]) V1 W → Q .normal env ({ target := .collected D, args := #[] } :: ds) W)
    (hstop : ∀ D c W t V1, Sub V V1 → Fx c t V1 → Rel w0 V0 (ownx c t ++ [.obj D (.deferred (some []))]) V1 W → vcCode C c env ({ target := .collected D, args := #[] } :: ds) W Q) :
    SemC C (.rangeFunc g ps assign body) env ds w Q := by
  have hB : w0.heap.size ≤ w.heap.size := H.base.size
  have withD : ∀ {own : List Res} {V1 W : World} {D : Nat}, own.all Res.isC = true → w.heap.size ≤ D → W.heap[D]? = some (.deferred (some [])) → Rel w0 V0 own V1 W → Rel w0 V0 (own ++ [.obj D (.deferred (some []))]) V1 W := by
    intro own V1 W D hc hD hW H
    refine ⟨H.base, H.sub, H.old, ?_, ?_, ?_, ?_, H.data⟩
    · intro r hr
      rcases List.mem_append.1 hr with hr | hr
      · exact H.laid r hr
      · rw [List.mem_singleton.1 hr]; exact hW
    · intro r hr b hb
      rcases List.mem_append.1 hr with hr | hr
      · exact H.new r hr b hb
      · rw [List.mem_singleton.1 hr] at hb; cases hb; omega
    · intro r hr b hb
      rcases List.mem_append.1 hr with hr | hr
      · exact H.hid r hr b hb
      · rw [List.mem_singleton.1 hr] at hb; cases hb
        intro c t f hv
        have := H.data.cel _ _ _ _ hv
        rw [hW] at this
        cases this
    · refine List.pairwise_append.2 ⟨H.apart, List.pairwise_singleton _ _, fun r hr s hs b hb hb' => ?_⟩
      obtain ⟨c, t, f, hcell⟩ := Res.cell_of (List.all_eq_true.1 hc r hr) (H.laid r hr) hb
      rw [List.mem_singleton.1 hs] at hb'
      cases hb'
      rw [hW] at hcell
      cases hcell
  refine range_vc hT hro hg hit hps hpn (fun k W => ∃ V1 s, Sub V V1 ∧ F k s V1 ∧ Rel w0 V0 (own k s) V1 W) (fun c W => ∃ V1 t, Sub V V1 ∧ Fx c t V1 ∧ Rel w0 V0 (ownx c t) V1 W) ?_ ?_ ?_ ⟨V1, s0, hV1, hF, H⟩ ?_ ?_ ?_
  · rintro k W W' ⟨V1, s, h1, h2, h3⟩ ht
    exact ⟨V1, s, h1, h2, h3.tw (hcell k s) hB ht⟩
  · rintro c W W' ⟨V1, t, h1, h2, h3⟩ ht
    exact ⟨V1, t, h1, h2, h3.tw (hcellx c t) hB ht⟩
  · rintro k W ⟨V1, s, h1, h2, h3⟩
    exact h1.trans h3.data
  · rintro L k x W hx ⟨V1, s, h1, h2, h3⟩
    exact hround L k x W s V1 hx h1 h2 h3
  · rintro D W hD hW ⟨V1, s, h1, h2, h3⟩
    exact hdone D W s V1 h1 h2 (withD (hcell _ s) hD hW h3)
  · rintro D c W hD hW ⟨V1, t, h1, h2, h3⟩
    exact hstop D c W t V1 h1 h2 (withD (hcellx c t) hD hW h3)
/-- the marks at a function's end -/
theorem Rel.unmark {w0 V0 V w : World} {own : List Res} {D : Nat} {d : Obj} (H : Rel w0 V0 own V w) {own' : List Res} (hs : own'.Sublist own) (hc : own'.all Res.isC = true) (hD : Res.obj D d ∈ own) {w' : World} (ht : Tw D w w') : Rel w0 V0 own' V w' :=
  (H.sl hs).tw hc (H.new _ hD D rfl) ht
theorem Rel.mark {w0 V0 V w : World} {own : List Res} {D : Nat} {d : Obj} (H : Rel w0 V0 own V w) (hD : Res.obj D d ∈ own) : w.heap[D]? = some d := H.laid (.obj D d) hD
end Go.Proofs.YtjfcpnlacodjjaaGreat
