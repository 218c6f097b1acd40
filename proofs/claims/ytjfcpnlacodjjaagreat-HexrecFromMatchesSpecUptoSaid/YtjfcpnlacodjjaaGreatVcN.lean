/-
  Ranges over functions inside a loop: the marks of earlier rounds are owned, too.
-/
import Derived.Test.YtjfcpnlacodjjaaGreatVcX
namespace Go.Proofs.YtjfcpnlacodjjaaGreat
open Go Go.RowKit

/-- cells, or a mark that is older than B -/
def Res.isB (B : Nat) : Res → Bool
  | .obj b o => decide (b < B) && notCells o
  | _ => true
abbrev dob (D : Nat) : Res := .obj D (.deferred (some []))
abbrev col (D : Nat) : Deferred := { target := .collected D, args := #[] }
theorem dob_isB {B : Nat} {Ds : List Nat} (h : ∀ D ∈ Ds, D < B) : (Ds.map dob).all (Res.isB B) = true := by
  rw [List.all_map, List.all_eq_true]
  intro D hD
  show (decide (D < B) && notCells _) = true
  rw [decide_eq_true (h D hD)]
  rfl
section
variable {w0 V0 V w : World} {own : List Res}
theorem Rel.twB {B : Nat} (H : Rel w0 V0 own V w) (hc : own.all (Res.isB B) = true) (hB : w0.heap.size ≤ B) {w' : World} (ht : Tw B w w') : Rel w0 V0 own V w' := by
  refine ⟨⟨ht.os.trans H.base.os, ht.tape.trans H.base.tape, ht.output.trans H.base.output, Nat.le_trans H.base.size ht.size, fun k hk => (ht.low k (by omega)).trans (H.base.block k hk)⟩, H.sub, H.old, fun r hr => ?_, H.new, H.hid, H.apart, ⟨fun b c t f hb => ht.cel _ _ _ _ (H.data.cel b c t f hb)⟩⟩
  have h1 := H.laid r hr
  have h2 := List.all_eq_true.1 hc r hr
  cases r with
  | blk b l t => exact Blk.tw h1 ht
  | row s e sz xs => exact Row.twb h1 ht
  | obj b o =>
    simp only [Res.isB, Bool.and_eq_true, decide_eq_true_eq] at h2
    exact (ht.low b h2.1).trans h1
theorem Rel.marksB (H : Rel w0 V0 own V w) {B : Nat} (hc : own.all (Res.isB B) = true) (hB : w0.heap.size ≤ B) : ∃ X : List Res, Rel w0 V0 (own ++ X) V w ∧ ∀ w', (∀ r ∈ X, r.laid w') → Keep B w w' := by
  refine ⟨(List.range w.heap.size).filterMap (markOf w B), ⟨H.base, H.sub, H.old, ?_, ?_, ?_, ?_, H.data⟩, ?_⟩
  · intro r hr
    rcases List.mem_append.1 hr with hr | hr
    · exact H.laid r hr
    · obtain ⟨j, _, hj⟩ := List.mem_filterMap.1 hr
      obtain ⟨o, ho, _, _, rfl⟩ := markOf_some hj
      exact ho
  · intro r hr b hb
    rcases List.mem_append.1 hr with hr | hr
    · exact H.new r hr b hb
    · obtain ⟨j, _, hj⟩ := List.mem_filterMap.1 hr
      obtain ⟨o, ho, hBj, _, rfl⟩ := markOf_some hj
      cases hb
      omega
  · intro r hr b hb
    rcases List.mem_append.1 hr with hr | hr
    · exact H.hid r hr b hb
    · obtain ⟨j, _, hj⟩ := List.mem_filterMap.1 hr
      obtain ⟨o, ho, hBj, hn, rfl⟩ := markOf_some hj
      cases hb
      intro c t f hv
      have := H.data.cel _ _ _ _ hv
      rw [ho] at this
      cases this
      cases hn
  · refine List.pairwise_append.2 ⟨H.apart, ?_, fun r hr s hs b hb hb' => ?_⟩
    · rw [List.pairwise_filterMap]
      refine List.Pairwise.imp ?_ List.nodup_range
      intro i j hij r hr s hs b hb hb'
      obtain ⟨o, ho, _, _, rfl⟩ := markOf_some hr
      obtain ⟨o', ho', _, _, rfl⟩ := markOf_some hs
      cases hb
      cases hb'
      exact hij rfl
    · obtain ⟨j, _, hj⟩ := List.mem_filterMap.1 hs
      obtain ⟨o, ho, hBj, hn, rfl⟩ := markOf_some hj
      cases hb'
      have hcr := List.all_eq_true.1 hc r hr
      have hl := H.laid r hr
      cases r with
      | obj b' o' =>
        simp only [Res.isB, Bool.and_eq_true, decide_eq_true_eq] at hcr
        cases hb
        omega
      | blk b' l t =>
        obtain ⟨c, t, f, hcell⟩ := Res.cell_of rfl hl hb
        rw [ho] at hcell
        cases hcell
        cases hn
      | row s e sz xs =>
        obtain ⟨c, t, f, hcell⟩ := Res.cell_of rfl hl hb
        rw [ho] at hcell
        cases hcell
        cases hn
  · intro w' hX j o hj ho hn
    have hlt := (Array.getElem?_eq_some_iff.1 ho).1
    have hno : notCells o = true := by
      cases o with
      | cells c t f => exact absurd rfl (hn c t f)
      | _ => rfl
    exact hX (.obj j o) (List.mem_filterMap.2 ⟨j, List.mem_range.2 hlt, by simp [markOf, ho, hj, hno]⟩)
/-- the marks at a function's end, of however many ranges -/
theorem Rel.marksEnd {k : World → Prop} (hc : own.all Res.isC = true) : ∀ {Ds : List Nat} {w : World}, Ds.Pairwise (fun a b => b < a) → Rel w0 V0 (own ++ Ds.map dob) V w → (∀ w', Rel w0 V0 own V w' → k w') → marksK (Ds.map col) w k
  | [], w, _, H, hk => hk w (by simpa using H)
  | D :: Ds, w, hp, H, hk => by
    obtain ⟨h1, h2⟩ := List.pairwise_cons.1 hp
    have hm : Res.obj D (.deferred (some [])) ∈ own ++ (D :: Ds).map dob := by simp
    refine ⟨H.laid _ hm, fun w' ht => Rel.marksEnd hc h2 (Rel.twB (B := D) (H.sl (own' := own ++ Ds.map dob) ?_) ?_ (H.new _ hm D rfl) ht) hk⟩
    · exact (List.Sublist.refl own).append (List.sublist_cons_self _ _)
    · rw [List.all_append, dob_isB h1, Bool.and_true, List.all_eq_true]
      intro r hr
      have := List.all_eq_true.1 hc r hr
      cases r with
      | obj b o => cases this
      | _ => rfl
end
/-- a loop in which marks may grow in number -/
theorem loop_invD {C : Cx} (hT : TabOk C.P C.T) {c : Code} {env : Env} {ds : List Deferred} {w : World} {Q : Post} {S : Type} (ks : List Nat) (vars : S → Env) (D : S → List Deferred)
    (I : S → World → Prop) (μ : S → World → Nat) (s0 : S) (hd0 : ds = D s0)
    (h : pruneK env ks fun keep => subK env (vars s0) ∧ I s0 w ∧ ∀ s w, I s w → vcCode C c (vars s ++ keep) (D s) w fun e env' ds' w' => (match e with
      | .normal => subK env' keep ∧ ∃ s', ds' = D s' ∧ subK env' (vars s') ∧ I s' w' ∧ μ s' w' < μ s w
      | e => Q e env' ds' w')) : SemC C (.loop c) env ds w Q := by
  obtain ⟨keep, hk, h0, hI, hr⟩ := pruneK_sound h
  have app : ∀ {e1 e2 : Env} {t : Nat} {v : Value}, get? (e1 ++ e2) t = some v → get? e1 t = some v ∨ get? e2 t = some v := by
    intro e1 e2 t v h
    induction e1 with
    | nil => exact .inr h
    | cons p r ih =>
      obtain ⟨s, u⟩ := p
      simp only [List.cons_append, get?] at h ⊢
      cases e : Nat.beq s t with
      | true => simp only [e] at h ⊢; exact .inl h
      | false => simp only [e] at h ⊢; exact ih h
  refine ⟨fun a hs hn hd => ?_⟩
  refine wpIn_loop_ghost (fun s a w => a.tmps.size = C.n ∧ a.defers = D s ∧ Sat (vars s ++ keep) a.tmps ∧ I s w) μ s0
    ⟨hn, hd.trans hd0, fun t v h => (app h).elim (fun h => hs t v (subK_sound h0 t v h)) (fun h => hs t v (hk t v h)), hI⟩ ?_
  rintro s a w ⟨hn, hd, hs, hI⟩
  refine wpIn_mono ((vcCode_sound hT (hr s w hI)).out a hs hn hd) fun e a' w' ⟨h1, env', h2, h3⟩ => ?_
  cases e with
  | normal =>
    obtain ⟨h8, s', h4, h5, h6, h7⟩ := h3
    exact ⟨s', ⟨h1, h4, fun t v h => (app h).elim (fun h => h2 t v (subK_sound h5 t v h)) (fun h => h2 t v (subK_sound h8 t v h)), h6⟩, h7⟩
  | _ => exact ⟨h1, env', h2, h3⟩
/-- a range over a function that ends by itself -/
theorem range_relB {C : Cx} (hT : TabOk C.P C.T) (hro : C.r = none) {g : Operand} {ps : Array Tmp} {assign body : Code} {env : Env} {ds : List Deferred} {w : World} {Q : Post} {gf : Nat} {lb : List Value} {w0 V0 V : World}
    (hg : withV env g fun v => v = .func (.func gf) #[] lb.toArray) {xs : List (List Value)} (hit : IterOk C.P gf lb xs (fun W => Sub V W)) (hps : ∀ x ∈ xs, x.length = ps.size) (hpn : (ps.toList.all fun p => decide (p < C.n)) = true)
    {σ : Type} (own : Nat → σ → List Res) (hcell : ∀ k s, (own k s).all (Res.isB w.heap.size) = true) (F : Nat → σ → World → Prop)
    (s0 : σ) {V1 : World} (hV1 : Sub V V1) (H : Rel w0 V0 (own 0 s0) V1 w) (hF : F 0 s0 V1)
    (hround : ∀ L k x W s V1, xs[k]? = some x → Sub V V1 → F k s V1 → Rel w0 V0 (own k s) V1 W → vcCode { C with r := some L } assign (putAll ps.toList x env) [] W fun e env1 ds1 W1 => (match e with
      | .normal => ds1 = [] ∧ Keep w.heap.size W W1 ∧ ∀ W2, Tw w.heap.size W1 W2 → vcCode { C with r := some L } body env1 [] W2 (roundQ w.heap.size W2 (fun W => ∃ V1 s, Sub V V1 ∧ F (k + 1) s V1 ∧ Rel w0 V0 (own (k + 1) s) V1 W) (fun _ _ => False))
      | _ => False))
    (hdone : ∀ D W s V1, w.heap.size ≤ D → Sub V V1 → F xs.length s V1 → Rel w0 V0 (own xs.length s ++ [dob D]) V1 W → Q .normal env (col D :: ds) W) :
    SemC C (.rangeFunc g ps assign body) env ds w Q := by
  have hB : w0.heap.size ≤ w.heap.size := H.base.size
  refine range_vc hT hro hg hit hps hpn (fun k W => ∃ V1 s, Sub V V1 ∧ F k s V1 ∧ Rel w0 V0 (own k s) V1 W) (fun _ _ => False) ?_ ?_ ?_ ⟨V1, s0, hV1, hF, H⟩ ?_ ?_ ?_
  · rintro k W W' ⟨V1, s, h1, h2, h3⟩ ht
    exact ⟨V1, s, h1, h2, h3.twB (hcell k s) hB ht⟩
  · intro c W W' h _
    exact h
  · rintro k W ⟨V1, s, h1, h2, h3⟩
    exact h1.trans h3.data
  · rintro L k x W hx ⟨V1, s, h1, h2, h3⟩
    exact hround L k x W s V1 hx h1 h2 h3
  · rintro D W hD hW ⟨V1, s, h1, h2, H⟩
    refine hdone D W s V1 hD h1 h2 ⟨H.base, H.sub, H.old, ?_, ?_, ?_, ?_, H.data⟩
    · intro r hr
      rcases List.mem_append.1 hr with hr | hr
      · exact H.laid r hr
      · rw [List.mem_singleton.1 hr]; exact hW
    · intro r hr b hb
      rcases List.mem_append.1 hr with hr | hr
      · exact H.new r hr b hb
      · rw [List.mem_singleton.1 hr] at hb; cases hb; omega
    · intro r hr b hb
      rcases List.mem_append.1 hr with hr | hr
      · exact H.hid r hr b hb
      · rw [List.mem_singleton.1 hr] at hb; cases hb
        intro c t f hv
        have := H.data.cel _ _ _ _ hv
        rw [hW] at this
        cases this
    · refine List.pairwise_append.2 ⟨H.apart, List.pairwise_singleton _ _, fun r hr s hs b hb hb' => ?_⟩
      rw [List.mem_singleton.1 hs] at hb'
      cases hb'
      have hcr := List.all_eq_true.1 (hcell _ _) r hr
      have hl := H.laid r hr
      cases r with
      | obj b' o' =>
        simp only [Res.isB, Bool.and_eq_true, decide_eq_true_eq] at hcr
        cases hb
        omega
      | blk b' l t =>
        obtain ⟨c, t, f, hcell⟩ := Res.cell_of rfl hl hb
        rw [hW] at hcell
        cases hcell
      | row s e sz xs =>
        obtain ⟨c, t, f, hcell⟩ := Res.cell_of rfl hl hb
        rw [hW] at hcell
        cases hcell
  · rintro D c W hD hW h
    exact h.elim
end Go.Proofs.YtjfcpnlacodjjaaGreat
