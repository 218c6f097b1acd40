/-
  From a law's walk to its row: the arguments are opened, the answer and the arguments are read again.
-/
import Derived.Test.YtgnaojphgdaalaaVcR
import Derived.Test.YtgnaojphgdaalaaRows
import Derived.WalkKit
import Derived.ProofKit
import Derived.OpenShut
import Derived.JoinedCond
namespace Go.Proofs.Ytgnaojphgdaalaa
open Go Go.RowKit Go.ChangeShapes Go.WideShapes Go.ChangeAt

section
variable {H : Type} {enc : TypeId × Value → H} {P : Program} {W W' : World}
theorem mapM_keep {α β : Type} {f g : α → Option β} : ∀ {l : List α} {ys : List β}, (∀ a ∈ l, ∀ y, f a = some y → g a = some y) → l.mapM f = some ys → l.mapM g = some ys
  | [], ys, _, h => by simpa using h
  | a :: l, ys, hk, h => by
    rw [List.mapM_cons] at h ⊢
    cases hf : f a with
    | none => simp [hf] at h
    | some y =>
      cases hl : l.mapM f with
      | none => simp [hf, hl] at h
      | some zs =>
        rw [hk a (by simp) y hf, mapM_keep (fun b hb => hk b (by simp [hb])) hl]
        rw [hf, hl] at h
        exact h
theorem mapM_mem {α β : Type} {f : α → Option β} : ∀ {l : List α} {ys : List β}, l.mapM f = some ys → ∀ a ∈ l, ∃ y, f a = some y
  | [], _, _, a, ha => by simp at ha
  | b :: l, ys, h, a, ha => by
    rw [List.mapM_cons] at h
    cases hf : f b with
    | none => simp [hf] at h
    | some y =>
      cases hl : l.mapM f with
      | none => simp [hf, hl] at h
      | some zs =>
        rcases List.mem_cons.1 ha with rfl | ha
        · exact ⟨y, hf⟩
        · exact mapM_mem hl a ha
theorem cell_keep (hbl : ∀ k, k < W.heap.size → W'.heap[k]? = W.heap[k]?) {a : Addr} {v : Value} (h : W.cell? a = some v) : W'.cell? a = some v := by
  rw [World.cell?_of_block (hbl _ (World.block_lt_of_cell? _ _ h))]; exact h
theorem cells_keep (hbl : ∀ k, k < W.heap.size → W'.heap[k]? = W.heap[k]?) {b : Nat} {a : Addr} {n : Nat} {cs : List Value} (h : W.cells? b a n = some cs) : W'.cells? b a n = some cs := by
  unfold World.cells? at h ⊢
  split at h
  · rename_i hb
    rw [if_pos hb]
    exact mapM_keep (fun i _ y hy => cell_keep hbl hy) h
  · cases h
theorem block_add (a : Addr) (n : Nat) : (a.add n).block = a.block := by unfold Addr.add; split <;> rfl
/-- the types of the table name types of the table; a slice's elements take room -/
def closedOk (P : Program) : Bool := (List.range P.types.size).all fun t => match P.underlying t with
  | some (.pointer e) => decide (e < P.types.size)
  | some (.slice e) => decide (e < P.types.size) && decide (0 < P.cellsOf e)
  | some (.struct fs) => fs.all fun f => decide (f.type < P.types.size)
  | some (.array _ e) => decide (e < P.types.size)
  | some (.map _ e) => decide (e < P.types.size)
  | _ => true
theorem closed_at (h : closedOk P = true) {t : TypeId} (ht : t < P.types.size) : (match P.underlying t with
  | some (.pointer e) => decide (e < P.types.size)
  | some (.slice e) => decide (e < P.types.size) && decide (0 < P.cellsOf e)
  | some (.struct fs) => fs.all fun f => decide (f.type < P.types.size)
  | some (.array _ e) => decide (e < P.types.size)
  | some (.map _ e) => decide (e < P.types.size)
  | _ => true) = true := List.all_eq_true.1 h t (List.mem_range.2 ht)
theorem trod_grow (hbl : ∀ k, k < W.heap.size → W'.heap[k]? = W.heap[k]?) (hpos : closedOk P = true) {sp : Nat → Bool} (hsp : ∀ b, b < W.heap.size → sp b = true) : ∀ (n : Nat) (t : TypeId) (cs : List Value) (x : DataW H × List MemPlace), t < P.types.size →
    DataW.trod enc P W 0 (fun _ => true) true n t cs = some x → DataW.trod enc P W' 0 sp true n t cs = some x := by
  intro n
  induction n with
  | zero => intro t cs x ht h; simp [DataW.trod] at h
  | succ n ih =>
    intro t cs x ht h
    have hcl := closed_at hpos ht
    have hel : ∀ (a : Addr) (m : Nat) (e : TypeId) (y : DataW H × List MemPlace), e < P.types.size → (W.cells? 0 a m).bind (DataW.trod enc P W 0 (fun _ => true) true n e) = some y → (W'.cells? 0 a m).bind (DataW.trod enc P W' 0 sp true n e) = some y := by
      intro a m e y he hy
      obtain ⟨c, hc, hy⟩ := Option.bind_eq_some_iff.1 hy
      rw [cells_keep hbl hc]
      exact ih e c y he hy
    unfold DataW.trod at h ⊢
    split at h
    case h_6 e a hu =>
      obtain ⟨y, hy, rfl⟩ := Option.map_eq_some_iff.1 h
      simp only [hu, decide_eq_true_eq] at hcl
      simp only [hel _ _ _ _ hcl hy, Option.map_some]
    case h_8 e a len cap hu =>
      simp only [hu, Bool.and_eq_true, decide_eq_true_eq] at hcl
      obtain ⟨hce, hcp⟩ := hcl
      simp only []
      split at h
      · rename_i hcond
        rw [if_pos hcond]
        obtain ⟨elems, he, h⟩ := Option.bind_eq_some_iff.1 h
        simp only [if_true] at h
        obtain ⟨rest, hr, hx⟩ := Option.map_eq_some_iff.1 h
        rw [mapM_keep (fun i _ y hy => hel _ _ _ _ hce hy) he]
        simp only [Option.bind_some]
        by_cases hs : sp a.block = true
        · rw [if_pos hs, mapM_keep (fun i _ y hy => hel _ _ _ _ hce hy) hr]
          simp only [Option.map_some, hx]
        · have h0 : cap - len = 0 := by
            refine Decidable.byContradiction fun hne => hs (hsp _ ?_)
            obtain ⟨y, hy⟩ := mapM_mem hr 0 (List.mem_range.2 (by omega))
            obtain ⟨c, hc, _⟩ := Option.bind_eq_some_iff.1 hy
            unfold World.cells? at hc
            rw [if_pos (Nat.zero_le _)] at hc
            obtain ⟨v, hv⟩ := mapM_mem hc 0 (List.mem_range.2 hcp)
            have := World.block_lt_of_cell? _ _ hv
            rwa [block_add, block_add] at this
          rw [if_neg hs]
          rw [h0] at hr
          have hr0 : rest = [] := by simpa using hr.symm
          subst hr0
          simp only [Option.map_some, hx]
      · cases h
    case h_9 =>
      rename_i fs hu
      have hcl' : ∀ f ∈ fs.toList, f.type < P.types.size := by
        rw [hu] at hcl
        intro f hf
        have := Array.all_eq_true'.1 hcl f (by simpa using hf)
        simpa using this
      split at h
      · rename_i hc
        rw [if_pos hc]
        obtain ⟨ys, hy, rfl⟩ := Option.map_eq_some_iff.1 h
        rw [mapM_keep (fun i hi y hy => ih _ _ _ (hcl' i hi) hy) hy]
        rfl
      · cases h
    case h_10 =>
      rename_i m e hu
      have hcl' : e < P.types.size := by
        rw [hu] at hcl
        simpa using hcl
      split at h
      · rename_i hc
        rw [if_pos hc]
        obtain ⟨ys, hy, rfl⟩ := Option.map_eq_some_iff.1 h
        rw [mapM_keep (fun i _ y hy => ih _ _ _ hcl' hy) hy]
        rfl
      · cases h
    case h_14 k e b hu =>
      simp only [hu, decide_eq_true_eq] at hcl
      simp only []
      split at h
      · rename_i es clock hb
        have hlt := (Array.getElem?_eq_some_iff.1 hb).1
        rw [hbl b hlt, hb]
        simp only
        split at h
        · rename_i hc
          rw [if_pos hc]
          obtain ⟨ents, he, h⟩ := Option.bind_eq_some_iff.1 h
          rw [mapM_keep (fun q _ y hy => ?_) he]
          · exact h
          · obtain ⟨key, hk, hy⟩ := Option.bind_eq_some_iff.1 hy
            simp only [hk, Option.bind_some]
            split at hy
            · rename_i hf
              rw [if_pos hf]
              obtain ⟨z, hz, rfl⟩ := Option.map_eq_some_iff.1 hy
              rw [ih _ _ _ hcl hz]
              rfl
            · cases hy
        · cases h
      · cases h
    all_goals first
      | exact h
      | (cases h; done)
      | (rename_i hu; simp only [hu]; exact h)
      | (rename_i hu _; simp only [hu]; exact h)
theorem trodAll_grow (hbl : ∀ k, k < W.heap.size → W'.heap[k]? = W.heap[k]?) (hpos : closedOk P = true) {sp : Nat → Bool} (hsp : ∀ b, b < W.heap.size → sp b = true) : ∀ {ts : List TypeId} {vs : List Value} {ds : List (DataW H)} {ps : List MemPlace}, (∀ t ∈ ts, t < P.types.size) →
    DataW.TrodAll enc P W 0 (fun _ => true) true ts vs ds ps → DataW.TrodAll enc P W' 0 sp true ts vs ds ps
  | [], [], [], _, _, h => h
  | t :: ts, v :: vs, d :: ds, ps, ht, ⟨p, q, ⟨n, h1⟩, h2, e⟩ => ⟨p, q, ⟨n, trod_grow hbl hpos hsp n t _ _ (ht t (by simp)) h1⟩, trodAll_grow hbl hpos hsp (fun u hu => ht u (by simp [hu])) h2, e⟩
  | [], [], _ :: _, _, _, h => h.elim
  | [], _ :: _, _, _, _, h => by cases ‹List (DataW H)› <;> exact h.elim
  | _ :: _, [], _, _, _, h => by cases ‹List (DataW H)› <;> exact h.elim
  | _ :: _, _ :: _, [], _, _, h => h.elim
theorem kept_of_ext {may : MemPlace → Prop} (hE : Ext W W') : W.keptBut W' may := by
  refine ⟨hE.os, hE.output, fun i hi => ?_⟩
  rw [hE.block i hi]
  split
  · rename_i c t fr c' t' fr' h1 h2
    rw [h1] at h2
    cases h2
    exact ⟨rfl, rfl, rfl, fun _ _ => rfl⟩
  · rename_i es cl es' cl' h1 h2
    rw [h1] at h2
    cases h2
    exact .inr ⟨rfl, rfl⟩
  · rfl
theorem law_post {f : Func} {s : ChangeSpec} {apart : Bool} {args : Array Value} {v : Value} {ds gs : List (DataW H)} {before : List MemPlace} (hW : DataW.Whole enc P f.params.toList s.vars apart W args.toList ds gs before) (hvars : s.vars = [])
    (hE : Ext W W') (hpos : closedOk P = true) (hpar : (f.params.toList.all fun t => decide (t < P.types.size)) = true) {tb : TypeId} (hres : f.resultTypes = #[tb]) (htb : P.underlying tb = some .bool) (hv : v = .bool true)
    (hfn : s.fn H (ds ++ gs) = { results := [.lit (.bool true)], args := ds }) : s.post enc P f apart true false false W args v W' := by
  subst hv
  have hW' := hW
  obtain ⟨p, q, hA, hV, rfl, _, _⟩ := hW
  rw [hvars] at hV
  obtain ⟨rfl, rfl⟩ := trodVars_none hV
  refine ⟨ds, [], p ++ [], [], p, [], hW', ?_, ?_, ?_, kept_of_ext hE, fun h => by cases h⟩
  · rw [hfn, hres]
    exact trodAll_cons_mk (shut_bool htb true) trodAll_mk0
  · rw [hfn]
    exact trodAll_grow hE.block hpos (fun b hb => by simpa using hb) (fun t ht => by simpa using List.all_eq_true.1 hpar t ht) hA
  · rw [hfn, hvars]
    exact rfl
/-! ### a slice of bytes that comes in -/
theorem bulk_lits (k : IntKind) (l : List Int) : Rows.uptoBulkAll (lits (H := H) k l) = l.length := by
  induction l with
  | nil => rfl
  | cons x l ih =>
    simp only [lits, List.map_cons, Rows.uptoBulkAll, Rows.uptoBulk, List.length_cons] at ih ⊢
    omega
theorem open_bytes {t e : TypeId} (ht : P.underlying t = some (.slice e)) (he : P.underlying e = some (.int .u8)) (hc : P.cellsOf e = 1) {r : Reach} {b0 : Nat} {v : Value} {d : DataW H} {ps : List MemPlace}
    (hval : Value.okWide P W r b0 t v) (hd : DataW.Trod enc P W 0 (fun _ => true) true t v d ps) : ∃ (s : Sl) (l : List UInt8), v = s.v ∧ By W s l ∧ l.length ≤ Rows.uptoBulk d := by
  obtain ⟨a, len, cap, rfl⟩ := okWide_slice ht hval
  obtain ⟨fuel, hf⟩ := hd
  rcases open_ints ht he hc hf with ⟨h1, h2⟩ | ⟨a', len', cap', zs, h1, _, hle, hmax, hzl, hx, hcell, hwf⟩
  · simp only [Value.cells, List.cons.injEq, Value.slice.injEq, and_true] at h1
    obtain ⟨rfl, rfl, rfl⟩ := h1
    exact ⟨⟨none, 0, 0⟩, [], rfl, ⟨rfl, ⟨fun h => absurd rfl h, fun j v hj => by simp at hj⟩, Nat.le_refl _⟩, Nat.zero_le _⟩
  · simp only [Value.cells, List.cons.injEq, Value.slice.injEq, and_true] at h1
    obtain ⟨rfl, rfl, rfl⟩ := h1
    simp only [if_true] at hzl
    simp only [Prod.mk.injEq] at hx
    obtain ⟨rfl, _⟩ := hx
    have hb : ∀ n ∈ zs, 0 ≤ n ∧ n < 256 := by
      intro n hn
      have := hwf n hn
      simp only [Lit.wf, Bool.and_eq_true, decide_eq_true_eq] at this
      have h1 : IntKind.u8.min = 0 := by decide
      have h2 : IntKind.u8.max = 255 := by decide
      omega
    have hbv : ∀ n, 0 ≤ n → n < 256 → bv (UInt8.ofNat n.toNat) = .int .u8 n := by
      intro n h0 h1
      simp only [bv, UInt8.toNat_ofNat']
      congr 1
      omega
    refine ⟨⟨some a', len, cap⟩, (zs.take len).map fun n => UInt8.ofNat n.toNat, rfl, ⟨by simp; omega, ?_, hle⟩, ?_⟩
    · have hj : ∀ (j : Nat) (v : Value), (((zs.take len).map fun n => UInt8.ofNat n.toNat).map bv)[j]? = some v → W.cell? (a'.add j) = some v := by
        intro j v hv
        simp only [List.map_map, List.getElem?_map, Option.map_eq_some_iff, Function.comp] at hv
        obtain ⟨n, hn, rfl⟩ := hv
        rw [List.getElem?_take] at hn
        split at hn
        · have hmem := List.mem_of_getElem? hn
          have hlt := (List.getElem?_eq_some_iff.1 hn).1
          have := hcell j hlt
          rw [hbv n (hb n hmem).1 (hb n hmem).2, this]
          simp [List.getD, hn]
        · cases hn
      have hpl : ((zs.take len).map fun n => UInt8.ofNat n.toNat).map bv ≠ [] → a' = ⟨a'.block, a'.off, none⟩ := by
        intro hne
        obtain ⟨v, r, hvr⟩ := List.exists_cons_of_ne_nil hne
        have h0 := hj 0 v (by rw [hvr]; rfl)
        simp only [Addr.add, if_true] at h0
        have hsp : a'.spot = none := by
          unfold World.cell? at h0
          split at h0
          · split at h0
            · cases h0
            · rename_i hn; simpa using hn
          · cases h0
        cases a'
        simp at hsp
        subst hsp
        rfl
      refine ⟨fun hne => by rw [Plain]; exact congrArg some (hpl hne), fun j v hv => ?_⟩
      have := hj j v hv
      rw [hpl (by intro e; rw [e] at hv; simp at hv), addr_add] at this
      exact this
    · simp only [Rows.uptoBulk, bulk_lits, List.length_map]
      omega
end
end Go.Proofs.Ytgnaojphgdaalaa
