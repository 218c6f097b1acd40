/-
  From a law's walk to its row: the arguments are opened, the answer and the arguments are read again.
-/
import Derived.Test.YtffaffojkfalhaaGreatDoorVcR
import Derived.Test.YtffaffojkfalhaaGreatDoorRows
import Derived.WalkKit
import Derived.ProofKit
import Derived.OpenShut
import Derived.JoinedCond
import Derived.Test.YtffaffojkfalhaaGreatDoorVcS
namespace Go.Proofs.YtffaffojkfalhaaGreatDoor
open Go Go.RowKit Go.ChangeShapes Go.WideShapes Go.ChangeAt

section
variable {H : Type} {enc : TypeId × Value → H} {P : Program} {W W' : World}
theorem mapM_keep {α β : Type} {f g : α → Option β} : ∀ {l : List α} {ys : List β}, (∀ a ∈ l, ∀ y, f a = some y → g a = some y) → l.mapM f = some ys → l.mapM g = some ys
  | [], ys, _, h => by simpa using h
  | a :: l, ys, hk, h => by
    rw [List.mapM_cons] at h ⊢
    cases hf : f a with
    | none => simp [hf] at h
    | some y =>
      cases hl : l.mapM f with
      | none => simp [hf, hl] at h
      | some zs =>
        rw [hk a (by simp) y hf, mapM_keep (fun b hb => hk b (by simp [hb])) hl]
        rw [hf, hl] at h
        exact h
theorem mapM_mem {α β : Type} {f : α → Option β} : ∀ {l : List α} {ys : List β}, l.mapM f = some ys → ∀ a ∈ l, ∃ y, f a = some y
  | [], _, _, a, ha => by simp at ha
  | b :: l, ys, h, a, ha => by
    rw [List.mapM_cons] at h
    cases hf : f b with
    | none => simp [hf] at h
    | some y =>
      cases hl : l.mapM f with
      | none => simp [hf, hl] at h
      | some zs =>
        rcases List.mem_cons.1 ha with rfl | ha
        · exact ⟨y, hf⟩
        · exact mapM_mem hl a ha
theorem cell_keep (hbl : ∀ k, k < W.heap.size → W'.heap[k]? = W.heap[k]?) {a : Addr} {v : Value} (h : W.cell? a = some v) : W'.cell? a = some v := by
  rw [World.cell?_of_block (hbl _ (World.block_lt_of_cell? _ _ h))]; exact h
theorem cells_keep (hbl : ∀ k, k < W.heap.size → W'.heap[k]? = W.heap[k]?) {b : Nat} {a : Addr} {n : Nat} {cs : List Value} (h : W.cells? b a n = some cs) : W'.cells? b a n = some cs := by
  unfold World.cells? at h ⊢
  split at h
  · rename_i hb
    rw [if_pos hb]
    exact mapM_keep (fun i _ y hy => cell_keep hbl hy) h
  · cases h
theorem block_add (a : Addr) (n : Nat) : (a.add n).block = a.block := by unfold Addr.add; split <;> rfl
/-- the types of the table name types of the table; a slice's elements take room -/
def closedOk (P : Program) : Bool := (List.range P.types.size).all fun t => match P.underlying t with
  | some (.pointer e) => decide (e < P.types.size)
  | some (.slice e) => decide (e < P.types.size) && decide (0 < P.cellsOf e)
  | some (.struct fs) => fs.all fun f => decide (f.type < P.types.size)
  | some (.array _ e) => decide (e < P.types.size)
  | some (.map _ e) => decide (e < P.types.size)
  | _ => true
theorem closed_at (h : closedOk P = true) {t : TypeId} (ht : t < P.types.size) : (match P.underlying t with
  | some (.pointer e) => decide (e < P.types.size)
  | some (.slice e) => decide (e < P.types.size) && decide (0 < P.cellsOf e)
  | some (.struct fs) => fs.all fun f => decide (f.type < P.types.size)
  | some (.array _ e) => decide (e < P.types.size)
  | some (.map _ e) => decide (e < P.types.size)
  | _ => true) = true := List.all_eq_true.1 h t (List.mem_range.2 ht)
theorem trod_grow (hbl : ∀ k, k < W.heap.size → W'.heap[k]? = W.heap[k]?) (hpos : closedOk P = true) {sp : Nat → Bool} (hsp : ∀ b, b < W.heap.size → sp b = true) : ∀ (n : Nat) (t : TypeId) (cs : List Value) (x : DataW H × List MemPlace), t < P.types.size →
    DataW.trod enc P W 0 (fun _ => true) true n t cs = some x → DataW.trod enc P W' 0 sp true n t cs = some x := by
  intro n
  induction n with
  | zero => intro t cs x ht h; simp [DataW.trod] at h
  | succ n ih =>
    intro t cs x ht h
    have hcl := closed_at hpos ht
    have hel : ∀ (a : Addr) (m : Nat) (e : TypeId) (y : DataW H × List MemPlace), e < P.types.size → (W.cells? 0 a m).bind (DataW.trod enc P W 0 (fun _ => true) true n e) = some y → (W'.cells? 0 a m).bind (DataW.trod enc P W' 0 sp true n e) = some y := by
      intro a m e y he hy
      obtain ⟨c, hc, hy⟩ := Option.bind_eq_some_iff.1 hy
      rw [cells_keep hbl hc]
      exact ih e c y he hy
    unfold DataW.trod at h ⊢
    split at h
    case h_6 e a hu =>
      obtain ⟨y, hy, rfl⟩ := Option.map_eq_some_iff.1 h
      simp only [hu, decide_eq_true_eq] at hcl
      simp only [hel _ _ _ _ hcl hy, Option.map_some]
    case h_8 e a len cap hu =>
      simp only [hu, Bool.and_eq_true, decide_eq_true_eq] at hcl
      obtain ⟨hce, hcp⟩ := hcl
      simp only []
      split at h
      · rename_i hcond
        rw [if_pos hcond]
        obtain ⟨elems, he, h⟩ := Option.bind_eq_some_iff.1 h
        simp only [if_true] at h
        obtain ⟨rest, hr, hx⟩ := Option.map_eq_some_iff.1 h
        rw [mapM_keep (fun i _ y hy => hel _ _ _ _ hce hy) he]
        simp only [Option.bind_some]
        by_cases hs : sp a.block = true
        · rw [if_pos hs, mapM_keep (fun i _ y hy => hel _ _ _ _ hce hy) hr]
          simp only [Option.map_some, hx]
        · have h0 : cap - len = 0 := by
            refine Decidable.byContradiction fun hne => hs (hsp _ ?_)
            obtain ⟨y, hy⟩ := mapM_mem hr 0 (List.mem_range.2 (by omega))
            obtain ⟨c, hc, _⟩ := Option.bind_eq_some_iff.1 hy
            unfold World.cells? at hc
            rw [if_pos (Nat.zero_le _)] at hc
            obtain ⟨v, hv⟩ := mapM_mem hc 0 (List.mem_range.2 hcp)
            have := World.block_lt_of_cell? _ _ hv
            rwa [block_add, block_add] at this
          rw [if_neg hs]
          rw [h0] at hr
          have hr0 : rest = [] := by simpa using hr.symm
          subst hr0
          simp only [Option.map_some, hx]
      · cases h
    case h_9 =>
      rename_i fs hu
      have hcl' : ∀ f ∈ fs.toList, f.type < P.types.size := by
        rw [hu] at hcl
        intro f hf
        have := Array.all_eq_true'.1 hcl f (by simpa using hf)
        simpa using this
      split at h
      · rename_i hc
        rw [if_pos hc]
        obtain ⟨ys, hy, rfl⟩ := Option.map_eq_some_iff.1 h
        rw [mapM_keep (fun i hi y hy => ih _ _ _ (hcl' i hi) hy) hy]
        rfl
      · cases h
    case h_10 =>
      rename_i m e hu
      have hcl' : e < P.types.size := by
        rw [hu] at hcl
        simpa using hcl
      split at h
      · rename_i hc
        rw [if_pos hc]
        obtain ⟨ys, hy, rfl⟩ := Option.map_eq_some_iff.1 h
        rw [mapM_keep (fun i _ y hy => ih _ _ _ hcl' hy) hy]
        rfl
      · cases h
    case h_14 k e b hu =>
      simp only [hu, decide_eq_true_eq] at hcl
      simp only []
      split at h
      · rename_i es clock hb
        have hlt := (Array.getElem?_eq_some_iff.1 hb).1
        rw [hbl b hlt, hb]
        simp only
        split at h
        · rename_i hc
          rw [if_pos hc]
          obtain ⟨ents, he, h⟩ := Option.bind_eq_some_iff.1 h
          rw [mapM_keep (fun q _ y hy => ?_) he]
          · exact h
          · obtain ⟨key, hk, hy⟩ := Option.bind_eq_some_iff.1 hy
            simp only [hk, Option.bind_some]
            split at hy
            · rename_i hf
              rw [if_pos hf]
              obtain ⟨z, hz, rfl⟩ := Option.map_eq_some_iff.1 hy
              rw [ih _ _ _ hcl hz]
              rfl
            · cases hy
        · cases h
      · cases h
    all_goals first
      | exact h
      | (cases h; done)
      | (rename_i hu; simp only [hu]; exact h)
      | (rename_i hu _; simp only [hu]; exact h)
theorem trodAll_grow (hbl : ∀ k, k < W.heap.size → W'.heap[k]? = W.heap[k]?) (hpos : closedOk P = true) {sp : Nat → Bool} (hsp : ∀ b, b < W.heap.size → sp b = true) : ∀ {ts : List TypeId} {vs : List Value} {ds : List (DataW H)} {ps : List MemPlace}, (∀ t ∈ ts, t < P.types.size) →
    DataW.TrodAll enc P W 0 (fun _ => true) true ts vs ds ps → DataW.TrodAll enc P W' 0 sp true ts vs ds ps
  | [], [], [], _, _, h => h
  | t :: ts, v :: vs, d :: ds, ps, ht, ⟨p, q, ⟨n, h1⟩, h2, e⟩ => ⟨p, q, ⟨n, trod_grow hbl hpos hsp n t _ _ (ht t (by simp)) h1⟩, trodAll_grow hbl hpos hsp (fun u hu => ht u (by simp [hu])) h2, e⟩
  | [], [], _ :: _, _, _, h => h.elim
  | [], _ :: _, _, _, _, h => by cases ‹List (DataW H)› <;> exact h.elim
  | _ :: _, [], _, _, _, h => by cases ‹List (DataW H)› <;> exact h.elim
  | _ :: _, _ :: _, [], _, _, h => h.elim
theorem kept_of_ext {may : MemPlace → Prop} (hE : Ext W W') : W.keptBut W' may := by
  refine ⟨hE.os, hE.output, fun i hi => ?_⟩
  rw [hE.block i hi]
  split
  · rename_i c t fr c' t' fr' h1 h2
    rw [h1] at h2
    cases h2
    exact ⟨rfl, rfl, rfl, fun _ _ => rfl⟩
  · rename_i es cl es' cl' h1 h2
    rw [h1] at h2
    cases h2
    exact .inr ⟨rfl, rfl⟩
  · rfl
theorem law_post {f : Func} {s : ChangeSpec} {apart : Bool} {args : Array Value} {v : Value} {ds gs : List (DataW H)} {before : List MemPlace} (hW : DataW.Whole enc P f.params.toList s.vars apart W args.toList ds gs before) (hvars : s.vars = [])
    (hE : Ext W W') (hpos : closedOk P = true) (hpar : (f.params.toList.all fun t => decide (t < P.types.size)) = true) {tb : TypeId} (hres : f.resultTypes = #[tb]) (htb : P.underlying tb = some .bool) (hv : v = .bool true)
    (hfn : s.fn H (ds ++ gs) = { results := [.lit (.bool true)], args := ds }) : s.post enc P f apart true false false W args v W' := by
  subst hv
  have hW' := hW
  obtain ⟨p, q, hA, hV, rfl, _, _⟩ := hW
  rw [hvars] at hV
  obtain ⟨rfl, rfl⟩ := trodVars_none hV
  refine ⟨ds, [], p ++ [], [], p, [], hW', ?_, ?_, ?_, kept_of_ext hE, fun h => by cases h⟩
  · rw [hfn, hres]
    exact trodAll_cons_mk (shut_bool htb true) trodAll_mk0
  · rw [hfn]
    exact trodAll_grow hE.block hpos (fun b hb => by simpa using hb) (fun t ht => by simpa using List.all_eq_true.1 hpar t ht) hA
  · rw [hfn, hvars]
    exact rfl
/-! ### a slice of bytes that comes in -/
theorem bulk_lits (k : IntKind) (l : List Int) : Rows.uptoBulkAll (lits (H := H) k l) = l.length := by
  induction l with
  | nil => rfl
  | cons x l ih =>
    simp only [lits, List.map_cons, Rows.uptoBulkAll, Rows.uptoBulk, List.length_cons] at ih ⊢
    omega
theorem open_bytes {t e : TypeId} (ht : P.underlying t = some (.slice e)) (he : P.underlying e = some (.int .u8)) (hc : P.cellsOf e = 1) {r : Reach} {b0 : Nat} {v : Value} {d : DataW H} {ps : List MemPlace}
    (hval : Value.okWide P W r b0 t v) (hd : DataW.Trod enc P W 0 (fun _ => true) true t v d ps) : ∃ (s : Sl) (l : List UInt8), v = s.v ∧ By W s l ∧ l.length ≤ Rows.uptoBulk d := by
  obtain ⟨a, len, cap, rfl⟩ := okWide_slice ht hval
  obtain ⟨fuel, hf⟩ := hd
  rcases open_ints ht he hc hf with ⟨h1, h2⟩ | ⟨a', len', cap', zs, h1, _, hle, hmax, hzl, hx, hcell, hwf⟩
  · simp only [Value.cells, List.cons.injEq, Value.slice.injEq, and_true] at h1
    obtain ⟨rfl, rfl, rfl⟩ := h1
    exact ⟨⟨none, 0, 0⟩, [], rfl, ⟨rfl, ⟨fun h => absurd rfl h, fun j v hj => by simp at hj⟩, Nat.le_refl _⟩, Nat.zero_le _⟩
  · simp only [Value.cells, List.cons.injEq, Value.slice.injEq, and_true] at h1
    obtain ⟨rfl, rfl, rfl⟩ := h1
    simp only [if_true] at hzl
    simp only [Prod.mk.injEq] at hx
    obtain ⟨rfl, _⟩ := hx
    have hb : ∀ n ∈ zs, 0 ≤ n ∧ n < 256 := by
      intro n hn
      have := hwf n hn
      simp only [Lit.wf, Bool.and_eq_true, decide_eq_true_eq] at this
      have h1 : IntKind.u8.min = 0 := by decide
      have h2 : IntKind.u8.max = 255 := by decide
      omega
    have hbv : ∀ n, 0 ≤ n → n < 256 → bv (UInt8.ofNat n.toNat) = .int .u8 n := by
      intro n h0 h1
      simp only [bv, UInt8.toNat_ofNat']
      congr 1
      omega
    refine ⟨⟨some a', len, cap⟩, (zs.take len).map fun n => UInt8.ofNat n.toNat, rfl, ⟨by simp; omega, ?_, hle⟩, ?_⟩
    · have hj : ∀ (j : Nat) (v : Value), (((zs.take len).map fun n => UInt8.ofNat n.toNat).map bv)[j]? = some v → W.cell? (a'.add j) = some v := by
        intro j v hv
        simp only [List.map_map, List.getElem?_map, Option.map_eq_some_iff, Function.comp] at hv
        obtain ⟨n, hn, rfl⟩ := hv
        rw [List.getElem?_take] at hn
        split at hn
        · have hmem := List.mem_of_getElem? hn
          have hlt := (List.getElem?_eq_some_iff.1 hn).1
          have := hcell j hlt
          rw [hbv n (hb n hmem).1 (hb n hmem).2, this]
          simp [List.getD, hn]
        · cases hn
      have hpl : ((zs.take len).map fun n => UInt8.ofNat n.toNat).map bv ≠ [] → a' = ⟨a'.block, a'.off, none⟩ := by
        intro hne
        obtain ⟨v, r, hvr⟩ := List.exists_cons_of_ne_nil hne
        have h0 := hj 0 v (by rw [hvr]; rfl)
        simp only [Addr.add, if_true] at h0
        have hsp : a'.spot = none := by
          unfold World.cell? at h0
          split at h0
          · split at h0
            · cases h0
            · rename_i hn; simpa using hn
          · cases h0
        cases a'
        simp at hsp
        subst hsp
        rfl
      refine ⟨fun hne => by rw [Plain]; exact congrArg some (hpl hne), fun j v hv => ?_⟩
      have := hj j v hv
      rw [hpl (by intro e; rw [e] at hv; simp at hv), addr_add] at this
      exact this
    · simp only [Rows.uptoBulk, bulk_lits, List.length_map]
      omega
end
end Go.Proofs.YtffaffojkfalhaaGreatDoor
namespace Go.Proofs.YtffaffojkfalhaaGreatDoor
open Go Go.RowKit Go.ChangeShapes Go.WideShapes Go.ChangeAt

section
variable {H : Type} {enc : TypeId × Value → H} {P : Program} {W : World}
/-- the cells read as d -/
def RdF (enc : TypeId × Value → H) (P : Program) (W : World) (n : Nat) (t : TypeId) (cs : List Value) (d : DataW H) : Prop := ∃ ps, DataW.trod enc P W 0 (fun _ => true) true n t cs = some (d, ps)
/-- the cells read as d -/
def Rd (enc : TypeId × Value → H) (P : Program) (W : World) (t : TypeId) (cs : List Value) (d : DataW H) : Prop := ∃ n ps, DataW.trod enc P W 0 (fun _ => true) true n t cs = some (d, ps)
theorem bulk_mem {d : DataW H} {l : List (DataW H)} (h : d ∈ l) : Rows.uptoBulk d ≤ Rows.uptoBulkAll l := by
  induction l with
  | nil => cases h
  | cons x r ih =>
    simp only [Rows.uptoBulkAll]
    cases List.mem_cons.1 h with
    | inl e => subst e; omega
    | inr e => have := ih e; omega
theorem bulk_pos (d : DataW H) : 1 ≤ Rows.uptoBulk d := by
  cases d with
  | lit l => cases l <;> simp [Rows.uptoBulk]
  | nil => simp [Rows.uptoBulk]
  | ptr d => simp [Rows.uptoBulk]
  | slice elems spare => simp [Rows.uptoBulk]
  | agg parts => simp [Rows.uptoBulk]
  | iface t d => simp [Rows.uptoBulk]
  | map entries => simp [Rows.uptoBulk]
  | held h => simp [Rows.uptoBulk]
theorem bulk_len (l : List (DataW H)) : l.length ≤ Rows.uptoBulkAll l := by
  induction l with
  | nil => simp [Rows.uptoBulkAll]
  | cons x r ih => have := bulk_pos x; simp only [Rows.uptoBulkAll, List.length_cons]; omega
theorem rd_str {t : TypeId} {cs : List Value} {d : DataW H} (ht : P.underlying t = some .string) (h : Rd enc P W t cs d) : ∃ l : List UInt8, cs = [str l] ∧ l.length ≤ Rows.uptoBulk d := by
  obtain ⟨n, ps, h⟩ := h
  obtain ⟨s, rfl, hx, _⟩ := DataW.trod_string ht h
  cases hx
  exact ⟨s.data.toList, rfl, by simp only [Rows.uptoBulk]; omega⟩
theorem rd_int {t : TypeId} {cs : List Value} {d : DataW H} (ht : P.underlying t = some (.int .i64)) (h : Rd enc P W t cs d) : ∃ n : Int, cs = [iv n] ∧ I64 n := by
  obtain ⟨n, ps, h⟩ := h
  obtain ⟨m, rfl, hx, hw⟩ := DataW.trod_int ht h
  refine ⟨m, rfl, ?_⟩
  simp only [Lit.wf, Bool.and_eq_true, decide_eq_true_eq] at hw
  have h1 : IntKind.i64.min = -9223372036854775808 := by decide
  have h2 : IntKind.i64.max = 9223372036854775807 := by decide
  rw [h1, h2] at hw
  exact hw
theorem rd_u8 {t : TypeId} {cs : List Value} {d : DataW H} (ht : P.underlying t = some (.int .u8)) (h : Rd enc P W t cs d) : ∃ b : UInt8, cs = [bv b] := by
  obtain ⟨n, ps, h⟩ := h
  obtain ⟨m, rfl, hx, hw⟩ := DataW.trod_int ht h
  simp only [Lit.wf, Bool.and_eq_true, decide_eq_true_eq] at hw
  have h1 : IntKind.u8.min = 0 := by decide
  have h2 : IntKind.u8.max = 255 := by decide
  rw [h1, h2] at hw
  refine ⟨UInt8.ofNat m.toNat, ?_⟩
  simp only [bv, UInt8.toNat_ofNat']
  congr 2
  omega
theorem rd_struct {t : TypeId} {cs : List Value} {d : DataW H} {fs : Array Field} (ht : P.underlying t = some (.struct fs)) (h : Rd enc P W t cs d) : cs.length = P.cellsOf t ∧ ∀ (i : Nat) (f : Field), fs[i]? = some f → ∃ d', Rd enc P W f.type ((cs.drop f.offset).take (P.cellsOf f.type)) d' ∧ Rows.uptoBulk d' ≤ Rows.uptoBulk d := by
  obtain ⟨n, ps, h⟩ := h
  obtain ⟨xs, m, rfl, hx, hl, hxl, hf⟩ := DataW.trod_struct ht h
  cases hx
  refine ⟨hl, fun i f hi => ?_⟩
  have h1 := hf i f hi
  have hlt : i < xs.length := by rw [hxl]; exact (Array.getElem?_eq_some_iff.1 hi).1
  rw [List.getElem?_eq_getElem hlt] at h1
  refine ⟨xs[i].1, ⟨m, xs[i].2, h1⟩, ?_⟩
  have := bulk_mem (d := xs[i].1) (l := xs.map (·.1)) (List.mem_map.2 ⟨xs[i], List.getElem_mem hlt, rfl⟩)
  simp only [Rows.uptoBulk]
  omega
theorem rd_field {t : TypeId} {cs : List Value} {d : DataW H} {fs : Array Field} (ht : P.underlying t = some (.struct fs)) (h : Rd enc P W t cs d) (i ty off n : Nat) (hi : (fs[i]?.map fun f => (f.type, f.offset)) = some (ty, off)) (hn : P.cellsOf ty = n) : ∃ d', Rd enc P W ty ((cs.drop off).take n) d' ∧ Rows.uptoBulk d' ≤ Rows.uptoBulk d := by
  obtain ⟨f, hf, he⟩ := Option.map_eq_some_iff.1 hi
  obtain ⟨rfl, rfl⟩ := Prod.mk.inj he
  subst hn
  exact (rd_struct ht h).2 i f hf
theorem rd_array {t : TypeId} {cs : List Value} {d : DataW H} {n : Nat} {e : TypeId} (ht : P.underlying t = some (.array n e)) (h : Rd enc P W t cs d) : cs.length = P.cellsOf t ∧ ∀ i, i < n → ∃ d', Rd enc P W e ((cs.drop (i * P.cellsOf e)).take (P.cellsOf e)) d' := by
  obtain ⟨q, ps, h⟩ := h
  obtain ⟨xs, m, rfl, hx, hl, hxl, hf⟩ := DataW.trod_array ht h
  refine ⟨hl, fun i hi => ?_⟩
  have h1 := hf i hi
  have hlt : i < xs.length := by omega
  rw [List.getElem?_eq_getElem hlt] at h1
  exact ⟨xs[i].1, m, xs[i].2, h1⟩
theorem spot_none {a : Addr} {v : Value} (h : W.cell? a = some v) : a.spot = none := by
  unfold World.cell? at h
  split at h
  · split at h
    · cases h
    · rename_i hn; simpa using hn
  · cases h
/-- a slice, by its elements; the fuel goes down -/
theorem rd_sliceF {t e : TypeId} {cs : List Value} {d : DataW H} (ht : P.underlying t = some (.slice e)) {α : Type} {f : α → List Value} {n : Nat} (hn : 0 < n) (hce : P.cellsOf e = n) (hf : ∀ x, (f x).length = n) {R : α → Prop} {m : Nat}
    (hel : ∀ k cs d', k < m → Rows.uptoBulk d' ≤ Rows.uptoBulk d → RdF enc P W k e cs d' → ∃ x, cs = f x ∧ R x) (h : RdF enc P W m t cs d) : ∃ (s : Sl) (l : List α), cs = [s.v] ∧ SlF f W s l ∧ (∀ x ∈ l, R x) ∧ l.length ≤ Rows.uptoBulk d := by
  obtain ⟨ps, h⟩ := h
  rcases DataW.trod_slice ht h with ⟨rfl, _⟩ | ⟨a, len, cap, elems, rest, k, rfl, rfl, hx, _, hle, _, hlen, hcel, _, _⟩
  · exact ⟨⟨none, 0, 0⟩, [], rfl, SlF.nil _ _, by simp, Nat.zero_le _⟩
  · cases hx
    rw [hce] at hcel
    have each : ∀ i, i < len → ∃ x, W.cells? 0 (a.add (i * n)) n = some (f x) ∧ R x := by
      intro i hi
      have h1 := hcel i hi
      rw [List.getElem?_eq_getElem (by omega)] at h1
      obtain ⟨c, hc, h2⟩ := Option.bind_eq_some_iff.1 h1
      obtain ⟨x, rfl, hR⟩ := hel k c _ (Nat.lt_succ_self k) (by
        have h1 := bulk_mem (d := elems[i].1) (l := elems.map (·.1)) (List.mem_map.2 ⟨elems[i], List.getElem_mem _, rfl⟩)
        show Rows.uptoBulk elems[i].1 ≤ _
        simp only [Rows.uptoBulk]
        omega) ⟨_, h2⟩
      exact ⟨x, hc, hR⟩
    have pick : ∃ l : List α, l.length = len ∧ ∀ i (hi : i < l.length), W.cells? 0 (a.add (i * n)) n = some (f l[i]) ∧ R l[i] := by
      clear hcel hlen h
      have : ∀ j, j ≤ len → ∃ l : List α, l.length = j ∧ ∀ i (hi : i < l.length), W.cells? 0 (a.add (i * n)) n = some (f l[i]) ∧ R l[i] := by
        intro j
        induction j with
        | zero => exact fun _ => ⟨[], rfl, fun i hi => by simp at hi⟩
        | succ j ih =>
          intro hj
          obtain ⟨l, hl, hg⟩ := ih (by omega)
          obtain ⟨x, hx⟩ := each j (by omega)
          refine ⟨l ++ [x], by simp [hl], fun i hi => ?_⟩
          by_cases hij : i < l.length
          · rw [List.getElem_append_left hij]; exact hg i hij
          · have : i = j := by simp at hi; omega
            subst this
            rw [List.getElem_append_right (by omega)]
            simpa [hl] using hx
      exact this len (Nat.le_refl _)
    obtain ⟨l, hl, hg⟩ := pick
    have hcell : ∀ (i j : Nat) (v : Value) (hi : i < l.length), j < n → (f l[i])[j]? = some v → W.cell? (a.add (i * n + j)) = some v := by
      intro i j v hi hj hv
      have h1 := (World.cells?_some (hg i hi).1).2.2 j hj
      rw [hv] at h1
      have e1 : (a.add (i * n)).add j = a.add (i * n + j) := by
        unfold Addr.add
        split
        · rename_i h0
          split
          · rename_i h1; simp [h0, h1]
          · rename_i h1; rw [if_neg (by omega)]; simp
        · rename_i h0
          split
          · rename_i h1; rw [if_neg (by omega)]; simp
          · rename_i h1; rw [if_neg (by omega)]; simp [Nat.add_assoc]
      rw [e1] at h1
      exact h1
    have hall : ∀ q v, (l.flatMap f)[q]? = some v → W.cell? (a.add q) = some v := by
      intro q v hq
      have hql := (List.getElem?_eq_some_iff.1 hq).1
      rw [flat_len hf] at hql
      have hi : q / n < l.length := (Nat.div_lt_iff_lt_mul hn).2 hql
      have hj : q % n < n := Nat.mod_lt _ hn
      have hqq : q / n * n + q % n = q := by rw [Nat.mul_comm]; exact Nat.div_add_mod q n
      rw [← hqq, flat_get hf hi hj] at hq
      rw [← hqq]
      exact hcell _ _ v hi hj hq
    have hpl : l.flatMap f ≠ [] → a = ⟨a.block, a.off, none⟩ := by
      intro hne
      obtain ⟨v, r, hvr⟩ := List.exists_cons_of_ne_nil hne
      have h0 := hall 0 v (by rw [hvr]; rfl)
      simp only [Addr.add, if_true] at h0
      have hsp := spot_none h0
      cases a
      simp at hsp
      subst hsp
      rfl
    refine ⟨⟨some a, len, cap⟩, l, rfl, ⟨hl.symm, hle, fun hne => by rw [Plain]; exact congrArg some (hpl hne), fun j v hv => ?_⟩, fun x hx => ?_, ?_⟩
    · have := hall j v hv
      rw [hpl (by intro e; rw [e] at hv; simp at hv), addr_add] at this
      exact this
    · obtain ⟨i, hi, rfl⟩ := List.getElem_of_mem hx
      exact (hg i hi).2
    · have := bulk_len (elems.map (·.1))
      simp only [Rows.uptoBulk, List.length_map] at this ⊢
      omega
theorem RdF.rd {n : Nat} {t : TypeId} {cs : List Value} {d : DataW H} (h : RdF enc P W n t cs d) : Rd enc P W t cs d := ⟨n, h⟩
theorem rd_slice {t e : TypeId} {cs : List Value} {d : DataW H} (ht : P.underlying t = some (.slice e)) {α : Type} {f : α → List Value} {n : Nat} (hn : 0 < n) (hce : P.cellsOf e = n) (hf : ∀ x, (f x).length = n) {R : α → Prop}
    (hel : ∀ cs d', Rd enc P W e cs d' → ∃ x, cs = f x ∧ R x) (h : Rd enc P W t cs d) : ∃ (s : Sl) (l : List α), cs = [s.v] ∧ SlF f W s l ∧ (∀ x ∈ l, R x) ∧ l.length ≤ Rows.uptoBulk d := by
  obtain ⟨m, h⟩ := h
  exact rd_sliceF ht hn hce hf (fun _ cs d' _ _ h => hel cs d' h.rd) h
theorem rd_structF {t : TypeId} {cs : List Value} {d : DataW H} {fs : Array Field} {n : Nat} (ht : P.underlying t = some (.struct fs)) (h : RdF enc P W n t cs d) : cs.length = P.cellsOf t ∧ ∀ (i : Nat) (f : Field), fs[i]? = some f → ∃ m d', m < n ∧ RdF enc P W m f.type ((cs.drop f.offset).take (P.cellsOf f.type)) d' ∧ Rows.uptoBulk d' ≤ Rows.uptoBulk d := by
  obtain ⟨ps, h⟩ := h
  obtain ⟨xs, m, rfl, hx, hl, hxl, hf⟩ := DataW.trod_struct ht h
  cases hx
  refine ⟨hl, fun i f hi => ?_⟩
  have h1 := hf i f hi
  have hlt : i < xs.length := by rw [hxl]; exact (Array.getElem?_eq_some_iff.1 hi).1
  rw [List.getElem?_eq_getElem hlt] at h1
  refine ⟨m, xs[i].1, Nat.lt_succ_self m, ⟨xs[i].2, h1⟩, ?_⟩
  have := bulk_mem (d := xs[i].1) (l := xs.map (·.1)) (List.mem_map.2 ⟨xs[i], List.getElem_mem hlt, rfl⟩)
  simp only [Rows.uptoBulk]
  omega
theorem rd_fieldF {t : TypeId} {cs : List Value} {d : DataW H} {fs : Array Field} {m : Nat} (ht : P.underlying t = some (.struct fs)) (h : RdF enc P W m t cs d) (i ty off n : Nat) (hi : (fs[i]?.map fun f => (f.type, f.offset)) = some (ty, off)) (hn : P.cellsOf ty = n) : ∃ k d', k < m ∧ RdF enc P W k ty ((cs.drop off).take n) d' ∧ Rows.uptoBulk d' ≤ Rows.uptoBulk d := by
  obtain ⟨f, hf, he⟩ := Option.map_eq_some_iff.1 hi
  obtain ⟨rfl, rfl⟩ := Prod.mk.inj he
  subst hn
  exact (rd_structF ht h).2 i f hf
theorem dropSplit {α : Type} (cs : List α) (k n : Nat) : cs.drop k = (cs.drop k).take n ++ cs.drop (k + n) := by
  rw [← List.drop_drop, List.take_append_drop]
end
section
variable {H : Type} {enc : TypeId × Value → H} {W : World}
theorem open_agg {P : Program} {t : TypeId} {fs : Array Field} (ht : P.underlying t = some (.struct fs)) {r : Reach} {b0 : Nat} {v : Value} (hval : Value.okWide P W r b0 t v) : ∃ cs : List Value, v = .agg cs.toArray ∧ v.cells.toList = cs := by
  simp only [Value.okWide, ht] at hval
  obtain ⟨cs, rfl, _⟩ := hval
  exact ⟨cs.toList, by simp, rfl⟩
theorem open_i64 {P : Program} {t : TypeId} (ht : P.underlying t = some (.int .i64)) {r : Reach} {b0 : Nat} {v : Value} {d : DataW H} {ps : List MemPlace} (hval : Value.okWide P W r b0 t v) (hd : DataW.Trod enc P W 0 (fun _ => true) true t v d ps) : ∃ n : Int, v = iv n ∧ I64 n := by
  obtain ⟨m, rfl, hx, hw⟩ := open_int ht hval hd
  simp only [Lit.wf, Bool.and_eq_true, decide_eq_true_eq] at hw
  have h1 : IntKind.i64.min = -9223372036854775808 := by decide
  have h2 : IntKind.i64.max = 9223372036854775807 := by decide
  rw [h1, h2] at hw
  exact ⟨m, rfl, hw.2⟩
theorem open_str {P : Program} {t : TypeId} (ht : P.underlying t = some .string) {r : Reach} {b0 : Nat} {v : Value} {d : DataW H} {ps : List MemPlace} (hval : Value.okWide P W r b0 t v) (hd : DataW.Trod enc P W 0 (fun _ => true) true t v d ps) : ∃ l : List UInt8, v = str l ∧ l.length ≤ Rows.uptoBulk d := by
  obtain ⟨s, rfl, rfl, _, _⟩ := Go.ChangeMaps.open_string ht hval hd
  exact ⟨s.data.toList, rfl, by simp only [Rows.uptoBulk]; omega⟩
end
end Go.Proofs.YtffaffojkfalhaaGreatDoor
