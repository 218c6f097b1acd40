/-
  Strings as bytes; lists as bytes.
-/
import Derived.Test.YtffaffojkfalhaaGreatDoorWirA
import Derived.Laws.IdiomStrings
namespace Go.Proofs.YtffaffojkfalhaaGreatDoor
open Go Go.RowKit

section
variable {w0 V0 V w : World} {own : List Res}
/-- the bytes of a string -/
theorem Rel.convSB {P : Program} {src dst e : TypeId} (hs : P.underlying src = some .string) (hd : P.underlying dst = some (.slice e)) (he : P.underlying e = some (.int .u8)) (H : Rel w0 V0 own V w) (l : List UInt8) {k : Value → World → Prop}
    (hk : ∀ V' s w', Ext w w' → Sub V V' → Byt V' s l → Rel w0 V0 own V' w' → k s.v w') : SemOk P (convert src dst (str l)) w k := by
  refine .of (run_bytes_of_string w src dst e _ hs hd he) ?_
  have hext : Ext w (w.drew.alloc (.cells (bytesRow ⟨l.toArray⟩ (grownCap w (ByteArray.size ⟨l.toArray⟩) 0 e)) e ((bytesRow ⟨l.toArray⟩ (grownCap w (ByteArray.size ⟨l.toArray⟩) 0 e)).size, (bytesRow ⟨l.toArray⟩ (grownCap w (ByteArray.size ⟨l.toArray⟩) 0 e)).size + 1))) :=
    ⟨rfl, rfl, rfl, by simp, fun c hc => heap_alloc_old w.drew _ c hc⟩
  obtain ⟨V', h1, h2, h3⟩ := (H.ext hext).freeze (List.Sublist.refl _)
  refine hk V' ⟨some ⟨w.heap.size, 0, none⟩, l.length, _⟩ _ hext h1 ⟨rfl, grownCap_ge w _ 0 e, ?_⟩ h2
  have hv := h3 w.heap.size _ _ _ H.base.size (heap_alloc_new w.drew _) (fun r hr hb => by have := Res.lt (H.laid r hr) hb; omega)
  refine ⟨fun _ => rfl, fun j v hj => ?_⟩
  simp only [ablk, aoff, Nat.zero_add]
  rw [byC_map] at hj
  simp only [World.cell?, hv]
  have hj2 : j < l.length := by have := (List.getElem?_eq_some_iff.1 hj).1; simpa using this
  rw [List.getElem?_map, List.getElem?_eq_getElem hj2] at hj
  simp only [Option.map_some, Option.some.injEq] at hj
  subst hj
  rw [bytesRow, Array.getElem?_append_left (by simpa using hj2)]
  simp [hj2]
end
theorem SlF.at2 {V : World} {α : Type} {f : α → List Value} {s : Sl} {l : List α} (h : SlF f V s l) {g g' : α → Value} (hf : ∀ x, f x = [g x, g' x]) {i : Nat} (hi : i < l.length) : Plain s.a ∧ V.cell? ⟨ablk s.a, aoff s.a + i * 2, none⟩ = some (g l[i]) ∧ V.cell? ⟨ablk s.a, aoff s.a + i * 2 + 1, none⟩ = some (g' l[i]) := by
  obtain ⟨h1, h2⟩ := h.get (n := 2) (fun x => by rw [hf]; rfl) (by omega) hi
  exact ⟨h1, h2 0 _ (by rw [hf]; rfl), h2 1 _ (by rw [hf]; rfl)⟩
/-- a block that holds bytes, read from now on -/
theorem Blk.byt {V : World} {b n : Nat} {l : List UInt8} {t : TypeId} (h : Blk V b (l.map bv) t) (hn : n = l.length) : Byt V ⟨some ⟨b, 0, none⟩, n, n⟩ l := ⟨hn, Nat.le_refl _, by rw [byC_map]; exact h.cells⟩
/-- what a function that encodes one thing does -/
def OneOk (V : World) (g : FuncId) (cap : List Value) (a : Value) (bs : List UInt8) : Prop :=
  ∀ V1 W1, Sub V V1 → Sub V1 W1 → Ret Tryz.prog g (a :: cap).toArray W1 fun v w' => ∃ (V2 : World) (r : Sl), Sub V1 V2 ∧ v = r.v ∧ Byt V2 r bs ∧ Rel W1 V1 [] V2 w'
theorem flat_part {α : Type} {enc : α → List UInt8} {l : List α} {k : Nat} (hk : k < l.length) : ((l.take k).flatMap enc).length + (enc l[k]).length ≤ (l.flatMap enc).length := by
  conv => rhs; rw [← List.take_append_drop k l, List.flatMap_append, List.drop_eq_getElem_cons hk, List.flatMap_cons]
  simp only [List.length_append]
  omega
theorem flat_next {α : Type} {enc : α → List UInt8} {l : List α} {k : Nat} {a : List UInt8} (hk : k < l.length) : a ++ (l.take k).flatMap enc ++ enc l[k] = a ++ (l.take (k + 1)).flatMap enc := by
  rw [List.take_succ_eq_append_getElem hk, List.flatMap_append, List.append_assoc]
  simp only [List.flatMap_cons, List.flatMap_nil, List.append_nil]
end Go.Proofs.YtffaffojkfalhaaGreatDoor
namespace Go.Proofs.YtffaffojkfalhaaGreatDoor
open Go Go.RowKit

/-- two lists, one by one -/
structure Pw {α β : Type} (R : World → β → α → Prop) (V : World) (xs : List β) (ys : List α) : Prop where
  len : xs.length = ys.length
  all : ∀ (k : Nat) x y, xs[k]? = some x → ys[k]? = some y → R V x y
section
variable {α β : Type} {R : World → β → α → Prop} {V V' : World} {xs : List β} {ys : List α}
theorem Pw.nil : Pw R V [] [] := ⟨rfl, fun k x y h => by simp at h⟩
theorem Pw.up (hR : ∀ V V' x y, Sub V V' → R V x y → R V' x y) (h : Pw R V xs ys) (hs : Sub V V') : Pw R V' xs ys := ⟨h.len, fun k x y h1 h2 => hR _ _ _ _ hs (h.all k x y h1 h2)⟩
theorem Pw.snoc (h : Pw R V xs ys) {x : β} {y : α} (hx : R V x y) : Pw R V (xs ++ [x]) (ys ++ [y]) := by
  refine ⟨by simp [h.len], fun k a b h1 h2 => ?_⟩
  have hl := h.len
  by_cases hk : k < xs.length
  · rw [List.getElem?_append_left hk] at h1
    rw [List.getElem?_append_left (by omega)] at h2
    exact h.all k a b h1 h2
  · rw [List.getElem?_append_right (by omega)] at h1 h2
    have e : k - xs.length = 0 := by
      have := (List.getElem?_eq_some_iff.1 h1).1
      simp at this; omega
    rw [e] at h1
    rw [← hl, e] at h2
    cases h1
    cases h2
    exact hx
theorem Pw.eq {xs ys : List α} (h : Pw (fun _ x y => x = y) V xs ys) : xs = ys := by
  refine List.ext_getElem h.len fun k h1 h2 => ?_
  exact h.all k _ _ (List.getElem?_eq_getElem h1) (List.getElem?_eq_getElem h2)
end
def RL {α β : Type} (f : β → List Value) (R : World → β → α → Prop) (V : World) (r : Sl) (ys : List α) : Prop := ∃ xs, SlF f V r xs ∧ Pw R V xs ys
section
variable {w0 V0 V w : World} {own : List Res}
/-- a row that is owned, read -/
theorem Rel.slfAt {α : Type} {f : α → List Value} {n : Nat} {l : List α} {i : Nat} {s : Sl} {e : TypeId} (H : Rel w0 V0 own V w) (hi : own[i]? = some (.row s e n (l.flatMap f))) (hf : ∀ x, (f x).length = n) (hn : 0 < n) : SlF f w s l := by
  have hr := H.rowAt hi
  refine ⟨H.rowLen hi hf hn, ?_, hr.cells⟩
  rcases hr.at_ with ⟨_, h2, h3⟩ | ⟨b, cur, _, _, h3, _⟩
  · omega
  · exact h3
theorem Rel.shrinkAt {i : Nat} {s : Sl} {e sz : Nat} {xs : List Value} (H : Rel w0 V0 own V w) (hi : own[i]? = some (.row s e sz xs)) {k : Nat} (hk : k ≤ s.len) : Rel w0 V0 (own.set i (.row ⟨subA s.a 0 s.cap sz, k - 0, s.cap - 0⟩ e sz (xs.take (k * sz)))) V w := by
  have hr := H.rowAt hi
  have hsub : subA s.a 0 s.cap sz = s.a := by
    rcases hr.at_ with ⟨h1, _⟩ | ⟨b, cur, h1, _⟩
    · rw [h1, subA_none]
    · rw [h1]
      unfold subA
      split
      · rfl
      · simp [Addr.add]
  refine H.put hi rfl rfl rfl (Nat.le_refl _) (fun c _ _ => rfl) ?_ fun b hb => .inl ?_
  · rw [hsub]
    refine ⟨by rw [List.length_take, hr.len]; simp only [Nat.sub_zero]; exact Nat.min_eq_left (Nat.mul_le_mul_right _ hk), ?_⟩
    rcases hr.at_ with ⟨h1, h2, h3⟩ | ⟨b, cur, h1, h2, h3, h4, h5, h6⟩
    · exact .inl ⟨h1, by simp only []; omega, by simp only []; omega⟩
    · refine .inr ⟨b, cur, h1, h2, by simp only []; omega, by simp only []; omega, by simpa using h5, ?_⟩
      rw [← h6, List.take_take]
      simp only [Nat.sub_zero]
      rw [Nat.min_eq_left (Nat.mul_le_mul_right _ hk)]
  · simpa [Res.at_, hsub] using hb
/-- the block that a row may write -/
def rowX (s : Sl) : List Nat := match s.a with | none => [] | some p => [p.block]
theorem Rel.nwX (H : Rel w0 V0 own V w) {X : List Nat} {l : List Value} {t : TypeId} {G : World → Nat → Prop} (k : ∀ w' b, Rel w0 V0 (.blk b l t :: own) V w' → G w' b) : ∀ w' b, NewBlk w b l t w' → Sav X w w' ∧ G w' b :=
  fun w' b h => ⟨Sav.ext h.ext, k w' b (H.newBlk h)⟩
/-- the other things owned, in a world in which a row may differ -/
theorem Rel.savRow (H : Rel w0 V0 own V w) {i : Nat} {s : Sl} {e sz : Nat} {xs : List Value} (hi : own[i]? = some (.row s e sz xs)) {w1 : World} (hs : Sav (rowX s) w w1) : ∃ E, Rel E E (own.eraseIdx i) V w1 := by
  cases ha : s.a with
  | some p => exact H.savAt (b := p.block) hi (by simp [Res.at_, ha]) (by simpa [rowX, ha] using hs)
  | none =>
    have hb : ∀ j, j < w.heap.size → w1.heap[j]? = w.heap[j]? := fun j hj => hs.block j hj (by simp [rowX, ha])
    have Hs := H.sl (List.eraseIdx_sublist own i)
    refine ⟨{ w1 with heap := #[] }, ⟨rfl, rfl, rfl, by simp, fun k hk => by simp at hk⟩, ⟨fun c a t f hc => by simp at hc⟩, fun c hc => by simp at hc, fun x hx => Res.keep (Hs.laid x hx) fun b hb' => hb b (Res.lt (Hs.laid x hx) hb'), fun x hx c hc => by simp, Hs.hid, Hs.apart, ⟨fun c a t f hc => ?_⟩⟩
    have h1 := Hs.data.cel c a t f hc
    rw [hb c (Array.getElem?_eq_some_iff.1 h1).1]; exact h1
/-- 'append' of one element to a row that is owned, in a region in which loads may come behind it -/
theorem Rel.app1X {P : Program} {T : List TD} (hT : TabOk P T) {t ty e : TypeId} {d de : TD} (hd : T[t]? = some d) (hu : d.under = .slice e) (hde : T[e]? = some de) {z : Value} (hz : de.zero = some z) (hzs : z.cells.size = de.size) (hsz : 0 < de.size)
    {α : Type} {f : α → List Value} {l : List α} {x : α} (hf : ∀ y, (f y).length = de.size) (h1 : ∀ u ∈ f x, u.oneCell' = true) {s : Sl} {b : Nat} {t' : TypeId} (H : Rel w0 V0 (.blk b (f x) t' :: own) V w) {i : Nat} (hi : own[i]? = some (.row s e de.size (l.flatMap f)))
    (hb : (l.length + 1) * de.bytes ≤ 140737488355328) (hm : l.length + 1 ≤ 4611686018427387904)
    {k : Value → World → Prop} (hk : ∀ s' w', Rel w0 V0 (own.set i (.row s' e de.size ((l ++ [x]).flatMap f))) V w' → k s'.v w') : SemOk P (Builtin.append_ #[t, t] ty #[s.v, .slice (some ⟨b, 0, none⟩) 1 1]) w fun v w' => Sav (rowX s) w w' ∧ k v w' := by
  have hx : Cells w (some ⟨b, 0, none⟩) (f x) := (H.bk_0).cells
  have hl := H.drop1.rowLen hi hf hsz
  have hr := H.drop1.rowAt hi
  refine app_row (x := ⟨some ⟨b, 0, none⟩, 1, 1⟩) hT hd hu hde hz hzs hsz hr hx (by rw [hf]; simp) h1 (by rw [hl]; exact hb) (by rw [hl]; exact hm) fun s' w' hr' _ hg => ⟨⟨hg.size, fun c hc hne => hg.block c hc ?_⟩, hk s' w' ?_⟩
  · cases hs : s.a with
    | none => exact .inl rfl
    | some p => refine .inr fun e => hne ?_; rw [e]; simp [rowX, hs, ablk]
  · have hra := hr.at_
    have H1 := H.drop1
    have := H1.put (i := i) hi (r' := .row s' e de.size (l.flatMap f ++ f x)) hg.os hg.tape hg.output hg.size (fun c hc hne => hg.block c hc (by
      cases hs : s.a with
      | none => exact .inl rfl
      | some p => refine .inr fun e => hne ?_; rw [e]; simp [Res.at_, hs, ablk])) hr' fun b hb => by
        simp only [Res.at_, Option.map_eq_some_iff] at hb ⊢
        obtain ⟨p, hp, rfl⟩ := hb
        rcases hg.own with h | ⟨h, h'⟩ | h
        · rw [hp] at h; cases h
        · cases hs : s.a with
          | none => exact absurd hs h
          | some q => rw [hp, hs] at h'; exact .inl ⟨q, rfl, h'.symm⟩
        · rw [hp] at h; exact .inr h
    rw [List.flatMap_append]
    simp only [List.flatMap_cons, List.flatMap_nil, List.append_nil]
    exact this
/-- a row of integers grows by what is only read -/
theorem Rel.appI {i : Nat} {s x : Sl} {xs ys : List Int} (H : Rel w0 V0 own V w) (hi : own[i]? = some (.row s 3 1 (xs.flatMap itC))) (hx : SlF itC V x ys) (hb : xs.length + ys.length ≤ 1099511627776) {ty : TypeId} {k : Value → World → Prop}
    (hk : ∀ s' w', Rel w0 V0 (own.set i (.row s' 3 1 ((xs ++ ys).flatMap itC))) V w' → k s'.v w') : SemOk Tryz.prog (Builtin.append_ #[80, 80] ty #[s.v, x.v]) w k := by
  have hl := H.rowLen hi (fun _ => rfl) (by decide)
  have hxl := hx.len
  refine Rel.appAt tabOk rfl rfl rfl rfl rfl (by decide) H hi (hx.up H.data).cells (by rw [flat_len (n := 1) (fun _ => rfl), hxl]) (fun u hu => by
    obtain ⟨x, _, hx⟩ := List.mem_flatMap.1 hu
    rw [List.mem_singleton.1 hx]; rfl) (by rw [hl, hxl]; simp; omega) (by rw [hl, hxl]; omega) ?_
  intro s' w' H' _
  refine hk s' w' ?_
  rw [List.flatMap_append]
  exact H'
end
end Go.Proofs.YtffaffojkfalhaaGreatDoor
