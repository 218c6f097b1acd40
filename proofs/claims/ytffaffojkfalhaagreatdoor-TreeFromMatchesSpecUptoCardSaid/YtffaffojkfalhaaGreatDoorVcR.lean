/-
  The state of a walk: what is owned (and may be written), and what is only read.
-/
import Derived.Test.YtffaffojkfalhaaGreatDoorVcE
namespace Go.Proofs.YtffaffojkfalhaaGreatDoor
open Go Go.RowKit

/-! ### a cut behind a loop -/
theorem SemC.cut {S : Type} {C : Cx} {c : Code} {env : Env} {ds : List Deferred} {w : World} {Q : Post} (i : Nat) (M : S → Env) (I : S → World → Prop)
    (h : SemC C c env ds w (fun e env' ds' w' => match e with
      | .exit j => (match Nat.beq j i with
        | true => ds' = ds ∧ ∃ s, subK env' (M s) ∧ I s w'
        | false => Q (.exit j) env' ds' w')
      | e => Q e env' ds' w'))
    (k : ∀ s w', I s w' → Q (.exit i) (M s) ds w') : SemC C c env ds w Q := by
  refine ⟨fun a hs hn hd => wpIn_mono (h.out a hs hn hd) fun e a' w' ⟨h1, env', h2, h3⟩ => ?_⟩
  cases e with
  | exit j =>
    simp only at h3
    cases hj : Nat.beq j i with
    | true =>
      simp only [hj] at h3
      obtain ⟨hds, s, h4, h5⟩ := h3
      have := Nat.eq_of_beq_eq_true hj
      subst this
      exact ⟨h1, M s, fun t v ht => h2 t v (subK_sound h4 t v ht), by rw [hds]; exact k s w' h5⟩
    | false =>
      simp only [hj] at h3
      exact ⟨h1, env', h2, h3⟩
  | _ => exact ⟨h1, env', h2, h3⟩

/-! ### what is owned -/
inductive Res where
  | blk (b : Nat) (l : List Value) (t : TypeId)
  | row (s : Sl) (e : TypeId) (sz : Nat) (xs : List Value)
  | obj (b : Nat) (o : Obj)
def Res.at_ : Res → Option Nat
  | .blk b _ _ => some b
  | .row s _ _ _ => s.a.map (·.block)
  | .obj b _ => some b
def Res.laid (w : World) : Res → Prop
  | .blk b l t => Blk w b l t
  | .row s e sz xs => Row w s e sz xs
  | .obj b o => w.heap[b]? = some o
theorem Res.lt {w : World} {r : Res} (h : r.laid w) {b : Nat} (hb : r.at_ = some b) : b < w.heap.size := by
  cases r with
  | blk b' l t => cases hb; exact Blk.lt h
  | row s e sz xs =>
    simp only [Res.at_, Option.map_eq_some_iff] at hb
    obtain ⟨p, hp, rfl⟩ := hb
    have := Row.lt h (by rw [hp]; simp)
    rw [hp] at this
    exact this
  | obj b' o => cases hb; exact (Array.getElem?_eq_some_iff.1 h).1
theorem Res.keep {w w' : World} {r : Res} (h : r.laid w) (hk : ∀ b, r.at_ = some b → w'.heap[b]? = w.heap[b]?) : r.laid w' := by
  cases r with
  | blk b' l t => exact (hk b' rfl).trans h
  | row s e sz xs => exact Row.tw h fun b hb => hk b (by simp [Res.at_, hb])
  | obj b' o => exact (hk b' rfl).trans h
/-- the cells that V has, W has too -/
structure Sub (V W : World) : Prop where
  cel : ∀ (b : Nat) (c : Array Value) (t : TypeId) (f : Nat × Nat), V.heap[b]? = some (Obj.cells c t f) → W.heap[b]? = some (Obj.cells c t f)
theorem Sub.refl (V : World) : Sub V V := ⟨fun _ _ _ _ h => h⟩
theorem Sub.trans {A B C : World} (h : Sub A B) (k : Sub B C) : Sub A C := ⟨fun b c t f hb => k.cel b c t f (h.cel b c t f hb)⟩
theorem Sub.ext {A B C : World} (h : Sub A B) (k : Ext B C) : Sub A C := ⟨fun b c t f hb => by
  have := h.cel b c t f hb
  rw [k.block b (Array.getElem?_eq_some_iff.1 this).1]; exact this⟩
theorem Sub.cell {V W : World} (h : Sub V W) {a : Addr} {v : Value} (hc : V.cell? a = some v) : W.cell? a = some v := by
  have : W.heap[a.block]? = V.heap[a.block]? := by
    unfold World.cell? at hc
    split at hc
    · rename_i c t f hb
      rw [hb]; exact h.cel _ _ _ _ hb
    · cases hc
  rw [World.cell?_of_block this]; exact hc
theorem Cells.sub' {V W : World} {a : Option Addr} {l : List Value} (h : Cells V a l) (k : Sub V W) : Cells W a l := ⟨h.1, fun j v hj => k.cell (h.2 j v hj)⟩
theorem By.up {V W : World} {s : Sl} {l : List UInt8} (h : By V s l) (k : Sub V W) : By W s l := ⟨h.len, h.cells.sub' k, h.cap⟩
theorem In.up {V W : World} {s : Sl} {l : List Int} (h : In V s l) (k : Sub V W) : In W s l := ⟨h.len, h.cells.sub' k, h.cap⟩
theorem Ch.up {V W : World} {s : Sl} {ll : List (List UInt8)} (h : Ch V s ll) (k : Sub V W) : Ch W s ll := by
  obtain ⟨hs, h1, h2, h3⟩ := h.ex
  exact ⟨h.len, h.cap, hs, h1, h2.sub' k, fun i x l hx hl => (h3 i x l hx hl).up k⟩
def noCells (V : World) (b : Nat) : Prop := ∀ (c : Array Value) (t : TypeId) (f : Nat × Nat), V.heap[b]? ≠ some (Obj.cells c t f)
def Res.off (r s : Res) : Prop := ∀ b, r.at_ = some b → s.at_ ≠ some b
/-- w came out of w0; 'own' is owned, V is what may be read (out of V0 and new blocks) -/
structure Rel (w0 V0 : World) (own : List Res) (V w : World) : Prop where
  base : Ext w0 w
  sub : Sub V0 V
  old : ∀ b, b < w0.heap.size → noCells V0 b → noCells V b
  laid : ∀ r ∈ own, r.laid w
  new : ∀ r ∈ own, ∀ b, r.at_ = some b → w0.heap.size ≤ b
  hid : ∀ r ∈ own, ∀ b, r.at_ = some b → noCells V b
  apart : own.Pairwise Res.off
  data : Sub V w
theorem Rel.start {V w : World} (h : Sub V w) : Rel w V [] V w := ⟨Ext.refl _, Sub.refl _, fun _ _ h => h, by simp, by simp, by simp, List.Pairwise.nil, h⟩
section
variable {w0 V0 V w : World} {own : List Res}
theorem Rel.up (H : Rel w0 V0 own V w) : Sub V0 w := H.sub.trans H.data
theorem Rel.dat (H : Rel w0 V0 own V w) {a : Addr} {v : Value} (h : V.cell? a = some v) : w.cell? a = some v := H.data.cell h
theorem Rel.ext (H : Rel w0 V0 own V w) {w' : World} (he : Ext w w') : Rel w0 V0 own V w' :=
  ⟨H.base.trans he, H.sub, H.old, fun r hr => Res.keep (H.laid r hr) fun b hb => he.block b (Res.lt (H.laid r hr) hb), H.new, H.hid, H.apart, H.data.ext he⟩
/-- a call, by its own contract -/
theorem Rel.call (H : Rel w0 V0 own V w) {own' : List Res} {V' w' : World} (K : Rel w V own' V' w') : Rel w0 V0 (own' ++ own) V' w' := by
  refine ⟨H.base.trans K.base, H.sub.trans K.sub, fun b hb hn => K.old b (Nat.lt_of_lt_of_le hb H.base.size) (H.old b hb hn), fun r hr => ?_, fun r hr b hb => ?_, fun r hr b hb => ?_, ?_, K.data⟩
  · rcases List.mem_append.1 hr with hr | hr
    · exact K.laid r hr
    · exact Res.keep (H.laid r hr) fun b hb => K.base.block b (Res.lt (H.laid r hr) hb)
  · rcases List.mem_append.1 hr with hr | hr
    · exact Nat.le_trans H.base.size (K.new r hr b hb)
    · exact H.new r hr b hb
  · rcases List.mem_append.1 hr with hr | hr
    · exact K.hid r hr b hb
    · exact K.old b (Res.lt (H.laid r hr) hb) (H.hid r hr b hb)
  · refine List.pairwise_append.2 ⟨K.apart, H.apart, fun r hr s hs b hb he => ?_⟩
    have h1 := K.new r hr b hb
    have h2 := Res.lt (H.laid s hs) he
    omega
theorem Rel.call0 (H : Rel w0 V0 own V w) {V' w' : World} (K : Rel w V [] V' w') : Rel w0 V0 own V' w' := H.call K
theorem Rel.sl (H : Rel w0 V0 own V w) {own' : List Res} (h : own'.Sublist own) : Rel w0 V0 own' V w :=
  ⟨H.base, H.sub, H.old, fun r hr => H.laid r (h.subset hr), fun r hr => H.new r (h.subset hr), fun r hr => H.hid r (h.subset hr), H.apart.sublist h, H.data⟩
theorem Rel.drop1 {r : Res} (H : Rel w0 V0 (r :: own) V w) : Rel w0 V0 own V w := H.sl (List.sublist_cons_self _ _)
theorem Rel.swap {r s : Res} (H : Rel w0 V0 (r :: s :: own) V w) : Rel w0 V0 (s :: r :: own) V w := by
  have hm : ∀ x, x ∈ s :: r :: own → x ∈ r :: s :: own := fun x hx => by simp only [List.mem_cons] at hx ⊢; rcases hx with h | h | h <;> simp [h]
  refine ⟨H.base, H.sub, H.old, fun x hx => H.laid x (hm x hx), fun x hx => H.new x (hm x hx), fun x hx => H.hid x (hm x hx), ?_, H.data⟩
  have h := H.apart
  simp only [List.pairwise_cons, List.mem_cons, forall_eq_or_imp] at h ⊢
  obtain ⟨⟨h1, h2⟩, h3, h4⟩ := h
  exact ⟨⟨fun b hb hc => h1 b hc hb, h3⟩, h2, h4⟩
/-- one thing more is owned -/
theorem Rel.more (H : Rel w0 V0 own V w) {r : Res} {w' : World} (he : Ext w w') (hr : r.laid w') (hn : ∀ b, r.at_ = some b → w.heap.size ≤ b) : Rel w0 V0 (r :: own) V w' := by
  have H' := H.ext he
  refine ⟨H'.base, H'.sub, H'.old, ?_, ?_, ?_, ?_, H'.data⟩
  · intro x hx
    rcases List.mem_cons.1 hx with rfl | hx
    · exact hr
    · exact H'.laid x hx
  · intro x hx b hb
    rcases List.mem_cons.1 hx with rfl | hx
    · exact Nat.le_trans H.base.size (hn b hb)
    · exact H'.new x hx b hb
  · intro x hx b hb
    rcases List.mem_cons.1 hx with rfl | hx
    · intro c t f hc
      have h1 := H.data.cel b c t f hc
      have h2 := (Array.getElem?_eq_some_iff.1 h1).1
      have h3 := hn b hb
      omega
    · exact H'.hid x hx b hb
  · refine List.pairwise_cons.2 ⟨fun s hs b hb hc => ?_, H'.apart⟩
    have h1 := hn b hb
    have h2 := Res.lt (H.laid s hs) hc
    omega
theorem Rel.newBlk (H : Rel w0 V0 own V w) {b : Nat} {l : List Value} {t : TypeId} {w' : World} (h : NewBlk w b l t w') : Rel w0 V0 (.blk b l t :: own) V w' :=
  H.more h.ext h.blk fun c hc => by cases hc; rw [h.num]; exact Nat.le_refl _
theorem Rel.nw (H : Rel w0 V0 own V w) {l : List Value} {t : TypeId} {G : World → Nat → Prop} (k : ∀ w' b, Rel w0 V0 (.blk b l t :: own) V w' → G w' b) : ∀ w' b, NewBlk w b l t w' → G w' b :=
  fun w' b h => k w' b (H.newBlk h)
/-- a new block, inside a region that draws its order -/
theorem Rel.nwD (H : Rel w0 V0 own V w) {l : List Value} {t : TypeId} {G : World → Nat → Prop} (k : ∀ w' b, Rel w0 V0 (.blk b l t :: own) V w' → G w' b) : ∀ w' b, NewBlk w b l t w' → Ext w w' ∧ G w' b :=
  fun w' b h => ⟨h.ext, k w' b (H.newBlk h)⟩
theorem Rel.rowNil (H : Rel w0 V0 own V w) (e : TypeId) (sz : Nat) : Rel w0 V0 (.row ⟨none, 0, 0⟩ e sz [] :: own) V w :=
  H.more (Ext.refl _) (Row.nil _ _ _) fun b hb => by simp [Res.at_] at hb
/-- a block that holds a row -/
theorem Rel.toRow {b n : Nat} {l : List Value} {e : TypeId} {sz : Nat} (H : Rel w0 V0 (.blk b l e :: own) V w) (hl : l.length = n * sz) (hn : n ≤ maxLen) : Rel w0 V0 (.row ⟨some ⟨b, 0, none⟩, n, n⟩ e sz l :: own) V w := by
  have hb : Blk w b l e := H.laid (.blk b l e) (by simp)
  have hr : Row w ⟨some ⟨b, 0, none⟩, n, n⟩ e sz l := Row.mk1 hb hl hn
  refine ⟨H.base, H.sub, H.old, ?_, ?_, ?_, ?_, H.data⟩
  · intro x hx
    rcases List.mem_cons.1 hx with rfl | hx
    · exact hr
    · exact H.laid x (by simp [hx])
  · intro x hx c hc
    rcases List.mem_cons.1 hx with rfl | hx
    · exact H.new (.blk b l e) (by simp) c hc
    · exact H.new x (by simp [hx]) c hc
  · intro x hx c hc
    rcases List.mem_cons.1 hx with rfl | hx
    · exact H.hid (.blk b l e) (by simp) c hc
    · exact H.hid x (by simp [hx]) c hc
  · have := List.pairwise_cons.1 H.apart
    exact List.pairwise_cons.2 ⟨fun s hs c hc => this.1 s hs c hc, this.2⟩
/-- one of the things owned is written -/
theorem Rel.put (H : Rel w0 V0 own V w) {i : Nat} {r r' : Res} (hi : own[i]? = some r) {w' : World} (hos : w'.os = w.os) (htape : w'.tape = w.tape) (hout : w'.output = w.output) (hsz : w.heap.size ≤ w'.heap.size)
    (hbl : ∀ c, c < w.heap.size → r.at_ ≠ some c → w'.heap[c]? = w.heap[c]?) (hr : r'.laid w') (hn : ∀ b, r'.at_ = some b → r.at_ = some b ∨ w.heap.size ≤ b) : Rel w0 V0 (own.set i r') V w' := by
  have hlt : i < own.length := (List.getElem?_eq_some_iff.1 hi).1
  have hri : own[i] = r := (List.getElem?_eq_some_iff.1 hi).2
  have hmem : r ∈ own := List.mem_of_getElem? hi
  have hoth : ∀ (j : Nat) s, own[j]? = some s → j ≠ i → ∀ b, s.at_ = some b → r.at_ ≠ some b := by
    intro j s hj hne b hb hc
    have hjl := (List.getElem?_eq_some_iff.1 hj).1
    have hje := (List.getElem?_eq_some_iff.1 hj).2
    rcases Nat.lt_or_ge j i with h | h
    · have := List.pairwise_iff_getElem.1 H.apart j i hjl hlt h
      rw [hje, hri] at this
      exact this b hb hc
    · have := List.pairwise_iff_getElem.1 H.apart i j hlt hjl (by omega)
      rw [hje, hri] at this
      exact this b hc hb
  have hset : ∀ x ∈ own.set i r', x = r' ∨ ∃ j, j ≠ i ∧ own[j]? = some x := by
    intro x hx
    obtain ⟨j, hj⟩ := List.mem_iff_getElem?.1 hx
    by_cases hji : i = j
    · subst hji
      rw [List.getElem?_set_self hlt] at hj
      cases hj; exact .inl rfl
    · rw [List.getElem?_set_ne hji] at hj
      exact .inr ⟨j, fun e => hji e.symm, hj⟩
  have hdat : ∀ (b : Nat) (c : Array Value) (t : TypeId) (f : Nat × Nat), V.heap[b]? = some (Obj.cells c t f) → w'.heap[b]? = some (Obj.cells c t f) := by
    intro b c t f hb
    have h1 := H.data.cel b c t f hb
    rw [hbl b (Array.getElem?_eq_some_iff.1 h1).1 fun hc => H.hid r hmem b hc c t f hb]
    exact h1
  refine ⟨⟨hos.trans H.base.os, htape.trans H.base.tape, hout.trans H.base.output, Nat.le_trans H.base.size hsz, fun k hk => ?_⟩, H.sub, H.old, fun x hx => ?_, fun x hx b hb => ?_, fun x hx b hb => ?_, ?_, ⟨hdat⟩⟩
  · rw [hbl k (Nat.lt_of_lt_of_le hk H.base.size) fun hc => by have := H.new r hmem k hc; omega]
    exact H.base.block k hk
  · rcases hset x hx with rfl | ⟨j, hj, hx⟩
    · exact hr
    · have hl := H.laid x (List.mem_of_getElem? hx)
      exact Res.keep hl fun b hb => hbl b (Res.lt hl hb) (hoth j x hx hj b hb)
  · rcases hset x hx with rfl | ⟨j, hj, hx⟩
    · rcases hn b hb with h | h
      · exact H.new r hmem b h
      · exact Nat.le_trans H.base.size h
    · exact H.new x (List.mem_of_getElem? hx) b hb
  · rcases hset x hx with rfl | ⟨j, hj, hx⟩
    · rcases hn b hb with h | h
      · exact H.hid r hmem b h
      · intro c t f hc
        have h1 := H.data.cel b c t f hc
        have h2 := (Array.getElem?_eq_some_iff.1 h1).1
        omega
    · exact H.hid x (List.mem_of_getElem? hx) b hb
  · rw [List.pairwise_iff_getElem]
    intro j k hj hk hjk b hb hc
    simp only [List.length_set] at hj hk
    rw [List.getElem_set] at hb hc
    have key : ∀ (m : Nat) (hm : m < own.length), m ≠ i → own[m].at_ = some b → r'.at_ = some b → False := by
      intro m hm hne h1 h2
      rcases hn b h2 with h | h
      · exact hoth m own[m] (by simp [hm]) hne b h1 h
      · have := Res.lt (H.laid own[m] (List.getElem_mem hm)) h1
        omega
    split at hb
    · split at hc
      · omega
      · exact key k hk (by omega) hc hb
    · split at hc
      · exact key j hj (by omega) hb hc
      · exact List.pairwise_iff_getElem.1 H.apart j k hj hk hjk b hb hc
theorem Rel.blkAt (H : Rel w0 V0 own V w) {i b : Nat} {c : List Value} {t : TypeId} (hi : own[i]? = some (.blk b c t)) : Blk w b c t := H.laid (.blk b c t) (List.mem_of_getElem? hi)
theorem Rel.rowAt (H : Rel w0 V0 own V w) {i : Nat} {s : Sl} {e sz : Nat} {xs : List Value} (hi : own[i]? = some (.row s e sz xs)) : Row w s e sz xs := H.laid (.row s e sz xs) (List.mem_of_getElem? hi)
theorem Rel.objAt (H : Rel w0 V0 own V w) {i b : Nat} {o : Obj} (hi : own[i]? = some (.obj b o)) : w.heap[b]? = some o := H.laid (.obj b o) (List.mem_of_getElem? hi)
theorem Rel.celAt (H : Rel w0 V0 own V w) {i b o : Nat} {c : List Value} {t : TypeId} {u : Value} (hi : own[i]? = some (.blk b c t)) (h : c[o]? = some u) : w.cell? ⟨b, o, none⟩ = some u := (H.blkAt hi).cel h
theorem Rel.ldbAt (H : Rel w0 V0 own V w) {i b o n : Nat} {c : List Value} {t : TypeId} (hi : own[i]? = some (.blk b c t)) : ∀ j v, ((c.drop o).take n)[j]? = some v → w.cell? ⟨b, o + j, none⟩ = some v := by
  intro j v hj
  rw [List.getElem?_take] at hj
  split at hj
  · rw [List.getElem?_drop] at hj
    exact H.celAt hi hj
  · cases hj
theorem Rel.updAt (H : Rel w0 V0 own V w) {i b : Nat} {c c' : List Value} {t : TypeId} (hi : own[i]? = some (.blk b c t)) {w' : World} (hu : Upd w b c' t w') : Rel w0 V0 (own.set i (.blk b c' t)) V w' := by
  have hb := H.blkAt hi
  have hu' := hu
  obtain ⟨rfl⟩ := hu
  exact H.put hi rfl rfl rfl (by simp) (fun k _ hk => hu'.other fun e => hk (by rw [e]; rfl)) (hu'.blk hb.lt) fun k hk => .inl hk
theorem Rel.storeAt (H : Rel w0 V0 own V w) {i b o : Nat} {c l : List Value} {t : TypeId} (hi : own[i]? = some (.blk b c t)) {k : World → Prop} (hk : replK c o l fun c' => ∀ w', Rel w0 V0 (own.set i (.blk b c' t)) V w' → k w') :
    ∃ c t', BlkF w b c t' ∧ replK c o l fun c' => ∀ w', UpdF w b c' t' w' → k w' := by
  refine ⟨c, t, (H.blkAt hi).f, ?_⟩
  have mono : ∀ (c : List Value) (o : Nat) (l : List Value) (k k' : List Value → Prop), (∀ x, k x → k' x) → replK c o l k → replK c o l k' := by
    intro c
    induction c with
    | nil => intro o l k k' h hr; cases o <;> cases l <;> first | exact h _ hr | exact hr.elim
    | cons u c ih =>
      intro o l k k' h hr
      cases o with
      | zero =>
        cases l with
        | nil => exact h _ hr
        | cons v l => exact ih 0 l _ _ (fun x hx => h _ hx) hr
      | succ o => cases l <;> exact ih o _ _ _ (fun x hx => h _ hx) hr
  exact mono c o l _ _ (fun c' hc' w' hu => hc' w' (H.updAt hi (hu.upd (H.blkAt hi)))) hk
/-- 'append' to a row that is owned -/
theorem Rel.appAt {P : Program} {T : List TD} (hT : TabOk P T) {t ty e : TypeId} {d de : TD} (hd : T[t]? = some d) (hu : d.under = .slice e) (hde : T[e]? = some de) {z : Value} (hz : de.zero = some z) (hzs : z.cells.size = de.size) (hsz : 0 < de.size)
    {s x : Sl} {xs ys : List Value} (H : Rel w0 V0 own V w) {i : Nat} (hi : own[i]? = some (.row s e de.size xs)) (hx : Cells w x.a ys) (hxl : ys.length = x.len * de.size) (h1 : ∀ u ∈ ys, u.oneCell' = true) (hb : (s.len + x.len) * de.bytes ≤ 140737488355328) (hm : s.len + x.len ≤ 4611686018427387904)
    {k : Value → World → Prop} (hk : ∀ s' w', Rel w0 V0 (own.set i (.row s' e de.size (xs ++ ys))) V w' → s'.len = s.len + x.len → k s'.v w') : SemOk P (Builtin.append_ #[t, t] ty #[s.v, x.v]) w k := by
  refine app_row hT hd hu hde hz hzs hsz (H.rowAt hi) hx hxl h1 hb hm fun s' w' hr hl hg => hk s' w' ?_ hl
  have hra := (H.rowAt hi).at_
  refine H.put hi hg.os hg.tape hg.output hg.size (fun c hc hne => hg.block c hc ?_) hr fun b hb => ?_
  · cases hs : s.a with
    | none => exact .inl rfl
    | some p => refine .inr fun e => hne ?_; rw [e]; simp [Res.at_, hs, ablk]
  · simp only [Res.at_, Option.map_eq_some_iff] at hb ⊢
    obtain ⟨p, hp, rfl⟩ := hb
    rcases hg.own with h | ⟨h, h'⟩ | h
    · rw [hp] at h; cases h
    · cases hs : s.a with
      | none => exact absurd hs h
      | some q => rw [hp, hs] at h'; exact .inl ⟨q, rfl, h'.symm⟩
    · rw [hp] at h; exact .inr h
/-- what is not kept as owned may be read from now on -/
theorem Rel.freeze (H : Rel w0 V0 own V w) {own' : List Res} (h : own'.Sublist own) : ∃ V', Sub V V' ∧ Rel w0 V0 own' V' w ∧
    ∀ (b : Nat) (c : Array Value) (t : TypeId) (f : Nat × Nat), w0.heap.size ≤ b → w.heap[b]? = some (Obj.cells c t f) → (∀ r ∈ own', r.at_ ≠ some b) → V'.heap[b]? = some (Obj.cells c t f) := by
  have Hs := H.sl h
  let q : Nat → Bool := fun i => (decide (i < w0.heap.size) && (match V.heap[i]? with | some (.cells _ _ _) => false | _ => true)) || own'.any fun r => r.at_ == some i
  have hq : ∀ i, q i = true ↔ (i < w0.heap.size ∧ noCells V i) ∨ ∃ r ∈ own', r.at_ = some i := by
    intro i
    simp only [q, Bool.or_eq_true, Bool.and_eq_true, decide_eq_true_eq, List.any_eq_true, beq_iff_eq]
    refine or_congr (and_congr Iff.rfl ?_) Iff.rfl
    constructor
    · intro hm c t f hc; rw [hc] at hm; cases hm
    · intro hn
      cases hv : V.heap[i]? with
      | none => rfl
      | some o =>
        cases o with
        | cells c t f => exact absurd hv (hn c t f)
        | _ => rfl
  refine ⟨{ w with heap := w.heap.mapIdx fun i o => if q i = true then .deferred none else o }, ?_, ?_, ?_⟩
  · refine ⟨fun b c t f hb => ?_⟩
    have h1 := H.data.cel b c t f hb
    simp only [Array.getElem?_mapIdx, h1, Option.map_some, Option.some.injEq]
    rw [if_neg]
    intro hc
    rcases (hq b).1 hc with ⟨_, hn⟩ | ⟨r, hr, hrb⟩
    · exact hn c t f hb
    · exact Hs.hid r hr b hrb c t f hb
  · have hcel : ∀ (b : Nat) (c : Array Value) (t : TypeId) (f : Nat × Nat), (w.heap.mapIdx fun i o => if q i = true then Obj.deferred none else o)[b]? = some (.cells c t f) → q b = false ∧ w.heap[b]? = some (.cells c t f) := by
      intro b c t f hb
      rw [Array.getElem?_mapIdx] at hb
      obtain ⟨o, ho, hb⟩ := Option.map_eq_some_iff.1 hb
      split at hb
      · cases hb
      · rename_i hn
        exact ⟨by simpa using hn, by rw [ho, hb]⟩
    refine ⟨H.base, ?_, fun b hb hn c t f hc => ?_, Hs.laid, Hs.new, fun r hr b hb c t f hc => ?_, Hs.apart, ⟨fun b c t f hb => (hcel b c t f hb).2⟩⟩
    · refine ⟨fun b c t f hb => ?_⟩
      have hb := H.sub.cel b c t f hb
      have h1 := H.data.cel b c t f hb
      simp only [Array.getElem?_mapIdx, h1, Option.map_some, Option.some.injEq]
      rw [if_neg]
      intro hc
      rcases (hq b).1 hc with ⟨_, hn⟩ | ⟨r, hr, hrb⟩
      · exact hn c t f hb
      · exact Hs.hid r hr b hrb c t f hb
    · have := (hcel b c t f hc).1
      have h2 := (hq b).2 (.inl ⟨hb, H.old b hb hn⟩)
      rw [this] at h2; cases h2
    · have := (hcel b c t f hc).1
      have h2 := (hq b).2 (.inr ⟨r, hr, hb⟩)
      rw [this] at h2; cases h2
  · intro b c t f hb0 hb hn
    simp only [Array.getElem?_mapIdx, hb, Option.map_some, Option.some.injEq]
    rw [if_neg]
    intro hc
    rcases (hq b).1 hc with ⟨h1, _⟩ | ⟨r, hr, hrb⟩
    · omega
    · exact hn r hr hrb
theorem Rel.freezeRow {s : Sl} {e sz : Nat} {xs : List Value} (H : Rel w0 V0 (.row s e sz xs :: own) V w) : ∃ V', Sub V V' ∧ Rel w0 V0 own V' w ∧ Cells V' s.a xs ∧ s.len ≤ s.cap ∧ xs.length = s.len * sz := by
  obtain ⟨V', h1, h2, h3⟩ := H.freeze (List.sublist_cons_self _ _)
  have hr : Row w s e sz xs := H.laid (.row s e sz xs) (by simp)
  refine ⟨V', h1, h2, ?_, hr.cap, hr.len⟩
  rcases hr.at_ with ⟨g1, g2, g3⟩ | ⟨b, cur, g1, g2, g3, g4, g5, g6⟩
  · have : xs = [] := List.eq_nil_of_length_eq_zero (by rw [hr.len, g2]; simp)
    subst this
    exact ⟨fun h => absurd rfl h, fun j v hj => by simp at hj⟩
  · obtain ⟨fz, g2, _⟩ := g2
    have hv := h3 b cur e fz (H.new (.row s e sz xs) (by simp) b (by simp [Res.at_, g1])) g2 (fun r hr hrb => (List.pairwise_cons.1 H.apart).1 r hr b (by simp [Res.at_, g1]) hrb)
    refine ⟨fun _ => by rw [g1]; rfl, fun j v hj => ?_⟩
    rw [g1]
    simp only [ablk, aoff, Nat.zero_add]
    rw [← g6, List.getElem?_take] at hj
    split at hj
    · simp [World.cell?, hv]; simpa using hj
    · cases hj
theorem Rel.freezeBlk {b : Nat} {l : List Value} {t : TypeId} (H : Rel w0 V0 (.blk b l t :: own) V w) : ∃ V', Sub V V' ∧ Rel w0 V0 own V' w ∧ Blk V' b l t := by
  obtain ⟨V', h1, h2, h3⟩ := H.freeze (List.sublist_cons_self _ _)
  exact ⟨V', h1, h2, h3 b l.toArray t (0, 0) (H.new (.blk b l t) (by simp) b rfl) (H.laid (.blk b l t) (by simp)) (fun r hr hrb => (List.pairwise_cons.1 H.apart).1 r hr b rfl hrb)⟩
/-- many cells that are only read -/
theorem Rel.datw (H : Rel w0 V0 own V w) {b base n : Nat} {c : List Value} {k : List Value → Prop} (hc : ∀ j v, c[j]? = some v → V.cell? ⟨b, base + j, none⟩ = some v) (hl : c.length = n) (hk : k c) : ∃ l : List Value, l.length = n ∧ (∀ j v, l[j]? = some v → w.cell? ⟨b, base + j, none⟩ = some v) ∧ k l :=
  ⟨c, hl, fun j v hj => H.dat (hc j v hj), hk⟩
theorem Rel.datl (H : Rel w0 V0 own V w) {b base o n : Nat} {c : List Value} {k : List Value → Prop} (hc : ∀ j v, c[j]? = some v → V.cell? ⟨b, base + j, none⟩ = some v) (hl : ((c.drop o).take n).length = n) (hk : k ((c.drop o).take n)) : ∃ l : List Value, l.length = n ∧ (∀ j v, l[j]? = some v → w.cell? ⟨b, base + o + j, none⟩ = some v) ∧ k l := by
  refine ⟨_, hl, fun j v hj => ?_, hk⟩
  rw [List.getElem?_take] at hj
  split at hj
  · rw [List.getElem?_drop] at hj
    rw [Nat.add_assoc]
    exact H.dat (hc _ v hj)
  · cases hj

theorem Rel.bk_0 {b : Nat} {c : List Value} {t : TypeId} (H : Rel w0 V0 (.blk b c t :: own) V w) : Blk w b c t := Rel.blkAt H (i := 0) rfl
theorem Rel.app_0 {P : Program} {T : List TD} (hT : TabOk P T) {t ty e : TypeId} {d de : TD} (hd : T[t]? = some d) (hu : d.under = .slice e) (hde : T[e]? = some de) {z : Value} (hz : de.zero = some z) (hzs : z.cells.size = de.size) (hsz : 0 < de.size)
    {s x : Sl} {xs ys : List Value} (H : Rel w0 V0 (.row s e de.size xs :: own) V w) (hx : Cells w x.a ys) (hxl : ys.length = x.len * de.size) (h1 : ∀ u ∈ ys, u.oneCell' = true) (hb : (s.len + x.len) * de.bytes ≤ 140737488355328) (hm : s.len + x.len ≤ 4611686018427387904)
    {k : Value → World → Prop} (hk : ∀ s' w', Rel w0 V0 (.row s' e de.size (xs ++ ys) :: own) V w' → s'.len = s.len + x.len → k s'.v w') : SemOk P (Builtin.append_ #[t, t] ty #[s.v, x.v]) w k :=
  Rel.appAt hT hd hu hde hz hzs hsz H (i := 0) rfl hx hxl h1 hb hm hk
theorem Rel.bk_1 {r0 : Res} {b : Nat} {c : List Value} {t : TypeId} (H : Rel w0 V0 (r0 :: .blk b c t :: own) V w) : Blk w b c t := Rel.blkAt H (i := 1) rfl
theorem Rel.app_1 {r0 : Res} {P : Program} {T : List TD} (hT : TabOk P T) {t ty e : TypeId} {d de : TD} (hd : T[t]? = some d) (hu : d.under = .slice e) (hde : T[e]? = some de) {z : Value} (hz : de.zero = some z) (hzs : z.cells.size = de.size) (hsz : 0 < de.size)
    {s x : Sl} {xs ys : List Value} (H : Rel w0 V0 (r0 :: .row s e de.size xs :: own) V w) (hx : Cells w x.a ys) (hxl : ys.length = x.len * de.size) (h1 : ∀ u ∈ ys, u.oneCell' = true) (hb : (s.len + x.len) * de.bytes ≤ 140737488355328) (hm : s.len + x.len ≤ 4611686018427387904)
    {k : Value → World → Prop} (hk : ∀ s' w', Rel w0 V0 (r0 :: .row s' e de.size (xs ++ ys) :: own) V w' → s'.len = s.len + x.len → k s'.v w') : SemOk P (Builtin.append_ #[t, t] ty #[s.v, x.v]) w k :=
  Rel.appAt hT hd hu hde hz hzs hsz H (i := 1) rfl hx hxl h1 hb hm hk
theorem Rel.bk_2 {r0 r1 : Res} {b : Nat} {c : List Value} {t : TypeId} (H : Rel w0 V0 (r0 :: r1 :: .blk b c t :: own) V w) : Blk w b c t := Rel.blkAt H (i := 2) rfl
theorem Rel.app_2 {r0 r1 : Res} {P : Program} {T : List TD} (hT : TabOk P T) {t ty e : TypeId} {d de : TD} (hd : T[t]? = some d) (hu : d.under = .slice e) (hde : T[e]? = some de) {z : Value} (hz : de.zero = some z) (hzs : z.cells.size = de.size) (hsz : 0 < de.size)
    {s x : Sl} {xs ys : List Value} (H : Rel w0 V0 (r0 :: r1 :: .row s e de.size xs :: own) V w) (hx : Cells w x.a ys) (hxl : ys.length = x.len * de.size) (h1 : ∀ u ∈ ys, u.oneCell' = true) (hb : (s.len + x.len) * de.bytes ≤ 140737488355328) (hm : s.len + x.len ≤ 4611686018427387904)
    {k : Value → World → Prop} (hk : ∀ s' w', Rel w0 V0 (r0 :: r1 :: .row s' e de.size (xs ++ ys) :: own) V w' → s'.len = s.len + x.len → k s'.v w') : SemOk P (Builtin.append_ #[t, t] ty #[s.v, x.v]) w k :=
  Rel.appAt hT hd hu hde hz hzs hsz H (i := 2) rfl hx hxl h1 hb hm hk
theorem Rel.bk_3 {r0 r1 r2 : Res} {b : Nat} {c : List Value} {t : TypeId} (H : Rel w0 V0 (r0 :: r1 :: r2 :: .blk b c t :: own) V w) : Blk w b c t := Rel.blkAt H (i := 3) rfl
/-- what is owned, found by its block -/
inductive At : List Res → Res → Prop where
  | h {r : Res} {l : List Res} : At (r :: l) r
  | t {x r : Res} {l : List Res} : At l r → At (x :: l) r
theorem At.idx {l : List Res} {r : Res} (h : At l r) : ∃ i : Nat, l[i]? = some r := by
  induction h with
  | h => exact ⟨0, rfl⟩
  | t _ ih => obtain ⟨i, hi⟩ := ih; exact ⟨i + 1, hi⟩
/-- .. and what the list is with another thing in its place -/
inductive AtF : List Res → Res → (Res → List Res) → Prop where
  | h {r : Res} {l : List Res} : AtF (r :: l) r (fun x => x :: l)
  | t {y r : Res} {l : List Res} {f : Res → List Res} : AtF l r f → AtF (y :: l) r (fun x => y :: f x)
theorem AtF.idx {l : List Res} {r : Res} {f : Res → List Res} (h : AtF l r f) : ∃ i : Nat, l[i]? = some r ∧ ∀ x, l.set i x = f x := by
  induction h with
  | h => exact ⟨0, rfl, fun x => rfl⟩
  | t _ ih => obtain ⟨i, hi, hf⟩ := ih; exact ⟨i + 1, hi, fun x => by rw [List.set_cons_succ, hf]⟩
theorem Rel.st (H : Rel w0 V0 own V w) {b o : Nat} {c l : List Value} {t : TypeId} {f : Res → List Res} {k : World → Prop} (hk : replK c o l fun c' => ∀ w', Rel w0 V0 (f (.blk b c' t)) V w' → k w') (hm : AtF own (.blk b c t) f := by repeat constructor) :
    ∃ c t', BlkF w b c t' ∧ replK c o l fun c' => ∀ w', UpdF w b c' t' w' → k w' := by
  obtain ⟨i, hi, hf⟩ := hm.idx
  simp only [← hf] at hk
  exact Rel.storeAt H hi hk
theorem bnt {p : Prop} {_ : Decidable p} (h : ¬ p) : (!decide p) = true := by simp [h]
theorem bnf {p : Prop} {_ : Decidable p} (h : p) : (!decide p) = false := by simp [h]
theorem cnd {b c : Bool} {F : Bool → Prop} (h : F c) (hb : b = c := by first | exact decide_eq_true (by omega) | exact decide_eq_false (by omega) | exact bnt (by omega) | exact bnf (by omega)) : condG 0 b F := by subst hb; exact condG_eq.2 h
/- one step of a walk, the side conditions proved by themselves -/
theorem an {p q : Prop} (hq : q) (hp : p := by first | omega | assumption | exact rfl | exact i64_byte _) : p ∧ q := ⟨hp, hq⟩
theorem ol {p q r : Prop} (hq : q) (hp : p := by first | omega | assumption) : (p ∧ q) ∨ r := .inl ⟨hp, hq⟩
theorem ea {α : Type} {p q : α → Prop} {x : α} (hq : q x) (hp : p x := by assumption) : ∃ x, p x ∧ q x := ⟨x, hp, hq⟩
theorem Rel.ce (H : Rel w0 V0 own V w) {b o : Nat} {c : List Value} {t : TypeId} {u : Value} {P : Value → Prop} (hk : P u) (hm : At own (.blk b c t) := by repeat constructor) (h : c[o]? = some u := by rfl) : ∃ u, w.cell? ⟨b, o, none⟩ = some u ∧ P u :=
  let ⟨_, hi⟩ := hm.idx; ⟨u, H.celAt hi h, hk⟩
theorem Rel.da (H : Rel w0 V0 own V w) {a : Addr} {u : Value} {P : Value → Prop} (h : V.cell? a = some u) (hk : P u) : ∃ u, w.cell? a = some u ∧ P u := ⟨u, H.dat h, hk⟩
theorem Rel.db (H : Rel w0 V0 own V w) {a : Addr} {u : Value} {P : Value → Prop} (hk : P u) (h : V.cell? a = some u := by assumption) : ∃ u, w.cell? a = some u ∧ P u := ⟨u, H.dat h, hk⟩
theorem Rel.lw (H : Rel w0 V0 own V w) {b : Nat} {c : List Value} {t : TypeId} {n : Nat} {k : List Value → Prop} (hk : k c) (hm : At own (.blk b c t) := by repeat constructor) (hl : c.length = n := by rfl) : ∃ l : List Value, l.length = n ∧ (∀ j v, l[j]? = some v → w.cell? ⟨b, 0 + j, none⟩ = some v) ∧ k l :=
  let ⟨_, hi⟩ := hm.idx; ⟨c, hl, fun j v hj => H.celAt hi (by rw [Nat.zero_add]; exact hj), hk⟩
theorem Rel.ll (H : Rel w0 V0 own V w) {b o : Nat} {c : List Value} {t : TypeId} {n : Nat} {k : List Value → Prop} (hk : k ((c.drop o).take n)) (hm : At own (.blk b c t) := by repeat constructor) (hl : ((c.drop o).take n).length = n := by rfl) : ∃ l : List Value, l.length = n ∧ (∀ j v, l[j]? = some v → w.cell? ⟨b, o + j, none⟩ = some v) ∧ k l :=
  let ⟨_, hi⟩ := hm.idx; ⟨_, hl, H.ldbAt hi, hk⟩
theorem Rel.sx (H : Rel w0 V0 own V w) {own' : List Res} (h : own'.Sublist own := by repeat (first | exact List.Sublist.refl _ | exact List.nil_sublist _ | refine List.Sublist.cons_cons _ ?_ | refine List.Sublist.cons _ ?_)) : Rel w0 V0 own' V w := H.sl h
theorem condT {p : Prop} {_ : Decidable p} {F : Bool → Prop} (h1 : p → F true) (h2 : ¬ p → False := by (intro h; omega)) : condG 0 (decide p) F := condG_dec h1 fun h => (h2 h).elim
theorem condF {p : Prop} {_ : Decidable p} {F : Bool → Prop} (h1 : ¬ p → F false) (h2 : p → False := by (intro h; omega)) : condG 0 (decide p) F := condG_dec (fun h => (h2 h).elim) h1
theorem condNT {p : Prop} {_ : Decidable p} {F : Bool → Prop} (h1 : ¬ p → F true) (h2 : p → False := by (intro h; omega)) : condG 0 (!decide p) F := condG_ndec h1 fun h => (h2 h).elim
theorem condNF {p : Prop} {_ : Decidable p} {F : Bool → Prop} (h1 : p → F false) (h2 : ¬ p → False := by (intro h; omega)) : condG 0 (!decide p) F := condG_ndec (fun h => (h2 h).elim) h1
theorem cT {p : Prop} {_ : Decidable p} {F : Bool → Prop} (h1 : F true) (h2 : ¬ p → False := by (intro h; omega)) : condG 0 (decide p) F := condG_dec (fun _ => h1) fun h => (h2 h).elim
theorem cF {p : Prop} {_ : Decidable p} {F : Bool → Prop} (h1 : F false) (h2 : p → False := by (intro h; omega)) : condG 0 (decide p) F := condG_dec (fun h => (h2 h).elim) fun _ => h1
theorem cN {p : Prop} {_ : Decidable p} {F : Bool → Prop} (h1 : F true) (h2 : p → False := by (intro h; omega)) : condG 0 (!decide p) F := condG_ndec (fun _ => h1) fun h => (h2 h).elim
theorem cM {p : Prop} {_ : Decidable p} {F : Bool → Prop} (h1 : F false) (h2 : ¬ p → False := by (intro h; omega)) : condG 0 (!decide p) F := condG_ndec (fun h => (h2 h).elim) fun _ => h1
/- a walk as one step: what is left over is found by the walk itself (wk: nothing is stored or allocated; wh: stores; wg: stores and allocs) -/
structure Hold (p : Prop) : Prop where
  go : p
theorem wk {G G' : Prop} (h : G') (e : Hold G' → G := by (intro hw; (repeat ((conv => whnf); first | refine an ?_ | refine Rel.ce H ?_ | refine Rel.db H ?_ | refine ea ?_ | refine ol ?_ | refine cT ?_ | refine cF ?_ | refine cN ?_ | refine cM ?_ | refine H.da (hc1 _ _ (by rfl)) ?_ | refine H.datw hc1 (by rfl) ?_ | refine H.datl hc1 (by rfl) ?_ | refine H.da (hc2 _ _ (by rfl)) ?_ | refine H.datw hc2 (by rfl) ?_ | refine H.datl hc2 (by rfl) ?_ | refine H.da (hc3 _ _ (by rfl)) ?_ | refine H.datw hc3 (by rfl) ?_ | refine H.datl hc3 (by rfl) ?_ | refine H.da (hc4 _ _ (by rfl)) ?_ | refine H.datw hc4 (by rfl) ?_ | refine H.datl hc4 (by rfl) ?_ | refine Rel.lw H ?_ | refine Rel.ll H ?_)); (conv => whnf); exact hw.go)) : G := e ⟨h⟩
theorem Rel.wh (H : Rel w0 V0 own V w) {G G' : Prop} (h : G') (e : Hold G' → G := by (intro hw; (repeat ((conv => whnf); first | refine an ?_ | refine Rel.ce H ?_ | refine Rel.db H ?_ | refine ea ?_ | refine ol ?_ | (refine Rel.st H ?_; (conv => whnf); (try clear H); intro wq H) | refine cT ?_ | refine cF ?_ | refine cN ?_ | refine cM ?_ | refine H.da (hc1 _ _ (by rfl)) ?_ | refine H.datw hc1 (by rfl) ?_ | refine H.datl hc1 (by rfl) ?_ | refine H.da (hc2 _ _ (by rfl)) ?_ | refine H.datw hc2 (by rfl) ?_ | refine H.datl hc2 (by rfl) ?_ | refine H.da (hc3 _ _ (by rfl)) ?_ | refine H.datw hc3 (by rfl) ?_ | refine H.datl hc3 (by rfl) ?_ | refine H.da (hc4 _ _ (by rfl)) ?_ | refine H.datw hc4 (by rfl) ?_ | refine H.datl hc4 (by rfl) ?_ | refine Rel.lw H ?_ | refine Rel.ll H ?_)); (conv => whnf); refine Hold.go (p := _) ?_; revert H; (repeat revert wq); (repeat revert bq); exact hw.go)) : G := e ⟨h⟩
theorem Rel.wg (H : Rel w0 V0 own V w) {G G' : Prop} (h : G') (e : Hold G' → G := by (intro hw; (repeat ((conv => whnf); first | refine an ?_ | ((first | refine Rel.nwD H ?_ | refine Rel.nw H ?_); (try clear H); intro wq bq H) | refine Rel.ce H ?_ | refine Rel.db H ?_ | refine ea ?_ | refine ol ?_ | (refine Rel.st H ?_; (conv => whnf); (try clear H); intro wq H) | refine cT ?_ | refine cF ?_ | refine cN ?_ | refine cM ?_ | refine H.da (hc1 _ _ (by rfl)) ?_ | refine H.datw hc1 (by rfl) ?_ | refine H.datl hc1 (by rfl) ?_ | refine H.da (hc2 _ _ (by rfl)) ?_ | refine H.datw hc2 (by rfl) ?_ | refine H.datl hc2 (by rfl) ?_ | refine H.da (hc3 _ _ (by rfl)) ?_ | refine H.datw hc3 (by rfl) ?_ | refine H.datl hc3 (by rfl) ?_ | refine H.da (hc4 _ _ (by rfl)) ?_ | refine H.datw hc4 (by rfl) ?_ | refine H.datl hc4 (by rfl) ?_ | refine Rel.lw H ?_ | refine Rel.ll H ?_)); (conv => whnf); refine Hold.go (p := _) ?_; revert H; (repeat revert wq); (repeat revert bq); exact hw.go)) : G := e ⟨h⟩
end
end Go.Proofs.YtffaffojkfalhaaGreatDoor