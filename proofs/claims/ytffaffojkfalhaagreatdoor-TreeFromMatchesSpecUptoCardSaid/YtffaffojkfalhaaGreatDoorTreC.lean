/-
  Files of trees: lists, records, values.
-/
import Derived.Test.YtffaffojkfalhaaGreatDoorTreN
namespace Go.Proofs.YtffaffojkfalhaaGreatDoor
open Go Go.RowKit

theorem TRds.lt {s s' : RS} {L : BL} {v : Val} (h : TRds s L s') (hL : L.map Prod.snd = tokV v) (hv : WfV v) : s'.rest.length < s.rest.length := by
  have h1 := congrArg List.length h.rest
  have h2 := flatB_len L
  have h3 := lenT_pos hv
  rw [hL] at h2
  rw [List.length_append] at h1
  omega
theorem sgR_len {c : UInt8} {s s' : RS} (h : sgR c s = some s') : s'.rest.length < s.rest.length := by
  have h1 := congrArg List.length (sgR_some h).rest
  simp only [flatB, List.flatMap_cons, List.flatMap_nil, List.length_append, List.length_cons, List.length_nil] at h1
  omega
theorem nmR_len {s s' : RS} {x : List UInt8} (h : nmR s = some (x, s')) : s'.rest.length < s.rest.length := by
  obtain ⟨h0, hx⟩ := nmR_some h
  have h1 := congrArg List.length h0.rest
  obtain ⟨c, r, hc, _⟩ := nameOk_head hx
  simp only [flatB, List.flatMap_cons, List.flatMap_nil, List.length_append, List.length_nil, hc, List.length_cons] at h1
  omega
theorem elR_lens {f : TrF} (hf : TrOk f) {k : Int} {x y : EL} (h : elR f k x = some y) : y.2.1.length = x.2.1.length + 1 ∧ y.2.2.rest.length < x.2.2.rest.length ∧ y.1.length ≤ x.1.length + 1 := by
  have key : ∀ ns ps s, elV f ns ps s = some y → y.2.1.length = ps.length + 1 ∧ y.2.2.rest.length < s.rest.length ∧ y.1 = ns := by
    intro ns ps s h
    unfold elV at h
    split at h
    · cases h
    · rename_i v s' hv
      cases h
      obtain ⟨L, h1, h2, h3⟩ := hf _ _ _ hv
      exact ⟨by simp, h1.lt h2 h3, rfl⟩
  unfold elR at h
  split at h
  · split at h
    · cases h
    · rename_i nm s1 h1
      split at h
      · cases h
      · rename_i s2 h2
        obtain ⟨a, b, c⟩ := key _ _ _ h
        have := nmR_len h1
        have := sgR_len h2
        refine ⟨a, by omega, by rw [c]; simp⟩
  · obtain ⟨a, b, c⟩ := key _ _ _ h
    exact ⟨a, b, by rw [c]; omega⟩
/-- what a list or a record that is being read owns -/
abbrev VlO (vb : Nat) (k : Int) (ns ps : Sl) (nms : List (List UInt8)) (vh : List VH) : List Res := [.blk vb [iv k, iv 0, .slice none 0 0, ns.v, ps.v] 27, .row ns 9 1 (nms.flatMap strC), .row ps 27 5 (vh.flatMap valC)]
structure ElS (w0 V0 : World) (rb vb : Nat) (k : Int) (own : List Res) (N : Nat) (V : World) (x : EL) (w : World) : Prop where
  ex : ∃ (V' : World) (r o : Sl) (hs : List BkH) (ns ps : Sl) (vh : List VH), Sub V V' ∧ RdV N V' r hs x.2.2 ∧ Pw ValAt V' vh x.2.1 ∧ Rel w0 V0 (RdO rb r o hs x.2.2 ++ (VlO vb k ns ps x.1 vh ++ own)) V' w
theorem valAt_up (V V' : World) (x : VH) (y : Val) (hs : Sub V V') (h : ValAt V x y) : ValAt V' x y := h.up hs
section
variable {w0 V0 V w : World} {own : List Res} {rb vb N : Nat} {k : Int} {x : EL}
theorem ElS.peek (h : ElS w0 V0 rb vb k own N V x w) (hN : N ≤ 5000) : Cal Tryz.prog 67 [.pointer (some ⟨rb, 0, none⟩)].toArray w (fun q w' => (∃ c, pk x.2.2 = some c ∧ q = bv c) ∧ ElS w0 V0 rb vb k own N V x w') (Bad w0 (pk x.2.2 = none)) := by
  obtain ⟨V', r, o, hs, ns, ps, vh, h1, h2, h3, H⟩ := h
  exact Cal.mono (peek_tree H h2 hN) (fun q w' ⟨h4, H⟩ => ⟨h4, V', r, o, hs, ns, ps, vh, h1, h2, h3, H⟩) (fun ch w' h => h)
theorem ElS.sign (h : ElS w0 V0 rb vb k own N V x w) (hN : N ≤ 5000) {c : UInt8} (hc : c.toNat < 128) : Cal Tryz.prog 73 [.pointer (some ⟨rb, 0, none⟩), bv c].toArray w (fun q w' => q = .tuple #[] ∧ ∃ s', sgR c x.2.2 = some s' ∧ ElS w0 V0 rb vb k own N V (x.1, x.2.1, s') w') (Bad w0 (sgR c x.2.2 = none)) := by
  obtain ⟨V', r, o, hs, ns, ps, vh, h1, h2, h3, H⟩ := h
  refine Cal.mono (sign_tree H h2 hN hc) (fun q w' ⟨hq, s', hs', V2, r2, o2, hs2, hV2, hR2, _, H⟩ => ⟨hq, s', hs', V2, r2, o2, hs2, ns, ps, vh, h1.trans hV2, hR2, h3.up valAt_up hV2, H⟩) (fun ch w' h => h)
/-- a function that reads one part -/
def ElemOk (w0 V0 : World) (rb vb : Nat) (k : Int) (own : List Res) (N : Nat) (g : FuncId) (cap : List Value) (f : TrF) (n : Nat) (U : World) : Prop :=
  ∀ (V w : World) (x : EL), Sub U V → ElS w0 V0 rb vb k own N V x w → x.2.2.rest.length < n → x.2.1.length + x.2.2.rest.length ≤ 5000 → x.1.length ≤ x.2.1.length →
    Cal Tryz.prog g cap.toArray w (fun q w' => q = .tuple #[] ∧ ∃ y, elR f k x = some y ∧ ElS w0 V0 rb vb k own N V y w') (Bad w0 (elR f k x = none))
theorem list_tree {f : TrF} {n : Nat} {g : FuncId} {cap : List Value} {U : World} {s : RS} (hf : TrOk f) (hel : ElemOk w0 V0 rb vb k own N g cap f n U) (hU : Sub U V) (hS : ElS w0 V0 rb vb k own N V ([], [], s) w) (hn : s.rest.length < n + 1) (hl : s.rest.length ≤ 5000) (hN : N ≤ 5000)
    {op en : UInt8} (hop : op = if k = 4 then 123 else 91) (hen : en = if k = 4 then 125 else 93) : Cal Tryz.prog 69 [.pointer (some ⟨rb, 0, none⟩), bv op, bv en, .func (.func g) #[] cap.toArray].toArray w (fun q w' => q = .tuple #[] ∧ ∃ y, lsR f k s = some y ∧ ElS w0 V0 rb vb k own N V y w') (Bad w0 (lsR f k s = none)) := by
  have ho8 : op.toNat < 128 := by rw [hop]; split <;> decide
  have he8 : en.toNat < 128 := by rw [hen]; split <;> decide
  have e : lsR f k s = match sgR op s with
    | none => none
    | some s => match pk s with
      | none => none
      | some c => if c = en then enR en ([], [], s) else match elR f k ([], [], s) with
        | none => none
        | some y => match lpR f k (y.2.2.rest.length + 1) y with
          | none => none
          | some z => enR en z := by unfold lsR; rw [← hop, ← hen]; rfl
  rw [e]
  refine cal_of_sem tabOk Tryz.func69 rfl (by kernel_rfl) 27 rfl (by simp) [0, 1, 2, 3, 14, 19] ?_
  refine SemC.seqGo tabOk ?_
  (conv => whnf)
  refine Cal.mono (hS.sign hN ho8) ?_ (fun ch w' h => h.mono fun h => by dsimp only at h; rw [h])
  clear hS
  rintro v w ⟨rfl, s1, hs1, hS⟩
  dsimp only at hs1 hS
  have hl1 := sgR_len hs1
  rw [hs1]
  dsimp only
  obtain ⟨full, hfull⟩ : ∃ full : Option EL, full = match pk s1 with
      | none => none
      | some c => if c = en then enR en ([], [], s1) else match elR f k ([], [], s1) with
        | none => none
        | some y => match lpR f k (y.2.2.rest.length + 1) y with
          | none => none
          | some z => enR en z := ⟨_, rfl⟩
  rw [← hfull]
  (conv => whnf)
  refine SemC.seqCut tabOk (fun _ : EL => [(0, .pointer (some ⟨rb, 0, none⟩)), (2, bv en)]) (fun z w' => full = enR en z ∧ ElS w0 V0 rb vb k own N V z w') ?_ ?_
  · (conv => whnf)
    refine Cal.mono (hS.peek hN) ?_ (fun ch w' h => h.mono fun h => by dsimp only at h; rw [hfull, h])
    clear hS
    rintro v w ⟨⟨c, hc, rfl⟩, hS⟩
    dsimp only at hc
    rw [hc] at hfull
    (conv => whnf)
    refine condG_dec (fun hne => ?_) (fun heq => ?_)
    rotate_left
    · obtain rfl : c = en := UInt8.toNat_inj.1 (by omega)
      (conv => whnf)
      exact ⟨rfl, ([], [], s1), (by repeat (first | exact trivial | refine ⟨rfl, ?_⟩)), by rw [hfull]; exact if_pos rfl, hS⟩
    · have hne' : ¬ c = en := fun e => hne (by rw [e])
      replace hfull : full = match elR f k ([], [], s1) with
        | none => none
        | some y => match lpR f k (y.2.2.rest.length + 1) y with
          | none => none
          | some z => enR en z := by rw [hfull]; exact if_neg hne'
      (conv => whnf)
      refine Cal.mono (hel V w ([], [], s1) hU hS (by dsimp only; omega) (by dsimp only [List.length_nil]; omega) (Nat.le_refl _)) ?_ (fun ch w' h => h.mono fun h => by rw [hfull, h])
      clear hS
      rintro v w ⟨rfl, y, hy, hS⟩
      obtain ⟨g1, g2, g3⟩ := elR_lens hf hy
      dsimp only [List.length_nil] at g1 g2 g3
      rw [hy] at hfull
      dsimp only at hfull
      (conv => whnf)
      refine SemC.cut 0 (fun _ : EL => [(0, .pointer (some ⟨rb, 0, none⟩)), (2, bv en)]) (fun z w' => full = enR en z ∧ ElS w0 V0 rb vb k own N V z w') ?_ ?_
      · refine loop_inv (S := EL) tabOk [0, 1, 2, 3, 14] (fun _ => []) (fun z w' => (∃ m, z.2.2.rest.length < m ∧ full = match lpR f k m z with
            | none => none
            | some z => enR en z) ∧ (z.2.2.rest.length < n ∧ z.2.1.length + z.2.2.rest.length ≤ 5000 ∧ z.1.length ≤ z.2.1.length) ∧ ElS w0 V0 rb vb k own N V z w') (fun z _ => z.2.2.rest.length) y ?_
        (conv => whnf)
        refine ⟨(by repeat (first | exact trivial | refine ⟨rfl, ?_⟩)), ⟨⟨_, Nat.lt_succ_self _, hfull⟩, ⟨by omega, by omega, by omega⟩, hS⟩, ?_⟩
        clear hS hfull
        rintro z w ⟨⟨m, hm, hfull⟩, ⟨l1, l2, l3⟩, hS⟩
        cases m with
        | zero => omega
        | succ m =>
        rw [lpR] at hfull
        (conv => whnf)
        refine Cal.mono (hS.peek hN) ?_ (fun ch w' h => h.mono fun h => by rw [hfull, h])
        clear hS
        rintro v w ⟨⟨c, hc, rfl⟩, hS⟩
        rw [hc] at hfull
        dsimp only at hfull
        by_cases h44 : c = 44
        · subst h44
          rw [if_pos rfl] at hfull
          (conv => whnf)
          refine Cal.mono (hS.sign hN (c := 44) (by decide)) ?_ (fun ch w' h => h.mono fun h => by rw [hfull, h])
          clear hS
          rintro v w ⟨rfl, s2, hs2, hS⟩
          have q1 := sgR_len hs2
          rw [hs2] at hfull
          dsimp only at hfull
          (conv => whnf)
          refine Cal.mono (hel V w (z.1, z.2.1, s2) hU hS (by dsimp only; omega) (by dsimp only; omega) l3) ?_ (fun ch w' h => h.mono fun h => by rw [hfull, h])
          clear hS
          rintro v w ⟨rfl, y2, hy2, hS⟩
          obtain ⟨q2, q3, q4⟩ := elR_lens hf hy2
          dsimp only at q2 q3 q4
          rw [hy2] at hfull
          dsimp only at hfull
          (conv => whnf)
          exact ⟨rfl, (by repeat (first | exact trivial | refine ⟨rfl, ?_⟩)), y2, (by repeat (first | exact trivial | refine ⟨rfl, ?_⟩)), ⟨⟨m, by omega, hfull⟩, ⟨by omega, by omega, by omega⟩, hS⟩, by omega⟩
        · rw [if_neg h44] at hfull
          have h44' : c.toNat ≠ 44 := fun e => h44 (UInt8.toNat_inj.1 e)
          (conv => whnf)
          refine condG_dec (fun h => absurd h (by omega)) (fun _ => ?_)
          (conv => whnf)
          exact ⟨rfl, z, (by repeat (first | exact trivial | refine ⟨rfl, ?_⟩)), hfull, hS⟩
      · clear hS
        rintro z w ⟨hz, hS⟩
        (conv => whnf)
        exact ⟨rfl, z, (by repeat (first | exact trivial | refine ⟨rfl, ?_⟩)), hz, hS⟩
  clear hS
  rintro z w ⟨hz, hS⟩
  refine SemC.go tabOk ?_
  (conv => whnf)
  unfold enR at hz
  refine Cal.mono (hS.sign hN he8) ?_ (fun ch w' h => h.mono fun h => by rw [hz, h])
  clear hS
  rintro v w ⟨rfl, s2, hs2, hS⟩
  rw [hs2] at hz
  (conv => whnf)
  exact ⟨rfl, _, hz, hS⟩
end
/-! ### values -/
/-- two cells are kept -/
structure Kc2 (a : Addr) (u : Value) (b : Addr) (v : Value) (w w' : World) : Prop where
  fst : w.cell? a = some u → w'.cell? a = some u
  snd : w.cell? b = some v → w'.cell? b = some v
theorem Kc2.trans {a b : Addr} {u v : Value} {x y z : World} (h : Kc2 a u b v x y) (k : Kc2 a u b v y z) : Kc2 a u b v x z := ⟨fun q => k.fst (h.fst q), fun q => k.snd (h.snd q)⟩
theorem Kc2.go {w0 V0 V w w' : World} {own : List Res} {n o : Nat} {b : Addr} {u v : Value} {p : Prop} (H : Rel w0 V0 own V w') (hb : V.cell? b = some v) (hp : p) (hm : ∃ (i : Nat) (c : List Value) (t : TypeId), own[i]? = some (.blk n c t) ∧ c[o]? = some u := by first | exact ⟨2, _, _, rfl, rfl⟩ | exact ⟨3, _, _, rfl, rfl⟩ | exact ⟨4, _, _, rfl, rfl⟩) : Kc2 ⟨n, o, none⟩ u b v w w' ∧ p :=
  let ⟨_, _, _, hi, hc⟩ := hm; ⟨⟨fun _ => H.celAt hi hc, fun _ => H.dat hb⟩, hp⟩
theorem Kc2.ld {w0 V0 V w w1 : World} {own : List Res} {n o : Nat} {b : Addr} {u v : Value} (H : Rel w0 V0 own V w) (hb : V.cell? b = some v) (hk : Kc2 ⟨n, o, none⟩ u b v w w1) (hm : ∃ (i : Nat) (c : List Value) (t : TypeId), own[i]? = some (.blk n c t) ∧ c[o]? = some u := by first | exact ⟨2, _, _, rfl, rfl⟩ | exact ⟨3, _, _, rfl, rfl⟩ | exact ⟨4, _, _, rfl, rfl⟩) : w1.cell? ⟨n, o, none⟩ = some u ∧ w1.cell? b = some v :=
  let ⟨_, _, _, hi, hc⟩ := hm; ⟨hk.fst (H.celAt hi hc), hk.snd (H.dat hb)⟩
/-- how a value is read -/
def ValueOk (n : Nat) : Prop := ∀ (w0 V0 V w : World) (own : List Res) (rb N : Nat) (r o : Sl) (hs : List BkH) (s : RS), NumT V → Rel w0 V0 (RdO rb r o hs s ++ own) V w → RdV N V r hs s → N ≤ 5000 → s.rest.length < n →
  Cal Tryz.prog 45 [.pointer (some ⟨rb, 0, none⟩)].toArray w (fun q w' => ∃ v s' h, rdV n s = some (v, s') ∧ q = valV h ∧ RdR w0 V0 rb own N V s' (fun U => ValAt U h v) w') (Bad w0 (rdV n s = none))
theorem replK_of : ∀ {c : List Value} {o : Nat} {l : List Value} {k : List Value → Prop}, o + l.length ≤ c.length → k (c.take o ++ (l ++ c.drop (o + l.length))) → replK c o l k
  | [], 0, [], k, _, h => h
  | [], 0, _ :: _, k, hl, _ => by simp at hl
  | [], o + 1, l, k, hl, _ => by simp at hl
  | u :: c, 0, [], k, _, h => by simpa [replK] using h
  | u :: c, 0, v :: l, k, hl, h => by
    rw [replK]
    simp only [List.length_cons, Nat.zero_add] at hl h
    refine replK_of (c := c) (o := 0) (l := l) (by omega) ?_
    simpa [Nat.add_comm] using h
  | u :: c, o + 1, l, k, hl, h => by
    rw [replK]
    simp only [List.length_cons] at hl
    refine replK_of (c := c) (o := o) (l := l) (by omega) ?_
    simpa [show o + 1 + l.length = o + l.length + 1 by omega] using h
/-- cells of a row that is owned are written -/
theorem Rel.stRowL {w0 V0 V w : World} {own : List Res} (H : Rel w0 V0 own V w) {i sz : Nat} {s : Sl} {e : TypeId} {xs : List Value} (hi : own[i]? = some (.row s e sz xs)) (j : Nat) {l : List Value} (hj : j + l.length ≤ s.len * sz) {b o : Nat} (hb : b = ablk s.a) (ho : o = aoff s.a + j) (h0 : l ≠ []) {k : World → Prop}
    (hk : ∀ w', Rel w0 V0 (own.set i (.row s e sz (xs.take j ++ (l ++ xs.drop (j + l.length))))) V w' → k w') : ∃ c t', BlkF w b c t' ∧ replK c o l fun c' => ∀ w', UpdF w b c' t' w' → k w' := by
  have hr := H.rowAt hi
  have hl1 : 1 ≤ l.length := by
    cases l with
    | nil => exact absurd rfl h0
    | cons x y => simp
  rcases hr.at_ with ⟨_, h2, _⟩ | ⟨b0, cur, h1, h2, h3, h4, h5, h6⟩
  · rw [h2, Nat.zero_mul] at hj; omega
  · rw [h1] at hb ho
    simp only [ablk, aoff, Nat.zero_add] at hb ho
    subst hb ho
    have hbl : BlkF w b cur.toList e := h2
    have hle := Nat.mul_le_mul_right sz h3
    have hcl : cur.toList.length = s.cap * sz := by rw [Array.length_toList, h5]
    refine ⟨cur.toList, e, hbl, replK_of (by omega) fun w' hu => hk w' ?_⟩
    have hu' := hu
    have hxl := hr.len
    have hnl : (cur.toList.take o ++ (l ++ cur.toList.drop (o + l.length))).length = cur.size := by
      simp only [List.length_append, List.length_take, List.length_drop, hcl, h5]
      omega
    obtain ⟨fz, cs, hz1, rfl⟩ := hu.wd
    refine H.put hi rfl rfl rfl (by simp) (fun k _ hk => hu'.other fun e => hk (by rw [e]; simp [Res.at_, h1])) ⟨?_, .inr ⟨b, (cur.toList.take o ++ (l ++ cur.toList.drop (o + l.length))).toArray, h1, hu'.row hbl (by simpa using hnl), h3, h4, by simpa [h5] using hnl, ?_⟩⟩ fun k hk => .inl hk
    · simp only [List.length_append, List.length_take, List.length_drop, hxl]
      omega
    · rw [← h6]
      show (cur.toList.take o ++ (l ++ cur.toList.drop (o + l.length))).take (s.len * sz) = _
      rw [List.take_append, List.take_append, List.length_take, List.take_of_length_le (l := cur.toList.take o) (by rw [List.length_take]; omega), List.take_of_length_le (l := l) (by omega), List.take_take, Nat.min_eq_left (by omega), List.drop_take]
      rw [Nat.min_eq_left (by omega), show s.len * sz - o - l.length = s.len * sz - (o + l.length) by omega]
theorem vh_set (vh : List VH) (h : VH) : ((vh ++ [zeroH]).flatMap valC).take (vh.length * 5) ++ (valC h ++ ((vh ++ [zeroH]).flatMap valC).drop (vh.length * 5 + (valC h).length)) = (vh ++ [h]).flatMap valC := by
  have hl : (vh.flatMap valC).length = vh.length * 5 := flat_len (n := 5) (fun _ => rfl) vh
  rw [List.flatMap_append, List.flatMap_append, ← hl, List.take_left, ← List.drop_drop, List.drop_left]
  simp
section
variable {w0 V0 V w : World} {own : List Res} {rb vb b1 N n : Nat} {U : World}
theorem elem1_tree (ih : ValueOk n) (hE : NumT U) (hN : N ≤ 5000) (hbox : U.cell? ⟨b1, 0, none⟩ = some (.pointer (some ⟨rb, 0, none⟩))) : ElemOk w0 V0 rb vb 3 own N 70 [.pointer (some ⟨vb, 0, none⟩), .pointer (some ⟨b1, 0, none⟩)] (rdV n) n U := by
  intro V w x hU hS hlt hl1 hl2
  obtain ⟨V1, r, o, hs, ns, ps, vh, hV1, hR, hP, H⟩ := hS
  have hbx := (hU.trans hV1).cell hbox
  have hvl := hP.len
  simp only [RdO, VlO, List.cons_append, List.nil_append] at H
  have hpl := H.rowLen (i := 4) rfl (fun _ => rfl) (by decide)
  refine cal_of_vc tabOk Tryz.func70 rfl (by kernel_rfl) 11 rfl (by simp) [0, 1] ?_
  ((first | refine draw_vcTX (id := 0) tabOk mixed (Kc2 ⟨vb, 4, none⟩ ps.v ⟨b1, 0, none⟩ (.pointer (some ⟨rb, 0, none⟩))) (fun _ _ _ => Kc2.trans) [3, 5] [1, 2] [0, 1, 2, 4, 3, 5, 6, 7, 9, 8, 10] [(3, []), (5, []), (6, [3, 5]), (8, [3, 5, 6]), (10, [3, 5, 6])] (by kernel_rfl) ?_); intro w hdw; replace H := Rel.ext H hdw.ext)
  have bad : rdV n x.2.2 = none → elR (rdV n) 3 x = none := fun h => by unfold elR elV; rw [if_neg (by decide), h]
  have good : ∀ v s, rdV n x.2.2 = some (v, s) → elR (rdV n) 3 x = some (x.1, x.2.1 ++ [v], s) := fun v s h => by unfold elR elV; rw [if_neg (by decide), h]
  repeat' ((first | (refine H.wh ?_; clear H; intros; rename_i w H; constructor) | refine wk ?_); (first | refine Kc2.go H (by assumption) ?_ | (refine And.intro (fun w1 hkp => ?_) ?_; focus (obtain ⟨hk1, hk2⟩ := Kc2.ld H (by assumption) hkp; (repeat ((conv => whnf); first | refine an ?_ | refine ea ?_ | refine ol ?_)); (conv => whnf); all_goals (first | exact ⟨rfl, rfl⟩ | exact rfl))) | refine And.intro ?_ ?_ | ((first | refine Rel.nwD H ?_ | refine Rel.nw H ?_); clear H; intro w _ H)))
  · (conv => whnf)
    refine Cal.mono (ih _ _ _ _ _ _ _ _ _ _ _ (hE.up (hU.trans hV1)) H hR hN hlt) ?_ (fun ch w' h => h.mono bad)
    clear H
    rintro v w ⟨v1, s', h1, hrd, rfl, V2, r2, o2, hs2, hV2, hR2, hva, H⟩
    have hbx2 := hV2.cell hbx
    simp only [RdO, VlO, List.cons_append, List.nil_append] at H
    repeat' ((first | (refine H.wh ?_; clear H; intros; rename_i w H; constructor) | refine wk ?_); (first | refine Kc2.go H (by assumption) ?_ | (refine And.intro (fun w1 hkp => ?_) ?_; focus (obtain ⟨hk1, hk2⟩ := Kc2.ld H (by assumption) hkp; (repeat ((conv => whnf); first | refine an ?_ | refine ea ?_ | refine ol ?_)); (conv => whnf); all_goals (first | exact ⟨rfl, rfl⟩ | exact rfl))) | refine And.intro ?_ ?_ | ((first | refine Rel.nwD H ?_ | refine Rel.nw H ?_); clear H; intro w _ H)))
    (conv => whnf)
    have hps := H.rowLen (i := 5) rfl (fun _ => rfl) (by decide)
    refine Rel.app1At (f := valC) (s := ps) (l := vh) (x := zeroH) tabOk rfl rfl rfl rfl rfl (by decide) (fun _ => rfl) (by simp [Value.oneCell']) H (i := 4) rfl (by show (vh.length + 1) * 88 ≤ _; omega) (by omega) ?_
    clear H
    intro ps' w H
    simp only [List.set_cons_succ, List.set_cons_zero] at H
    have hps' := H.rowLen (i := 4) rfl (fun _ => rfl) (by decide)
    rw [List.length_append, List.length_singleton] at hps'
    obtain ⟨hp1, hp2⟩ := (H.slfAt (i := 4) rfl (fun _ => rfl) (by decide)).get (n := 5) (fun _ => rfl) (by decide) (i := vh.length) (by simp)
    repeat' ((first | (refine H.wh ?_; clear H; intros; rename_i w H; constructor) | refine wk ?_); (first | refine Kc2.go H (by assumption) ?_ | (refine And.intro (fun w1 hkp => ?_) ?_; focus (obtain ⟨hk1, hk2⟩ := Kc2.ld H (by assumption) hkp; (repeat ((conv => whnf); first | refine an ?_ | refine ea ?_ | refine ol ?_)); (conv => whnf); all_goals (first | exact ⟨rfl, rfl⟩ | exact rfl))) | refine And.intro ?_ ?_ | ((first | refine Rel.nwD H ?_ | refine Rel.nw H ?_); clear H; intro w _ H)))
    · (conv => whnf)
      refine Rel.stRowL (i := 4) H rfl (vh.length * 5) (by rw [hps']; show vh.length * 5 + 5 ≤ (vh.length + 1) * 5; omega) rfl (by rw [hps]; simp [placeOf]) (by simp [Value.cells]) ?_
      clear H
      intro w H
      simp only [List.set_cons_succ, List.set_cons_zero] at H
      rw [vh_set] at H
      (first | (refine H.wh ?_; clear H; intros; rename_i w H; constructor) | refine wk ?_)
      exact ⟨(x.1, x.2.1 ++ [v1], s'), (good _ _ hrd), V2, r2, o2, hs2, ns, ps', vh ++ [h1], (hV1.trans hV2), hR2, ((hP.up valAt_up hV2).snoc hva), H⟩
    · (first | (refine H.wh ?_; clear H; intros; rename_i w H; constructor) | refine wk ?_)
      refine Rel.stRowL (i := 4) H rfl (vh.length * 5) (by rw [hps']; show vh.length * 5 + 5 ≤ (vh.length + 1) * 5; omega) rfl (by rw [hps]; simp [placeOf]) (by simp [Value.cells]) ?_
      clear H
      intro w H
      simp only [List.set_cons_succ, List.set_cons_zero] at H
      rw [vh_set] at H
      (first | (refine H.wh ?_; clear H; intros; rename_i w H; constructor) | refine wk ?_)
      exact ⟨(x.1, x.2.1 ++ [v1], s'), (good _ _ hrd), V2, r2, o2, hs2, ns, ps', vh ++ [h1], (hV1.trans hV2), hR2, ((hP.up valAt_up hV2).snoc hva), H⟩
  · (conv => whnf)
    replace H := H.rot2
    refine Cal.mono (ih _ _ _ _ _ _ _ _ _ _ _ (hE.up (hU.trans hV1)) H hR hN hlt) ?_ (fun ch w' h => h.mono bad)
    clear H
    rintro v w ⟨v1, s', h1, hrd, rfl, V2, r2, o2, hs2, hV2, hR2, hva, H⟩
    have hbx2 := hV2.cell hbx
    simp only [RdO, VlO, List.cons_append, List.nil_append] at H
    repeat' ((first | (refine H.wh ?_; clear H; intros; rename_i w H; constructor) | refine wk ?_); (first | refine Kc2.go H (by assumption) ?_ | (refine And.intro (fun w1 hkp => ?_) ?_; focus (obtain ⟨hk1, hk2⟩ := Kc2.ld H (by assumption) hkp; (repeat ((conv => whnf); first | refine an ?_ | refine ea ?_ | refine ol ?_)); (conv => whnf); all_goals (first | exact ⟨rfl, rfl⟩ | exact rfl))) | refine And.intro ?_ ?_ | ((first | refine Rel.nwD H ?_ | refine Rel.nw H ?_); clear H; intro w _ H)))
    (conv => whnf)
    replace H := H.tor2
    have hps := H.rowLen (i := 5) rfl (fun _ => rfl) (by decide)
    refine Rel.app1At (f := valC) (s := ps) (l := vh) (x := zeroH) tabOk rfl rfl rfl rfl rfl (by decide) (fun _ => rfl) (by simp [Value.oneCell']) H (i := 4) rfl (by show (vh.length + 1) * 88 ≤ _; omega) (by omega) ?_
    clear H
    intro ps' w H
    simp only [List.set_cons_succ, List.set_cons_zero] at H
    have hps' := H.rowLen (i := 4) rfl (fun _ => rfl) (by decide)
    rw [List.length_append, List.length_singleton] at hps'
    obtain ⟨hp1, hp2⟩ := (H.slfAt (i := 4) rfl (fun _ => rfl) (by decide)).get (n := 5) (fun _ => rfl) (by decide) (i := vh.length) (by simp)
    repeat' ((first | (refine H.wh ?_; clear H; intros; rename_i w H; constructor) | refine wk ?_); (first | refine Kc2.go H (by assumption) ?_ | (refine And.intro (fun w1 hkp => ?_) ?_; focus (obtain ⟨hk1, hk2⟩ := Kc2.ld H (by assumption) hkp; (repeat ((conv => whnf); first | refine an ?_ | refine ea ?_ | refine ol ?_)); (conv => whnf); all_goals (first | exact ⟨rfl, rfl⟩ | exact rfl))) | refine And.intro ?_ ?_ | ((first | refine Rel.nwD H ?_ | refine Rel.nw H ?_); clear H; intro w _ H)))
    · (conv => whnf)
      refine Rel.stRowL (i := 4) H rfl (vh.length * 5) (by rw [hps']; show vh.length * 5 + 5 ≤ (vh.length + 1) * 5; omega) rfl (by rw [hps]; simp [placeOf]) (by simp [Value.cells]) ?_
      clear H
      intro w H
      simp only [List.set_cons_succ, List.set_cons_zero] at H
      rw [vh_set] at H
      (first | (refine H.wh ?_; clear H; intros; rename_i w H; constructor) | refine wk ?_)
      exact ⟨(x.1, x.2.1 ++ [v1], s'), (good _ _ hrd), V2, r2, o2, hs2, ns, ps', vh ++ [h1], (hV1.trans hV2), hR2, ((hP.up valAt_up hV2).snoc hva), H⟩
    · (first | (refine H.wh ?_; clear H; intros; rename_i w H; constructor) | refine wk ?_)
      refine Rel.stRowL (i := 4) H rfl (vh.length * 5) (by rw [hps']; show vh.length * 5 + 5 ≤ (vh.length + 1) * 5; omega) rfl (by rw [hps]; simp [placeOf]) (by simp [Value.cells]) ?_
      clear H
      intro w H
      simp only [List.set_cons_succ, List.set_cons_zero] at H
      rw [vh_set] at H
      (first | (refine H.wh ?_; clear H; intros; rename_i w H; constructor) | refine wk ?_)
      exact ⟨(x.1, x.2.1 ++ [v1], s'), (good _ _ hrd), V2, r2, o2, hs2, ns, ps', vh ++ [h1], (hV1.trans hV2), hR2, ((hP.up valAt_up hV2).snoc hva), H⟩
theorem elem2_tree (ih : ValueOk n) (hE : NumT U) (hN : N ≤ 5000) (hbox : U.cell? ⟨b1, 0, none⟩ = some (.pointer (some ⟨rb, 0, none⟩))) : ElemOk w0 V0 rb vb 4 own N 71 [.pointer (some ⟨vb, 0, none⟩), .pointer (some ⟨b1, 0, none⟩)] (rdV n) n U := by
  intro V w x hU hS hlt hl1 hl2
  obtain ⟨V1, r, o, hs, ns, ps, vh, hV1, hR, hP, H⟩ := hS
  have hbx := (hU.trans hV1).cell hbox
  have hvl := hP.len
  have e : elR (rdV n) 4 x = match nmR x.2.2 with
      | none => none
      | some (nm, s) => match sgR 58 s with
        | none => none
        | some s => elV (rdV n) (x.1 ++ [nm]) x.2.1 s := by unfold elR; rw [if_pos rfl]; rfl
  simp only [RdO, VlO, List.cons_append, List.nil_append] at H
  refine cal_of_vc tabOk Tryz.func71 rfl (by kernel_rfl) 20 rfl (by simp) [0, 1] ?_
  ((first | refine draw_vcTX (id := 0) tabOk mixed (Kc2 ⟨vb, 3, none⟩ ns.v ⟨b1, 0, none⟩ (.pointer (some ⟨rb, 0, none⟩))) (fun _ _ _ => Kc2.trans) [3, 4] [1] [0, 1, 2, 3, 4, 5, 6, 7] [(3, []), (4, [3]), (5, [3, 4]), (7, [3, 4, 5])] (by kernel_rfl) ?_ | refine draw_vcTX (id := 2) tabOk mixed (Kc2 ⟨vb, 3, none⟩ ns.v ⟨b1, 0, none⟩ (.pointer (some ⟨rb, 0, none⟩))) (fun _ _ _ => Kc2.trans) [3, 5] [1, 2] [0, 1, 2, 4, 3, 5, 6, 7, 9, 8, 10] [(3, []), (5, []), (6, [3, 5]), (8, [3, 5, 6]), (10, [3, 5, 6])] (by kernel_rfl) ?_); intro w hdw; replace H := Rel.ext H hdw.ext)
  repeat' ((first | (refine H.wh ?_; clear H; intros; rename_i w H; constructor) | refine wk ?_); (first | refine Kc2.go H (by assumption) ?_ | (refine And.intro (fun w1 hkp => ?_) ?_; focus (obtain ⟨hk1, hk2⟩ := Kc2.ld H (by assumption) hkp; (repeat ((conv => whnf); first | refine an ?_ | refine ea ?_ | refine ol ?_)); (conv => whnf); all_goals (first | exact ⟨rfl, rfl⟩ | exact rfl))) | refine And.intro ?_ ?_ | ((first | refine Rel.nwD H ?_ | refine Rel.nw H ?_); clear H; intro w _ H)))
  (first | (refine H.wh ?_; clear H; intros; rename_i w H; constructor) | refine wk ?_)
  refine Cal.mono (name_tree H hR hN) ?_ (fun ch w' h => h.mono fun h => by rw [e, h])
  clear H
  rintro v w ⟨nm, s1, hnm, rfl, V2, r2, o2, hs2, hV2, hR2, _, H⟩
  rw [hnm] at e
  dsimp only at e
  have q1 := nmR_len hnm
  have hbx2 := hV2.cell hbx
  simp only [RdO, VlO, List.cons_append, List.nil_append] at H
  repeat' ((first | (refine H.wh ?_; clear H; intros; rename_i w H; constructor) | refine wk ?_); (first | refine Kc2.go H (by assumption) ?_ | (refine And.intro (fun w1 hkp => ?_) ?_; focus (obtain ⟨hk1, hk2⟩ := Kc2.ld H (by assumption) hkp; (repeat ((conv => whnf); first | refine an ?_ | refine ea ?_ | refine ol ?_)); (conv => whnf); all_goals (first | exact ⟨rfl, rfl⟩ | exact rfl))) | refine And.intro ?_ ?_ | ((first | refine Rel.nwD H ?_ | refine Rel.nw H ?_); clear H; intro w _ H)))
  (conv => whnf)
  refine Rel.app1At (f := strC) (s := ns) (l := x.1) (x := nm) tabOk rfl rfl rfl rfl rfl (by decide) (fun _ => rfl) (by simp [Value.oneCell']) H (i := 3) rfl (by show (x.1.length + 1) * 16 ≤ _; omega) (by omega) ?_
  clear H
  intro ns' w H
  simp only [List.set_cons_succ, List.set_cons_zero] at H
  repeat' ((first | (refine H.wh ?_; clear H; intros; rename_i w H; constructor) | refine wk ?_); (first | refine Kc2.go H (by assumption) ?_ | (refine And.intro (fun w1 hkp => ?_) ?_; focus (obtain ⟨hk1, hk2⟩ := Kc2.ld H (by assumption) hkp; (repeat ((conv => whnf); first | refine an ?_ | refine ea ?_ | refine ol ?_)); (conv => whnf); all_goals (first | exact ⟨rfl, rfl⟩ | exact rfl))) | refine And.intro ?_ ?_ | ((first | refine Rel.nwD H ?_ | refine Rel.nw H ?_); clear H; intro w _ H)))
  (first | (refine H.wh ?_; clear H; intros; rename_i w H; constructor) | refine wk ?_)
  refine Cal.mono (sign_tree (c := 58) H hR2 hN (by decide)) ?_ (fun ch w' h => h.mono fun h => by rw [e, h])
  clear H
  rintro v w ⟨rfl, s2, hs2, V3, r3, o3, hs3, hV3, hR3, _, H⟩
  rw [hs2] at e
  dsimp only at e
  have q2 := sgR_len hs2
  have hbx3 := hV3.cell hbx2
  have hV123 := (hV1.trans hV2).trans hV3
  simp only [RdO, List.cons_append, List.nil_append] at H
  have bad : rdV n s2 = none → elR (rdV n) 4 x = none := fun h => by rw [e]; unfold elV; rw [h]
  have good : ∀ v s, rdV n s2 = some (v, s) → elR (rdV n) 4 x = some (x.1 ++ [nm], x.2.1 ++ [v], s) := fun v s h => by rw [e]; unfold elV; rw [h]
  have hP3 := (hP.up valAt_up hV2).up valAt_up hV3
  (first | (refine H.wg ?_; clear H; intros; rename_i w H; constructor) | refine wk ?_)
  ((first | refine draw_vcTX (id := 0) tabOk mixed (Kc2 ⟨vb, 4, none⟩ ps.v ⟨b1, 0, none⟩ (.pointer (some ⟨rb, 0, none⟩))) (fun _ _ _ => Kc2.trans) [3, 4] [1] [0, 1, 2, 3, 4, 5, 6, 7] [(3, []), (4, [3]), (5, [3, 4]), (7, [3, 4, 5])] (by kernel_rfl) ?_ | refine draw_vcTX (id := 2) tabOk mixed (Kc2 ⟨vb, 4, none⟩ ps.v ⟨b1, 0, none⟩ (.pointer (some ⟨rb, 0, none⟩))) (fun _ _ _ => Kc2.trans) [3, 5] [1, 2] [0, 1, 2, 4, 3, 5, 6, 7, 9, 8, 10] [(3, []), (5, []), (6, [3, 5]), (8, [3, 5, 6]), (10, [3, 5, 6])] (by kernel_rfl) ?_); intro w hdw; replace H := Rel.ext H hdw.ext)
  repeat' ((first | (refine H.wh ?_; clear H; intros; rename_i w H; constructor) | refine wk ?_); (first | refine Kc2.go H (by assumption) ?_ | (refine And.intro (fun w1 hkp => ?_) ?_; focus (obtain ⟨hk1, hk2⟩ := Kc2.ld H (by assumption) hkp; (repeat ((conv => whnf); first | refine an ?_ | refine ea ?_ | refine ol ?_)); (conv => whnf); all_goals (first | exact ⟨rfl, rfl⟩ | exact rfl))) | refine And.intro ?_ ?_ | ((first | refine Rel.nwD H ?_ | refine Rel.nw H ?_); clear H; intro w _ H)))
  · (conv => whnf)
    refine Cal.mono (ih _ _ _ _ _ _ _ _ _ _ _ (hE.up (hU.trans hV123)) H hR3 hN (by omega)) ?_ (fun ch w' h => h.mono bad)
    clear H
    rintro v w ⟨v1, s', h1, hrd, rfl, V2, r2, o2, hs2, hV2, hR2, hva, H⟩
    have hbx4 := hV2.cell hbx3
    simp only [RdO, List.cons_append, List.nil_append] at H
    repeat' ((first | (refine H.wh ?_; clear H; intros; rename_i w H; constructor) | refine wk ?_); (first | refine Kc2.go H (by assumption) ?_ | (refine And.intro (fun w1 hkp => ?_) ?_; focus (obtain ⟨hk1, hk2⟩ := Kc2.ld H (by assumption) hkp; (repeat ((conv => whnf); first | refine an ?_ | refine ea ?_ | refine ol ?_)); (conv => whnf); all_goals (first | exact ⟨rfl, rfl⟩ | exact rfl))) | refine And.intro ?_ ?_ | ((first | refine Rel.nwD H ?_ | refine Rel.nw H ?_); clear H; intro w _ H)))
    (conv => whnf)
    have hps := H.rowLen (i := 5) rfl (fun _ => rfl) (by decide)
    refine Rel.app1At (f := valC) (s := ps) (l := vh) (x := zeroH) tabOk rfl rfl rfl rfl rfl (by decide) (fun _ => rfl) (by simp [Value.oneCell']) H (i := 4) rfl (by show (vh.length + 1) * 88 ≤ _; omega) (by omega) ?_
    clear H
    intro ps' w H
    simp only [List.set_cons_succ, List.set_cons_zero] at H
    have hps' := H.rowLen (i := 4) rfl (fun _ => rfl) (by decide)
    rw [List.length_append, List.length_singleton] at hps'
    obtain ⟨hp1, hp2⟩ := (H.slfAt (i := 4) rfl (fun _ => rfl) (by decide)).get (n := 5) (fun _ => rfl) (by decide) (i := vh.length) (by simp)
    repeat' ((first | (refine H.wh ?_; clear H; intros; rename_i w H; constructor) | refine wk ?_); (first | refine Kc2.go H (by assumption) ?_ | (refine And.intro (fun w1 hkp => ?_) ?_; focus (obtain ⟨hk1, hk2⟩ := Kc2.ld H (by assumption) hkp; (repeat ((conv => whnf); first | refine an ?_ | refine ea ?_ | refine ol ?_)); (conv => whnf); all_goals (first | exact ⟨rfl, rfl⟩ | exact rfl))) | refine And.intro ?_ ?_ | ((first | refine Rel.nwD H ?_ | refine Rel.nw H ?_); clear H; intro w _ H)))
    · (conv => whnf)
      refine Rel.stRowL (i := 4) H rfl (vh.length * 5) (by rw [hps']; show vh.length * 5 + 5 ≤ (vh.length + 1) * 5; omega) rfl (by rw [hps]; simp [placeOf]) (by simp [Value.cells]) ?_
      clear H
      intro w H
      simp only [List.set_cons_succ, List.set_cons_zero] at H
      rw [vh_set] at H
      (first | (refine H.wh ?_; clear H; intros; rename_i w H; constructor) | refine wk ?_)
      exact ⟨(x.1 ++ [nm], x.2.1 ++ [v1], s'), (good _ _ hrd), V2, r2, o2, hs2, ns', ps', vh ++ [h1], (hV123.trans hV2), hR2, ((hP3.up valAt_up hV2).snoc hva), H⟩
    · (first | (refine H.wh ?_; clear H; intros; rename_i w H; constructor) | refine wk ?_)
      refine Rel.stRowL (i := 4) H rfl (vh.length * 5) (by rw [hps']; show vh.length * 5 + 5 ≤ (vh.length + 1) * 5; omega) rfl (by rw [hps]; simp [placeOf]) (by simp [Value.cells]) ?_
      clear H
      intro w H
      simp only [List.set_cons_succ, List.set_cons_zero] at H
      rw [vh_set] at H
      (first | (refine H.wh ?_; clear H; intros; rename_i w H; constructor) | refine wk ?_)
      exact ⟨(x.1 ++ [nm], x.2.1 ++ [v1], s'), (good _ _ hrd), V2, r2, o2, hs2, ns', ps', vh ++ [h1], (hV123.trans hV2), hR2, ((hP3.up valAt_up hV2).snoc hva), H⟩
  · (conv => whnf)
    replace H := H.rot2
    refine Cal.mono (ih _ _ _ _ _ _ _ _ _ _ _ (hE.up (hU.trans hV123)) H hR3 hN (by omega)) ?_ (fun ch w' h => h.mono bad)
    clear H
    rintro v w ⟨v1, s', h1, hrd, rfl, V2, r2, o2, hs2, hV2, hR2, hva, H⟩
    have hbx4 := hV2.cell hbx3
    simp only [RdO, List.cons_append, List.nil_append] at H
    repeat' ((first | (refine H.wh ?_; clear H; intros; rename_i w H; constructor) | refine wk ?_); (first | refine Kc2.go H (by assumption) ?_ | (refine And.intro (fun w1 hkp => ?_) ?_; focus (obtain ⟨hk1, hk2⟩ := Kc2.ld H (by assumption) hkp; (repeat ((conv => whnf); first | refine an ?_ | refine ea ?_ | refine ol ?_)); (conv => whnf); all_goals (first | exact ⟨rfl, rfl⟩ | exact rfl))) | refine And.intro ?_ ?_ | ((first | refine Rel.nwD H ?_ | refine Rel.nw H ?_); clear H; intro w _ H)))
    (conv => whnf)
    replace H := H.tor2
    have hps := H.rowLen (i := 5) rfl (fun _ => rfl) (by decide)
    refine Rel.app1At (f := valC) (s := ps) (l := vh) (x := zeroH) tabOk rfl rfl rfl rfl rfl (by decide) (fun _ => rfl) (by simp [Value.oneCell']) H (i := 4) rfl (by show (vh.length + 1) * 88 ≤ _; omega) (by omega) ?_
    clear H
    intro ps' w H
    simp only [List.set_cons_succ, List.set_cons_zero] at H
    have hps' := H.rowLen (i := 4) rfl (fun _ => rfl) (by decide)
    rw [List.length_append, List.length_singleton] at hps'
    obtain ⟨hp1, hp2⟩ := (H.slfAt (i := 4) rfl (fun _ => rfl) (by decide)).get (n := 5) (fun _ => rfl) (by decide) (i := vh.length) (by simp)
    repeat' ((first | (refine H.wh ?_; clear H; intros; rename_i w H; constructor) | refine wk ?_); (first | refine Kc2.go H (by assumption) ?_ | (refine And.intro (fun w1 hkp => ?_) ?_; focus (obtain ⟨hk1, hk2⟩ := Kc2.ld H (by assumption) hkp; (repeat ((conv => whnf); first | refine an ?_ | refine ea ?_ | refine ol ?_)); (conv => whnf); all_goals (first | exact ⟨rfl, rfl⟩ | exact rfl))) | refine And.intro ?_ ?_ | ((first | refine Rel.nwD H ?_ | refine Rel.nw H ?_); clear H; intro w _ H)))
    · (conv => whnf)
      refine Rel.stRowL (i := 4) H rfl (vh.length * 5) (by rw [hps']; show vh.length * 5 + 5 ≤ (vh.length + 1) * 5; omega) rfl (by rw [hps]; simp [placeOf]) (by simp [Value.cells]) ?_
      clear H
      intro w H
      simp only [List.set_cons_succ, List.set_cons_zero] at H
      rw [vh_set] at H
      (first | (refine H.wh ?_; clear H; intros; rename_i w H; constructor) | refine wk ?_)
      exact ⟨(x.1 ++ [nm], x.2.1 ++ [v1], s'), (good _ _ hrd), V2, r2, o2, hs2, ns', ps', vh ++ [h1], (hV123.trans hV2), hR2, ((hP3.up valAt_up hV2).snoc hva), H⟩
    · (first | (refine H.wh ?_; clear H; intros; rename_i w H; constructor) | refine wk ?_)
      refine Rel.stRowL (i := 4) H rfl (vh.length * 5) (by rw [hps']; show vh.length * 5 + 5 ≤ (vh.length + 1) * 5; omega) rfl (by rw [hps]; simp [placeOf]) (by simp [Value.cells]) ?_
      clear H
      intro w H
      simp only [List.set_cons_succ, List.set_cons_zero] at H
      rw [vh_set] at H
      (first | (refine H.wh ?_; clear H; intros; rename_i w H; constructor) | refine wk ?_)
      exact ⟨(x.1 ++ [nm], x.2.1 ++ [v1], s'), (good _ _ hrd), V2, r2, o2, hs2, ns', ps', vh ++ [h1], (hV123.trans hV2), hR2, ((hP3.up valAt_up hV2).snoc hva), H⟩
end
theorem value_tree : ∀ n, ValueOk n
  | 0 => fun w0 V0 V w own rb N r o hs s hE H hR hN hlt => absurd hlt (Nat.not_lt_zero _)
  | n + 1 => fun w0 V0 V w own rb N r o hs s hE H hR hN hlt => by
    have ih := value_tree n
    have hcnt := hR.cnt
    simp only [RdO, List.cons_append, List.nil_append] at H
    refine cal_of_vc tabOk Tryz.func45 rfl (by kernel_rfl) 33 rfl (by simp) [0, 1, 2, 3, 4, 5, 8, 14, 22] ?_
    (first | (refine H.wh ?_; clear H; intros; rename_i w H; constructor) | refine wk ?_)
    ((first | refine Rel.nwD H ?_ | refine Rel.nw H ?_); clear H; intro w b1 H)
    obtain ⟨V1, hV1, H, hb1⟩ := H.freezeBlk
    have hbox : V1.cell? ⟨b1, 0, none⟩ = some (.pointer (some ⟨rb, 0, none⟩)) := hb1.cel rfl
    have hR1 := hR.up hV1
    (first | (refine H.wh ?_; clear H; intros; rename_i w H; constructor) | refine wk ?_)
    ((first | refine Rel.nwD H ?_ | refine Rel.nw H ?_); clear H; intro w b2 H)
    replace H := H.rot2
    (first | (refine H.wg ?_; clear H; intros; rename_i w H; constructor) | refine wk ?_)
    refine Cal.mono (peek_tree H hR1 hN) ?_ (fun ch w' h => h.mono fun h => by rw [rdV, h])
    clear H
    rintro v w ⟨⟨c, hc, rfl⟩, H⟩
    have hc8 := c.toNat_lt
    have e : rdV (n + 1) s = if c = 34 then (txR s).map fun x => (.mk 2 0 x.1 [] [], x.2)
      else if c = 91 then (lsR (rdV n) 3 s).map fun x => (.mk 3 0 [] x.1 x.2.1, x.2.2)
      else if c = 123 then (lsR (rdV n) 4 s).map fun x => (.mk 4 0 [] x.1 x.2.1, x.2.2)
      else (nuR s).map fun x => (.mk 1 x.1 [] [] [], x.2) := by rw [rdV, hc]
    simp only [RdO, List.cons_append, List.nil_append] at H
    by_cases h34 : c = 34
    · subst h34
      (first | (refine H.wg ?_; clear H; intros; rename_i w H; constructor) | refine wk ?_)
      refine Cal.mono (text_tree H hR1 hN hc) ?_ (fun ch w' h => h.mono fun h => by rw [e, if_pos rfl, h]; rfl)
      clear H
      rintro v w ⟨b, s', p, htx, rfl, V2, r2, o2, hs2, hV2, hR2, hp, H⟩
      simp only [RdO, List.cons_append, List.nil_append] at H
      (first | (refine H.wg ?_; clear H; intros; rename_i w H; constructor) | refine wk ?_)
      exact ⟨.mk 2 0 b [] [], s', bytH p, by rw [e, if_pos rfl, htx]; rfl, rfl, V2, r2, o2, hs2, hV1.trans hV2, hR2, valAt_byt hp, H.sx⟩
    have g34 : c.toNat ≠ 34 := fun e => h34 (UInt8.toNat_inj.1 e)
    by_cases h91 : c = 91
    · subst h91
      (first | (refine H.wh ?_; clear H; intros; rename_i w H; constructor) | refine wk ?_)
      ((first | refine Rel.nwD H ?_ | refine Rel.nw H ?_); clear H; intro w b4 H)
      (first | (refine H.wg ?_; clear H; intros; rename_i w H; constructor) | refine wk ?_)
      replace H := H.rot2
      have H3 := ((H.rowNil 9 1).perm (List.perm_middle (l₁ := [_, _, _])).symm)
      have H4 := ((H3.rowNil 27 5).perm (List.perm_middle (l₁ := [_, _, _, _])).symm)
      clear H H3
      refine Cal.mono (list_tree (n := n) (f := rdV n) (rb := rb) (vb := b4) (k := 3) (own := .blk b2 [iv 0, iv 0, .slice none 0 0, .slice none 0 0, .slice none 0 0] 27 :: own) (N := N) (U := V1) (V := V1) (s := s) (rdV_ok n) (elem1_tree ih (hE.up hV1) hN hbox) (Sub.refl _) ⟨V1, r, o, hs, ⟨none, 0, 0⟩, ⟨none, 0, 0⟩, [], Sub.refl _, hR1, Pw.nil, H4⟩ (by omega) (by omega) hN rfl rfl) ?_ (fun ch w' h => h.mono fun h => by rw [e]; rw [if_neg (by decide), if_pos rfl]; rw [h]; rfl)
      clear H4
      rintro v w ⟨rfl, y, hy, V2, r2, o2, hs2, ns, ps, vh, hV2, hR2, hP, H⟩
      simp only [RdO, VlO, List.cons_append, List.nil_append] at H
      (first | (refine H.wg ?_; clear H; intros; rename_i w H; constructor) | refine wk ?_)
      replace H := H.perm (List.perm_middle (l₁ := [_, _, _, _]))
      obtain ⟨V3, hV3, H, hps⟩ := H.freezeF (fun _ => rfl) (by decide)
      replace H := H.perm (List.perm_middle (l₁ := [_, _, _]))
      obtain ⟨V4, hV4, H, hns⟩ := H.freezeF (fun _ => rfl) (by decide)
      refine ⟨.mk 3 0 [] y.1 y.2.1, y.2.2, ⟨3, 0, ⟨none, 0, 0⟩, ns, ps⟩, ?_, rfl, V4, r2, o2, hs2, (hV1.trans hV2).trans (hV3.trans hV4), hR2.up (hV3.trans hV4), ?_, H.sx⟩
      · rw [e]; rw [if_neg (by decide), if_pos rfl]; rw [hy]; rfl
      · exact .mk vh rfl rfl (SlF.nil _ _) hns (hps.up hV4) hP.len fun i x p h1 h2 => (hP.all i x p h1 h2).up (hV3.trans hV4)
    have g91 : c.toNat ≠ 91 := fun e => h91 (UInt8.toNat_inj.1 e)
    by_cases h123 : c = 123
    · subst h123
      (first | (refine H.wh ?_; clear H; intros; rename_i w H; constructor) | refine wk ?_)
      ((first | refine Rel.nwD H ?_ | refine Rel.nw H ?_); clear H; intro w b4 H)
      (first | (refine H.wg ?_; clear H; intros; rename_i w H; constructor) | refine wk ?_)
      replace H := H.rot2
      have H3 := ((H.rowNil 9 1).perm (List.perm_middle (l₁ := [_, _, _])).symm)
      have H4 := ((H3.rowNil 27 5).perm (List.perm_middle (l₁ := [_, _, _, _])).symm)
      clear H H3
      refine Cal.mono (list_tree (n := n) (f := rdV n) (rb := rb) (vb := b4) (k := 4) (own := .blk b2 [iv 0, iv 0, .slice none 0 0, .slice none 0 0, .slice none 0 0] 27 :: own) (N := N) (U := V1) (V := V1) (s := s) (rdV_ok n) (elem2_tree ih (hE.up hV1) hN hbox) (Sub.refl _) ⟨V1, r, o, hs, ⟨none, 0, 0⟩, ⟨none, 0, 0⟩, [], Sub.refl _, hR1, Pw.nil, H4⟩ (by omega) (by omega) hN rfl rfl) ?_ (fun ch w' h => h.mono fun h => by rw [e]; rw [if_neg (by decide), if_neg (by decide), if_pos rfl]; rw [h]; rfl)
      clear H4
      rintro v w ⟨rfl, y, hy, V2, r2, o2, hs2, ns, ps, vh, hV2, hR2, hP, H⟩
      simp only [RdO, VlO, List.cons_append, List.nil_append] at H
      (first | (refine H.wg ?_; clear H; intros; rename_i w H; constructor) | refine wk ?_)
      replace H := H.perm (List.perm_middle (l₁ := [_, _, _, _]))
      obtain ⟨V3, hV3, H, hps⟩ := H.freezeF (fun _ => rfl) (by decide)
      replace H := H.perm (List.perm_middle (l₁ := [_, _, _]))
      obtain ⟨V4, hV4, H, hns⟩ := H.freezeF (fun _ => rfl) (by decide)
      refine ⟨.mk 4 0 [] y.1 y.2.1, y.2.2, ⟨4, 0, ⟨none, 0, 0⟩, ns, ps⟩, ?_, rfl, V4, r2, o2, hs2, (hV1.trans hV2).trans (hV3.trans hV4), hR2.up (hV3.trans hV4), ?_, H.sx⟩
      · rw [e]; rw [if_neg (by decide), if_neg (by decide), if_pos rfl]; rw [hy]; rfl
      · exact .mk vh rfl rfl (SlF.nil _ _) hns (hps.up hV4) hP.len fun i x p h1 h2 => (hP.all i x p h1 h2).up (hV3.trans hV4)
    have g123 : c.toNat ≠ 123 := fun e => h123 (UInt8.toNat_inj.1 e)
    (first | (refine H.wg ?_; clear H; intros; rename_i w H; constructor) | refine wk ?_)
    refine Cal.mono (number_tree (hE.up hV1) H hR1 hN hc) ?_ (fun ch w' h => h.mono fun h => by rw [e, if_neg h34, if_neg h91, if_neg h123, h]; rfl)
    clear H
    rintro v w ⟨z, s', hnu, rfl, V2, r2, o2, hs2, hV2, hR2, _, H⟩
    simp only [RdO, List.cons_append, List.nil_append] at H
    (first | (refine H.wg ?_; clear H; intros; rename_i w H; constructor) | refine wk ?_)
    exact ⟨.mk 1 z [] [] [], s', numH z, by rw [e, if_neg h34, if_neg h91, if_neg h123, hnu]; rfl, rfl, V2, r2, o2, hs2, hV1.trans hV2, hR2, valAt_num _ z, H.sx⟩
end Go.Proofs.YtffaffojkfalhaaGreatDoor
