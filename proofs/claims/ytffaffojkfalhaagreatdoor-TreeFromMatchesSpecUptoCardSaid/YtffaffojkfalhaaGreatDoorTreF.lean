/-
  Files of trees: the writer: its map of blanks, tokens.
-/
import Derived.Test.YtffaffojkfalhaaGreatDoorTreB
import Derived.Test.YtffaffojkfalhaaGreatDoorTreN
import Derived.Deep.AppendSrc
import Derived.Carry
import Derived.MapKept
namespace Go.Proofs.YtffaffojkfalhaaGreatDoor
open Go Go.RowKit

theorem strCells_flat (l : List UInt8) : byteCells ⟨l.toArray⟩ = l.flatMap byC := by
  rw [byC_map]
  rfl
theorem app_rowS {P : Program} {T : List TD} (hT : TabOk P T) {t tx ty e : TypeId} {d de : TD} (hd : T[t]? = some d) (hu : d.under = .slice e) (hde : T[e]? = some de) {z : Value} (hz : de.zero = some z) (hzs : z.cells.size = 1) (hsz : de.size = 1) (hby : de.bytes = 1) (hs : P.underlying tx = some .string)
    {w : World} {s : Sl} {xs : List Value} {l : List UInt8} (hr : Row w s e 1 xs) (hb : s.len + l.length ≤ 1099511627776) (hl : 0 < l.length ∨ 0 < s.len)
    {k : Value → World → Prop} (hk : ∀ s' w', Row w' s' e 1 (xs ++ l.flatMap byC) → s'.len = s.len + l.length → Grew w s w' s' → k s'.v w') : SemOk P (Builtin.append_ #[t, tx] ty #[s.v, str l]) w k := by
  have hd' := hT t d hd
  have hde' := hT e de hde
  obtain ⟨i, hi, hi1, hi2, hi3⟩ := hde'.info
  have ht : P.underlying t = some (.slice e) := by
    obtain ⟨d0, q1, q2⟩ := hd'.under
    rw [hu] at q2
    cases d0 <;> first | (simp_all [undOf]; done) | (simp only [undOf] at q2; split at q2 <;> cases q2)
  have hsize : i.size = 1 := hi1.trans hsz
  have hbytes : i.bytes = 1 := hi2.trans hby
  have hyl : (l.flatMap byC).length = l.length := by rw [byC_map, List.length_map]
  have hsrc : Src P i.size tx (str l) l.length (l.flatMap byC) w := by
    rw [hsize, ← strCells_flat]
    exact Src.ofString w hs ⟨l.toArray⟩
  have hcap : ∀ old, grownCap w (s.len + l.length) old e ≤ maxLen := fun old => grownCap_le_maxLen w _ old e (by simp only [maxLen]; omega)
  have hge : ∀ old, s.len + l.length ≤ grownCap w (s.len + l.length) old e := fun old => grownCap_ge w _ old e
  have hrl := hr.len
  rw [Nat.mul_one] at hrl
  have hlen : (xs ++ l.flatMap byC).length = (s.len + l.length) * 1 := by rw [List.length_append, hrl, hyl, Nat.mul_one]
  have fresh : ∀ old, k (.slice (some ⟨w.heap.size, 0, none⟩) (s.len + l.length) (grownCap w (s.len + l.length) old e))
      (w.drew.alloc (.cells ((xs ++ l.flatMap byC).toArray ++ Builtin.zeroCells z.cells (grownCap w (s.len + l.length) old e - (s.len + l.length))) e)) := by
    intro old
    refine hk ⟨some ⟨w.heap.size, 0, none⟩, s.len + l.length, grownCap w (s.len + l.length) old e⟩ _ ⟨hlen, .inr ⟨w.heap.size, _, rfl, ⟨(0, 0), heap_alloc_new w.drew _, .zero _⟩, hge old, hcap old, ?_, ?_⟩⟩ rfl
      ⟨rfl, rfl, rfl, by simp, fun c hc _ => by first | exact heap_alloc_old w.drew _ c hc | exact heap_alloc_old w.drew _ hc, .inr (.inr (Nat.le_refl _))⟩
    · have := hge old
      simp only [Array.size_append, List.size_toArray, size_zeroCells, hzs]
      rw [hlen]
      omega
    · simp only [Array.toList_append]
      rw [← hlen]
      exact List.take_left
  rcases hr.at_ with ⟨h1', h2, h3⟩ | ⟨b, cur, h1', h2, h3, h4, h5, h6⟩
  · have hxs : xs = [] := List.eq_nil_of_length_eq_zero (by rw [hrl, h2])
    have hse : s.v = .slice none 0 0 := by show Value.slice s.a s.len s.cap = _; rw [h1', h2, h3]
    have hrun := run_append_grow_src (P := P) (w := w) t tx ty e i z ht hi (hi3.trans hz) none 0 0 [] (run_firstCells_none w.drew i.size 0 0 0) (str l) l.length (l.flatMap byC) hsrc (by omega) (by omega) (growslice_fits (by omega) (by rw [hbytes]; omega))
    have hf := fresh 0
    simp only [h2, Nat.zero_add, hxs] at hf hrun
    rw [hse]
    exact .of hrun hf
  · have hse : s.v = .slice (some ⟨b, 0, none⟩) s.len s.cap := by show Value.slice s.a s.len s.cap = _; rw [h1']
    rw [hse]
    by_cases hroom : s.len + l.length ≤ s.cap
    · obtain ⟨fz, h2, hok⟩ := h2
      have hfit : s.len + (l.flatMap byC).length ≤ cur.size := by rw [hyl]; omega
      have hst := run_storeCells_ok P b s.len e fz (l.flatMap byC) 0 cur w h2 hok (by simpa using hfit) hsrc.one
      simp only [Nat.add_zero] at hst
      have hrun : (Builtin.append_ #[t, tx] ty #[.slice (some ⟨b, 0, none⟩) s.len s.cap, str l]).run P w =
          .ok (.slice (some ⟨b, 0, none⟩) (s.len + l.length) s.cap) (w.setRow b (cur.toList.take s.len ++ l.flatMap byC ++ cur.toList.drop (s.len + (l.flatMap byC).length)).toArray) := by
        have q1 := hsrc.len
        have q2 := hsrc.cells
        rw [hsize] at q2
        simp [Builtin.append_, run_underlying ht, run_underlying hs, sizeOf, typeInfo, hi, hsize, q1, hroom, q2, Addr.add_lit, hst]
      refine .of hrun (hk ⟨some ⟨b, 0, none⟩, s.len + l.length, s.cap⟩ _ ⟨hlen, .inr ⟨b, _, rfl, ⟨fz, setRow_heap w b cur _ e _ h2, ?_⟩, hroom, h4, ?_, ?_⟩⟩ rfl ⟨rfl, rfl, rfl, by simp, fun c _ hc => setRow_other w b c _ ?_, .inr (.inl ⟨by rw [h1']; simp, by rw [h1']⟩)⟩)
      · intro j hj
        refine hok j ?_
        simp only [List.size_toArray, List.length_append, List.length_take, List.length_drop, Array.length_toList] at hj
        omega
      · simp only [List.size_toArray, List.length_append, List.length_take, List.length_drop, Array.length_toList]
        omega
      · rw [Nat.mul_one] at h6
        rw [h6, ← hlen]
        exact List.take_left
      · rcases hc with hc | hc
        · rw [h1'] at hc; cases hc
        · rw [h1'] at hc; exact hc
    · have holds : ∀ j v, xs[j]? = some v → w.cell? ((⟨b, 0, none⟩ : Addr).add j) = some v := fun j v hj => by
        have := hr.cells.2 j v hj
        rw [h1'] at this
        rw [addr_add]; exact this
      have hrun := run_append_grow_src (P := P) (w := w) t tx ty e i z ht hi (hi3.trans hz) (some ⟨b, 0, none⟩) s.len s.cap xs (by
        rw [hsize]
        exact run_firstCells_some w.drew 1 s.len ⟨b, 0, none⟩ s.len s.cap xs (by omega) (by simpa using holds)) (str l) l.length (l.flatMap byC) hsrc (by omega) (by omega) (growslice_fits (by omega) (by rw [hbytes]; omega))
      exact .of hrun (fresh s.cap)
section
variable {w0 V0 V w : World} {own : List Res}
/-- an owned row of bytes grows by a string -/
theorem Rel.appStr {i : Nat} {s : Sl} {xs l : List UInt8} (H : Rel w0 V0 own V w) (hi : own[i]? = some (.row s 5 1 (xs.flatMap byC))) (hl : 0 < l.length ∨ 0 < xs.length) (hb : xs.length + l.length ≤ 1099511627776) {ty : TypeId} {k : Value → World → Prop}
    (hk : ∀ s' w', Rel w0 V0 (own.set i (.row s' 5 1 ((xs ++ l).flatMap byC))) V w' → k s'.v w') : SemOk Tryz.prog (Builtin.append_ #[22, 9] ty #[s.v, str l]) w k := by
  have hsl := H.rowLen hi (fun _ => rfl) (by decide)
  refine app_rowS tabOk rfl rfl rfl rfl rfl rfl rfl Tryz.underlying9 (H.rowAt hi) (by rw [hsl]; exact hb) (by rw [hsl]; exact hl) fun s' w' hr _ hg => hk s' w' ?_
  have hra := (H.rowAt hi).at_
  rw [List.flatMap_append]
  refine H.put hi hg.os hg.tape hg.output hg.size (fun c hc hne => hg.block c hc ?_) hr fun b hb => ?_
  · cases hs : s.a with
    | none => exact .inl rfl
    | some p => refine .inr fun e => hne ?_; rw [e]; simp [Res.at_, hs, ablk]
  · simp only [Res.at_, Option.map_eq_some_iff] at hb ⊢
    obtain ⟨p, hp, rfl⟩ := hb
    rcases hg.own with h | ⟨h, h'⟩ | h
    · rw [hp] at h; cases h
    · cases hs : s.a with
      | none => exact absurd hs h
      | some q => rw [hp, hs] at h'; exact .inl ⟨q, rfl, h'.symm⟩
    · rw [hp] at h; exact .inr h
end

/-! ### a map of blanks -/
abbrev mpC (h : BkH) : Value × Value := (iv h.1, h.2.v)
structure MapB (es : Array MapEntry) (hs : List BkH) : Prop where
  eq : es.toList.map (fun e => (e.key, e.val)) = hs.map mpC
abbrev lkH (hs : List BkH) (i : Int) : Option BkH := hs.find? fun h => decide (h.1 = i)
theorem now_blk (i : Int) : ∀ (es : List MapEntry) (hs : List BkH) (j : Nat), es.map (fun e => (e.key, e.val)) = hs.map mpC → ∃ a, Instr.findNow (.int .i64) (iv i) es j = some a ∧ a.map Prod.snd = (lkH hs i).map fun h => h.2.v
  | [], hs, j, h => by
    have : hs = [] := by
      have := congrArg List.length h
      exact List.eq_nil_of_length_eq_zero (by simpa using this.symm)
    subst this
    exact ⟨none, rfl, rfl⟩
  | e :: es, [], j, h => by simp at h
  | e :: es, x :: hs, j, h => by
    simp only [List.map_cons, List.cons.injEq, Prod.mk.injEq] at h
    obtain ⟨⟨hk, hv⟩, ht⟩ := h
    by_cases hx : x.1 = i
    · refine ⟨some (j, e.val), ?_, ?_⟩
      · simp [Instr.findNow, hk, Instr.sameNow, hx]
      · simp [lkH, List.find?_cons, hx, hv]
    · obtain ⟨a, h1, h2⟩ := now_blk i es hs (j + 1) ht
      refine ⟨a, ?_, ?_⟩
      · have : (i == x.1) = false := by simpa using fun e => hx e.symm
        simp [Instr.findNow, hk, Instr.sameNow, this, h1]
      · rw [h2]
        simp [lkH, List.find?_cons, hx]
theorem find_blk {es : Array MapEntry} {hs : List BkH} (h : MapB es hs) (i : Int) (w : World) : ∃ a, (Instr.findKey 3 (iv i) es.toList).run Tryz.prog w = .ok a w ∧ a.map Prod.snd = (lkH hs i).map fun h => h.2.v := by
  obtain ⟨a, h1, h2⟩ := now_blk i es.toList hs 0 h.eq
  exact ⟨a, MapKept.run_findKey Tryz.underlying3 h1, h2⟩
theorem check_blk (em : Bool) (n : Nat) (i : Int) (w : World) : (Instr.checkKey em (n + 1) 3 (iv i)).run Tryz.prog w = .ok () w := by
  rw [Instr.checkKey]
  simp [run_underlying Tryz.underlying3]
theorem MapB.nil : MapB #[] [] := ⟨rfl⟩
theorem MapB.push {es : Array MapEntry} {hs : List BkH} (h : MapB es hs) (x : BkH) (c : Nat) : MapB (es.push { key := iv x.1, val := x.2.v, born := c }) (hs ++ [x]) := by
  refine ⟨?_⟩
  rw [Array.toList_push, List.map_append, h.eq, List.map_append]
  rfl
section
variable {w0 V0 V w : World} {own : List Res}
theorem Rel.makeB {t : TypeId} (H : Rel w0 V0 own V w) {k : Value → World → Prop} (hk : ∀ w' b, Rel w0 V0 (.obj b (.map #[] 0) :: own) V w' → k (.map (some b)) w') : SemOk Tryz.prog (Instr.makeMap t none) w k :=
  .of (run_makeMap t w) (hk _ _ (H.newObj _))
theorem Rel.putB {b clock : Nat} {es : Array MapEntry} {hs : List BkH} {x : BkH} (H : Rel w0 V0 (.obj b (.map es clock) :: own) V w) (h : MapB es hs) (hn : lkH hs x.1 = none) {k : Value → World → Prop}
    (hk : ∀ w' es' c', MapB es' (hs ++ [x]) → Rel w0 V0 (.obj b (.map es' c') :: own) V w' → k undef w') : SemOk Tryz.prog (do Instr.mapUpdate 68 (.map (some b)) (iv x.1) x.2.v; pure undef) w k := by
  have hb : w.heap[b]? = some (.map es clock) := H.laid (.obj b (.map es clock)) (by simp)
  refine .of ?_ (hk _ _ (clock + 1) (h.push x clock) H.setObj)
  obtain ⟨a, hf, ha⟩ := find_blk h x.1 w
  rw [hn] at ha
  obtain rfl : a = none := by simpa using ha
  simp [Instr.mapUpdate, run_underlying Tryz.underlying68, getObj, Go.setObj, Sem.run, hb, check_blk, hf]
theorem Rel.lookB {i b clock : Nat} {es : Array MapEntry} {hs : List BkH} {j : Int} (H : Rel w0 V0 own V w) (hi : own[i]? = some (.obj b (.map es clock))) (h : MapB es hs) {k : Value → World → Prop}
    (hk : k (.tuple #[((lkH hs j).map fun x => x.2.v).getD (.slice none 0 0), .bool (lkH hs j).isSome]) w) : SemOk Tryz.prog (Instr.lookup 68 (.map (some b)) (iv j) true) w k := by
  have hb := H.objAt hi
  refine .of ?_ hk
  obtain ⟨a, hf, ha⟩ := find_blk h j w
  have hz : (zeroValue 22).run Tryz.prog w = .ok (.slice none 0 0) w := (tabOk _ _ (by rfl : tab[22]? = some _)).run_zero rfl w
  cases hl : lkH hs j with
  | none =>
    rw [hl] at ha
    obtain rfl : a = none := by simpa using ha
    simp [Instr.lookup, run_underlying Tryz.underlying68, getObj, Sem.run, hb, check_blk, hf, hz]
  | some x =>
    rw [hl] at ha
    obtain ⟨y, rfl, hy⟩ := Option.map_eq_some_iff.1 ha
    simp [Instr.lookup, run_underlying Tryz.underlying68, getObj, Sem.run, hb, check_blk, hf, hy]
end
theorem lk_pw {V : World} {hs : List BkH} {Z : List Blk2} (hp : Pw BkR V hs Z) (i : Nat) : (lkB Z i = none ∧ lkH hs (i : Int) = none) ∨ ∃ h b, lkB Z i = some b ∧ lkH hs (i : Int) = some h ∧ Byt V h.2 b ∧ ∃ z ∈ Z, z.2 = b := by
  induction hs generalizing Z with
  | nil =>
    cases Z with
    | nil => exact .inl ⟨rfl, rfl⟩
    | cons z Z => exact absurd hp.len (by simp)
  | cons h hs ih =>
    cases Z with
    | nil => exact absurd hp.len (by simp)
    | cons z Z =>
      obtain ⟨h1, h2⟩ := hp.all 0 h z rfl rfl
      have ht : Pw BkR V hs Z := ⟨by simpa using hp.len, fun k a b q1 q2 => hp.all (k + 1) a b q1 q2⟩
      by_cases hz : z.1 = i
      · refine .inr ⟨h, z.2, ?_, ?_, h2, z, by simp, rfl⟩
        · simp [lkB, List.find?_cons, hz]
        · have : h.1 = (i : Int) := by rw [h1, hz]
          simp [lkH, List.find?_cons, this]
      · have e1 : lkB (z :: Z) i = lkB Z i := by simp [lkB, List.find?_cons, hz]
        have e2 : lkH (h :: hs) (i : Int) = lkH hs (i : Int) := by
          have : ¬ h.1 = (i : Int) := by rw [h1]; omega
          simp [lkH, List.find?_cons, this]
        rw [e1, e2]
        rcases ih ht with q | ⟨h', b, q1, q2, q3, z', q4, q5⟩
        · exact .inl q
        · exact .inr ⟨h', b, q1, q2, q3, z', by simp [q4], q5⟩
theorem lk_new {V : World} {hs : List BkH} {Z : List Blk2} (hp : Pw BkR V hs Z) (ha : Z.Pairwise fun x y => x.1 < y.1) {k : Nat} (hk : k < hs.length) : lkH (hs.take k) hs[k].1 = none := by
  have hl := hp.len
  rw [lkH, List.find?_eq_none]
  intro x hx he
  simp only [decide_eq_true_eq] at he
  obtain ⟨i, hi, rfl⟩ := List.mem_iff_getElem.1 hx
  rw [List.length_take] at hi
  rw [List.getElem_take] at he
  have h1 := (hp.all i hs[i] Z[i] (List.getElem?_eq_getElem (by omega)) (List.getElem?_eq_getElem (by omega))).1
  have h2 := (hp.all k hs[k] Z[k] (List.getElem?_eq_getElem hk) (List.getElem?_eq_getElem (by omega))).1
  have := List.pairwise_iff_getElem.1 ha i k (by omega) (by omega) (by omega)
  omega

/-! ### the writer -/
abbrev WrO (wb mb : Nat) (r : Sl) (es : Array MapEntry) (clk : Nat) (s : TWS) : List Res := [.blk wb [r.v, iv ((s.cnt : Nat) : Int), str s.last, .map (some mb)] 70, .row r 5 1 (s.out.flatMap byC), .obj mb (.map es clk)]
section
variable {w0 V0 V w : World} {own : List Res} {wb mb clk : Nat} {r : Sl} {es : Array MapEntry} {hs : List BkH} {Z : List Blk2} {s : TWS} {t : Tok}
theorem token_tree (H : Rel w0 V0 (WrO wb mb r es clk s ++ own) V w) (hm : MapB es hs) (hp : Pw BkR V hs Z) (hb : ∀ x ∈ Z, x.2.length ≤ 100000000) (hl : s.out.length + t.length ≤ 500000000000) (hc : s.cnt ≤ 1000000) (ht : t ≠ [] ∨ s.out ≠ []) : Ret Tryz.prog 36 [.pointer (some ⟨wb, 0, none⟩), str t].toArray w fun q w' => q = .tuple #[] ∧ ∃ r', Rel w0 V0 (WrO wb mb r' es clk (tkW Z s t) ++ own) V w' := by
  simp only [WrO, List.cons_append, List.nil_append] at H
  refine cal_of_sem tabOk Tryz.func36 rfl (by kernel_rfl) 81 rfl (by simp) [0, 1, 4, 5, 18, 29, 40] ?_
  refine SemC.seqGo tabOk ?_
  (first | (refine H.wg ?_; clear H; intros; rename_i w H; constructor) | refine wk ?_)
  ((first | refine draw_vc (id := 0) tabOk mixed [] [0, 1, 2, 3, 4, 5, 6, 7, 8, 9, 10, 11, 12, 13] (by kernel_rfl) ?_); intro w hdw; replace H := Rel.ext H hdw.ext)
  (first | (refine H.wg ?_; clear H; intros; rename_i w H; constructor) | refine wk ?_)
  refine Rel.lookB H (i := 2) rfl hm ?_
  (first | (refine H.wg ?_; clear H; intros; rename_i w H; constructor) | refine wk ?_)
  obtain ⟨bl, hbl⟩ : ∃ bl, bl = match lkB Z s.cnt with
      | some b => b
      | none => if t = [] then [10] else wantB (af s.last) := ⟨_, rfl⟩
  have hbl8 : bl.length ≤ 100000000 ∧ (s.out ++ bl ≠ [] ∨ t ≠ []) := by
    refine ⟨?_, ht.symm.imp_left fun h => by simp [h]⟩
    rcases lk_pw hp s.cnt with ⟨q1, _⟩ | ⟨h, b, q1, _, _, z, q4, q5⟩
    · rw [hbl, q1]
      dsimp only
      split
      · simp
      · unfold wantB; split <;> simp
    · rw [hbl, q1]
      dsimp only
      rw [← q5]
      exact hb z q4
  refine SemC.seqCut tabOk (fun _ : Unit => [(0, .pointer (some ⟨wb, 0, none⟩)), (1, str t)]) (fun _ w' => ∃ r', Rel w0 V0 (.blk wb [r'.v, iv ((s.cnt : Nat) : Int), str s.last, .map (some mb)] 70 :: .row r' 5 1 ((s.out ++ bl).flatMap byC) :: .obj mb (.map es clk) :: own) V w') ?_ ?_
  · rcases lk_pw hp s.cnt with ⟨q1, q2⟩ | ⟨h, b, q1, q2, q3, z, q4, q5⟩
    · rw [q2]
      rw [q1] at hbl
      dsimp only at hbl
      by_cases h0 : t = []
      · obtain rfl : bl = [10] := by rw [hbl, if_pos h0]
        subst h0
        (first | (refine H.wg ?_; clear H; intros; rename_i w H; constructor) | refine wk ?_)
        refine Rel.appStr H (i := 1) (l := [10]) rfl (.inl (by decide)) (by simp only [List.length_cons, List.length_nil]; omega) ?_
        clear H
        intro r' w H
        (first | (refine H.wg ?_; clear H; intros; rename_i w H; constructor) | refine wk ?_)
        exact ⟨(), (by repeat (first | exact trivial | refine ⟨rfl, ?_⟩)), r', H⟩
      · rw [if_neg h0] at hbl
        (first | (refine H.wg ?_; clear H; intros; rename_i w H; constructor) | refine wk ?_)
        refine condG_false (decide_eq_false h0) ?_
        by_cases h1 : s.last = [44]
        · obtain rfl : bl = [32] := by rw [hbl, h1]; rfl
          rw [h1] at H ⊢
          (first | (refine H.wg ?_; clear H; intros; rename_i w H; constructor) | refine wk ?_)
          refine Rel.appStr H (i := 1) (l := [32]) rfl (.inl (by decide)) (by simp only [List.length_cons, List.length_nil]; omega) ?_
          clear H
          intro r' w H
          (first | (refine H.wg ?_; clear H; intros; rename_i w H; constructor) | refine wk ?_)
          exact ⟨(), (by repeat (first | exact trivial | refine ⟨rfl, ?_⟩)), r', H⟩
        · by_cases h2 : s.last = [58]
          · obtain rfl : bl = [32] := by rw [hbl, h2]; rfl
            rw [h2] at H ⊢
            (first | (refine H.wg ?_; clear H; intros; rename_i w H; constructor) | refine wk ?_)
            refine Rel.appStr H (i := 1) (l := [32]) rfl (.inl (by decide)) (by simp only [List.length_cons, List.length_nil]; omega) ?_
            clear H
            intro r' w H
            (first | (refine H.wg ?_; clear H; intros; rename_i w H; constructor) | refine wk ?_)
            exact ⟨(), (by repeat (first | exact trivial | refine ⟨rfl, ?_⟩)), r', H⟩
          · obtain rfl : bl = [] := by
              rw [hbl, show af s.last = false by simp [af, h1, h2]]
              rfl
            (first | (refine H.wg ?_; clear H; intros; rename_i w H; constructor) | refine wk ?_)
            refine condG_false (decide_eq_false h1) ?_
            (first | (refine H.wg ?_; clear H; intros; rename_i w H; constructor) | refine wk ?_)
            refine condG_false (decide_eq_false h2) ?_
            (first | (refine H.wg ?_; clear H; intros; rename_i w H; constructor) | refine wk ?_)
            exact ⟨(), (by repeat (first | exact trivial | refine ⟨rfl, ?_⟩)), r, by rw [List.append_nil]; exact H⟩
    · rw [q2]
      rw [q1] at hbl
      dsimp only at hbl
      subst hbl
      (first | (refine H.wg ?_; clear H; intros; rename_i w H; constructor) | refine wk ?_)
      refine Rel.appD H (i := 1) rfl q3 (by omega) ?_
      clear H
      intro r' w H
      (first | (refine H.wg ?_; clear H; intros; rename_i w H; constructor) | refine wk ?_)
      exact ⟨(), (by repeat (first | exact trivial | refine ⟨rfl, ?_⟩)), r', H⟩
  clear H
  rintro _ w ⟨r', H⟩
  refine SemC.go tabOk ?_
  (first | (refine H.wg ?_; clear H; intros; rename_i w H; constructor) | refine wk ?_)
  refine Rel.appStr H (i := 1) (l := t) rfl ?_ (by rw [List.length_append]; omega) ?_
  · rcases hbl8.2 with h | h
    · exact .inr (List.length_pos_iff.2 h)
    · exact .inl (List.length_pos_iff.2 h)
  clear H
  intro r' w H
  (first | (refine H.wg ?_; clear H; intros; rename_i w H; constructor) | refine wk ?_)
  refine ⟨r', ?_⟩
  have e : (tkW Z s t).out = s.out ++ bl ++ t := by rw [hbl]; rfl
  show Rel w0 V0 (.blk wb [r'.v, iv ((s.cnt + 1 : Nat) : Int), str t, .map (some mb)] 70 :: .row r' 5 1 ((tkW Z s t).out.flatMap byC) :: .obj mb (.map es clk) :: own) V w
  rw [e]
  exact H
end
section
variable {V W : World}
theorem quoL_len (b : List UInt8) : (quoL b).length ≤ 4 * b.length := by
  induction b with
  | nil => simp [quoL]
  | cons c b ih =>
    have e : quoL (c :: b) = quoB c ++ quoL b := by simp [quoL]
    have : (quoB c).length ≤ 4 := by unfold quoB; split <;> (try split) <;> simp
    rw [e, List.length_append, List.length_cons]
    omega
theorem quoL_take {b : List UInt8} {k : Nat} (hk : k < b.length) : quoL (b.take (k + 1)) = quoL (b.take k) ++ quoB b[k] := by
  rw [List.take_succ_eq_append_getElem hk, quoL, List.flatMap_append, List.flatMap_singleton]
  rfl
theorem and15q : ∀ c : Nat, c < 256 → bitsI .and .u8 (c : Int) 15 = ((c % 16 : Nat) : Int) := by decide +kernel
theorem hexS_get {n : Nat} (h : n < 16) : hexS[n]? = some (hexD n) := by
  have key : ∀ n : Fin 16, hexS[n.val]? = some (hexD n.val) := by decide
  exact key ⟨n, h⟩
theorem quoted_tree (hV : Sub V W) {s : Sl} {b : List UInt8} (hs : Byt V s b) (hl : b.length ≤ 100000000) : Ret Tryz.prog 63 [s.v].toArray W fun q w' => q = str (quoT b) ∧ Rel W V [] V w' := by
  have H := Rel.start hV
  have hlen := hs.len
  refine cal_of_vc tabOk Tryz.func63 rfl (by kernel_rfl) 45 rfl (by simp) [0, 2, 3, 5, 7, 8, 9, 10, 17, 28] ?_
  (first | (refine H.wh ?_; clear H; intros; rename_i w H; constructor) | refine wk ?_)
  ((first | refine Rel.nwD H ?_ | refine Rel.nw H ?_); clear H; intro w b0 H)
  replace H := H.blkEq (c' := ([34] : List UInt8).flatMap byC) rfl
  replace H := H.toRow (n := 1) (e := 5) (sz := 1) rfl (by simp [maxLen])
  (first | (refine H.wg ?_; clear H; intros; rename_i w H; constructor) | refine wk ?_)
  refine loop_inv (S := Nat × Sl) tabOk [0, 2, 7, 8] (fun k => [(9, iv k.1), (3, k.2.v)]) (fun k w' => k.1 ≤ b.length ∧ Rel W V [.row k.2 5 1 ((34 :: quoL (b.take k.1)).flatMap byC)] V w') (fun k _ => b.length - k.1) (0, ⟨some ⟨b0, 0, none⟩, 1, 1⟩) ?_
  (conv => whnf)
  refine ⟨(by repeat (first | exact trivial | refine ⟨rfl, ?_⟩)), ⟨by omega, H⟩, ?_⟩
  clear H
  rintro ⟨k, r⟩ w ⟨hk, H⟩
  dsimp only at hk H ⊢
  have hql := quoL_len (b.take k)
  rw [List.length_take] at hql
  by_cases hlt : k < b.length
  rotate_left
  · rw [List.take_of_length_le (by omega)] at H
    (first | (refine H.wh ?_; clear H; intros; rename_i w H; constructor) | refine wk ?_)
    ((first | refine Rel.nwD H ?_ | refine Rel.nw H ?_); clear H; intro w b1 H)
    replace H := H.blkEq (c' := ([34] : List UInt8).flatMap byC) rfl
    replace H := H.toRow (n := 1) (e := 5) (sz := 1) rfl (by simp [maxLen])
    (first | (refine H.wg ?_; clear H; intros; rename_i w H; constructor) | refine wk ?_)
    refine Rel.appB (s := r) (x := ⟨some ⟨b1, 0, none⟩, 1, 1⟩) (xs := 34 :: quoL b) (ys := [34]) H (i := 0) rfl (by simp only [List.length_cons, List.length_nil]; have := quoL_len b; omega) ?_
    clear H
    intro r1 w H
    simp only [List.set_cons_zero] at H
    obtain ⟨V2, hV2, H, hr⟩ := H.freezeF (fun _ => rfl) (by decide)
    (first | (refine H.wg ?_; clear H; intros; rename_i w H; constructor) | refine wk ?_)
    refine ⟨quoT b, hr.len, byC_map _ ▸ (hr.up H.data).cells, ?_⟩
    (first | (refine H.wg ?_; clear H; intros; rename_i w H; constructor) | refine wk ?_)
    exact Rel.back H.sx
  obtain ⟨p0, c0⟩ := hs.at1 (g := bv) (fun _ => rfl) hlt
  obtain ⟨c, hc⟩ : ∃ c, c = b[k] := ⟨_, rfl⟩
  rw [← hc] at c0
  have hc8 := c.toNat_lt
  by_cases h1 : c = 34
  · subst h1
    (first | (refine H.wh ?_; clear H; intros; rename_i w H; constructor) | refine wk ?_)
    ((first | refine Rel.nwD H ?_ | refine Rel.nw H ?_); clear H; intro w b1 H)
    replace H := H.blkEq (c' := ([92, 34] : List UInt8).flatMap byC) rfl
    replace H := H.toRow (n := 2) (e := 5) (sz := 1) rfl (by simp [maxLen])
    refine Rel.appB (s := r) (x := ⟨some ⟨b1, 0, none⟩, 2, 2⟩) (xs := 34 :: quoL (b.take k)) (ys := [92, 34]) H (i := 0) rfl (by simp only [List.length_cons, List.length_nil]; omega) ?_
    clear H
    intro r1 w H
    simp only [List.set_cons_zero] at H
    (first | (refine H.wg ?_; clear H; intros; rename_i w H; constructor) | refine wk ?_)
    refine ⟨(by repeat (first | exact trivial | refine ⟨rfl, ?_⟩)), (k + 1, r1), (by repeat (first | exact trivial | refine ⟨rfl, ?_⟩)), ⟨by dsimp only; omega, ?_⟩, by dsimp only; omega⟩
    dsimp only
    rw [quoL_take hlt, (show quoB b[k] = [92, 34] by rw [← hc]; rfl)]
    exact H
  by_cases h2 : c = 92
  · subst h2
    (first | (refine H.wh ?_; clear H; intros; rename_i w H; constructor) | refine wk ?_)
    ((first | refine Rel.nwD H ?_ | refine Rel.nw H ?_); clear H; intro w b1 H)
    replace H := H.blkEq (c' := ([92, 92] : List UInt8).flatMap byC) rfl
    replace H := H.toRow (n := 2) (e := 5) (sz := 1) rfl (by simp [maxLen])
    refine Rel.appB (s := r) (x := ⟨some ⟨b1, 0, none⟩, 2, 2⟩) (xs := 34 :: quoL (b.take k)) (ys := [92, 92]) H (i := 0) rfl (by simp only [List.length_cons, List.length_nil]; omega) ?_
    clear H
    intro r1 w H
    simp only [List.set_cons_zero] at H
    (first | (refine H.wg ?_; clear H; intros; rename_i w H; constructor) | refine wk ?_)
    refine ⟨(by repeat (first | exact trivial | refine ⟨rfl, ?_⟩)), (k + 1, r1), (by repeat (first | exact trivial | refine ⟨rfl, ?_⟩)), ⟨by dsimp only; omega, ?_⟩, by dsimp only; omega⟩
    dsimp only
    rw [quoL_take hlt, (show quoB b[k] = [92, 92] by rw [← hc]; rfl)]
    exact H
  have h1' : c.toNat ≠ 34 := fun e => h1 (UInt8.toNat_inj.1 e)
  have h2' : c.toNat ≠ 92 := fun e => h2 (UInt8.toNat_inj.1 e)
  (first | (refine H.wg ?_; clear H; intros; rename_i w H; constructor) | refine wk ?_)
  refine (spc_tree H.data c).use ?_
  rintro v w ⟨rfl, K⟩
  (have hKb := K.base; replace H := Rel.call H K)
  simp only [List.nil_append] at H
  cases hsp : spcB c with
  | false =>
    (first | (refine H.wh ?_; clear H; intros; rename_i w H; constructor) | refine wk ?_)
    ((first | refine Rel.nwD H ?_ | refine Rel.nw H ?_); clear H; intro w b1 H)
    replace H := H.blkEq (c' := ([c] : List UInt8).flatMap byC) rfl
    replace H := H.toRow (n := 1) (e := 5) (sz := 1) rfl (by simp [maxLen])
    refine Rel.appB (s := r) (x := ⟨some ⟨b1, 0, none⟩, 1, 1⟩) (xs := 34 :: quoL (b.take k)) (ys := [c]) H (i := 0) rfl (by simp only [List.length_cons, List.length_nil]; omega) ?_
    clear H
    intro r1 w H
    simp only [List.set_cons_zero] at H
    (first | (refine H.wg ?_; clear H; intros; rename_i w H; constructor) | refine wk ?_)
    refine ⟨(by repeat (first | exact trivial | refine ⟨rfl, ?_⟩)), (k + 1, r1), (by repeat (first | exact trivial | refine ⟨rfl, ?_⟩)), ⟨by dsimp only; omega, ?_⟩, by dsimp only; omega⟩
    dsimp only
    rw [quoL_take hlt, (show quoB b[k] = [c] by rw [← hc]; exact quoB_plain (fun h => h.elim h1 h2) hsp)]
    exact H
  | true =>
    have e16 : (2 : Int) ^ min (Int.toNat 4) IntKind.u8.bits = 16 := by decide
    have g0 : hexS[((c.toNat : Int) / 2 ^ min (Int.toNat 4) IntKind.u8.bits).toNat]? = some (hexD (c.toNat / 16)) := by
      rw [show ((c.toNat : Int) / 2 ^ min (Int.toNat 4) IntKind.u8.bits).toNat = c.toNat / 16 from rfl]
      exact hexS_get (by omega)
    have g1 : hexS[(((c.toNat % 16 : Nat) : Int)).toNat]? = some (hexD (c.toNat % 16)) := by
      rw [Int.toNat_natCast]
      exact hexS_get (by omega)
    have ga := and15q c.toNat hc8
    (first | (refine H.wg ?_; clear H; intros; rename_i w H; constructor) | refine wk ?_)
    ((first | refine draw_vc (id := 9) tabOk mixed [] [0, 1, 2, 3, 4, 5, 6, 7, 8, 9] (by kernel_rfl) ?_); intro w hdw; replace H := Rel.ext H hdw.ext)
    (first | (refine H.wg ?_; clear H; intros; rename_i w H; constructor) | refine wk ?_)
    refine ⟨by rw [e16]; omega, _, g0, ?_⟩
    (first | (refine H.wg ?_; clear H; intros; rename_i w H; constructor) | refine wk ?_)
    rw [ga]
    (first | (refine H.wh ?_; clear H; intros; rename_i w H; constructor) | refine wk ?_)
    ((first | refine Rel.nwD H ?_ | refine Rel.nw H ?_); clear H; intro w b1 H)
    replace H := H.blkEq (c' := ([92, 120, hexD (c.toNat / 16), hexD (c.toNat % 16)] : List UInt8).flatMap byC) rfl
    replace H := H.toRow (n := 4) (e := 5) (sz := 1) rfl (by simp [maxLen])
    refine Rel.appB (s := r) (x := ⟨some ⟨b1, 0, none⟩, 4, 4⟩) (xs := 34 :: quoL (b.take k)) (ys := [92, 120, hexD (c.toNat / 16), hexD (c.toNat % 16)]) H (i := 0) rfl (by simp only [List.length_cons, List.length_nil]; omega) ?_
    clear H
    intro r1 w H
    simp only [List.set_cons_zero] at H
    (first | (refine H.wg ?_; clear H; intros; rename_i w H; constructor) | refine wk ?_)
    refine ⟨(by repeat (first | exact trivial | refine ⟨rfl, ?_⟩)), (k + 1, r1), (by repeat (first | exact trivial | refine ⟨rfl, ?_⟩)), ⟨by dsimp only; omega, ?_⟩, by dsimp only; omega⟩
    dsimp only
    rw [quoL_take hlt, (show quoB b[k] = [92, 120, hexD (c.toNat / 16), hexD (c.toNat % 16)] by rw [← hc]; exact quoB_spc hsp)]
    exact H
end
end Go.Proofs.YtffaffojkfalhaaGreatDoor
