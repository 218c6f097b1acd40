/-
  Scopes; ranges over strings.
-/
import Derived.Test.YtffaffojkfalhaaGreatDoorVcR
import Derived.Scope
import Derived.Laws.RangeString
import Derived.Test.YtffaffojkfalhaaGreatDoorTab
import Derived.Test.YtffaffojkfalhaaGreatDoorChecked
import Derived.Laws.Runes
import Derived.Lib.Strings
import Derived.Lib.Slices
import Derived.Lib.Walk
import Derived.Lib.Bytealg
namespace Go.Proofs.YtffaffojkfalhaaGreatDoor
open Go Go.RowKit

theorem i64_byte (b : UInt8) : I64 ((b.toNat : Nat) : Int) := by
  have := b.toNat_lt
  constructor <;> omega
theorem stepR_scope {P : Program} {b : Frame} {a : Act} {k : List Item} {cs : List Frame} {w : World} {c : Code} : step P (lone (b.atR a (.code (.scope c) :: k)) cs w) = .next (lone (b.atR a (.code c :: .inScope c :: k)) cs w) :=
  step_lone_go (by simp [stepG, stepG.exec, Frame.atR])
theorem stepR_inScope {P : Program} {b : Frame} {a : Act} {k : List Item} {cs : List Frame} {w : World} {c : Code} : step P (lone (b.atR a (.inScope c :: k)) cs w) = .next (lone (b.atR a k) cs w) :=
  step_lone_go (by simp [stepG, stepG.exec, Frame.atR])
theorem wpIn_scope {F : Fence} {n : Nat} {P : Program} {Q : Exit → Act → World → Prop} {a : Act} {w : World} {c : Code} (h : c.wpIn F n P (Exit.noGoto Q) a w) : (Code.scope c).wpIn F n P Q a w := by
  intro b k cs hro hb hr
  have h0 : (lone (b.atR a (.code (.scope c) :: k)) cs w).fenced P F := fenced_calm hb hr rfl
  obtain ⟨e, a₁, w₁, hq, harr⟩ := h b (.inScope c :: k) cs hro hb hr
  cases e with
  | normal => exact ⟨.normal, a₁, w₁, hq, .head h0 stepR_scope (StepsIn.trans harr (.one (fenced_calm hb hr rfl) stepR_inScope))⟩
  | exit id =>
    have hx : exitTo id (.inScope c :: k) = exitTo id k := by simp [exitTo]
    exact ⟨.exit id, a₁, w₁, hq, fun k' hk => .head h0 stepR_scope (harr.1 k' (by rw [hx]; exact hk)),
      fun hr' hk => let ⟨k₁, h1, h2⟩ := harr.2 hr' (by rw [hx]; exact hk); ⟨k₁, h1, .head h0 stepR_scope h2⟩⟩
  | goto l => exact hq.elim
  | ret => exact ⟨_, a₁, w₁, hq, .of_steps (.one h0 stepR_scope) harr⟩
  | panic ch => exact ⟨_, a₁, w₁, hq, .of_steps (.one h0 stepR_scope) harr⟩
  | outgrown => exact ⟨_, a₁, w₁, hq, .of_steps (.one h0 stepR_scope) harr⟩
/-- a scope out of which nothing jumps -/
theorem scope_vc {C : Cx} (hT : TabOk C.P C.T) {c : Code} {env : Env} {ds : List Deferred} {w : World} {Q : Post} (h : vcCode C c env ds w fun e env' ds' w' => (match e with
    | .goto _ => False
    | e => Q e env' ds' w')) : SemC C (.scope c) env ds w Q := by
  refine ⟨fun a hs hn hd => wpIn_scope (wpIn_mono ((vcCode_sound hT h).out a hs hn hd) fun e a' w' ⟨h1, env', h2, h3⟩ => ?_)⟩
  cases e with
  | goto l => exact h3.elim
  | _ => exact ⟨h1, env', h2, h3⟩
section
variable {w0 V0 V w : World} {own : List Res}
theorem Rel.newObj (H : Rel w0 V0 own V w) (o : Obj) : Rel w0 V0 (.obj w.heap.size o :: own) V (w.alloc o) :=
  H.more ((Below.refl _ _).alloc (Nat.le_refl _) _) (heap_alloc_new w o) fun b hb => by cases hb; exact Nat.le_refl _
theorem Rel.range {P : Program} {T : List TD} (hT : TabOk P T) {t : TypeId} {d : TD} (hd : T[t]? = some d) (hu : d.under = .string) (H : Rel w0 V0 own V w) {s : ByteArray} {k : Value → World → Prop}
    (hk : ∀ w' b, Rel w0 V0 (.obj b (.stringIter s 0) :: own) V w' → k (.pointer (some ⟨b, 0, none⟩)) w') : SemOk P (Instr.range t (.string s)) w k := by
  have ht : P.underlying t = some .string := by
    obtain ⟨d0, q1, q2⟩ := (hT t d hd).under
    rw [hu] at q2
    cases d0 <;> first | (simp_all [undOf]; done) | (simp only [undOf] at q2; split at q2 <;> cases q2)
  exact .of (run_range_string w t s ht) (hk _ _ (H.newObj _))
theorem Rel.setObj {b : Nat} {o o' : Obj} (H : Rel w0 V0 (.obj b o :: own) V w) : Rel w0 V0 (.obj b o' :: own) V { w with heap := w.heap.setIfInBounds b o' } := by
  have hb : w.heap[b]? = some o := H.laid (.obj b o) (by simp)
  have hlt := (Array.getElem?_eq_some_iff.1 hb).1
  exact H.put (i := 0) rfl rfl rfl rfl (by simp) (fun c hc hn => by
    have : b ≠ c := fun e => hn (by rw [e]; rfl)
    simp [Array.getElem?_setIfInBounds_ne this]) (by simp [Res.laid, hlt]) fun c hc => .inl hc
theorem Rel.next {P : Program} {ty b pos : Nat} {s : ByteArray} (H : Rel w0 V0 (.obj b (.stringIter s pos) :: own) V w) {k : Value → World → Prop}
    (h1 : pos < s.size → ∀ w', Rel w0 V0 (.obj b (.stringIter s (pos + (Utf8.decode s pos).2)) :: own) V w' → k (.tuple #[.bool true, .int .i64 pos, .int .i32 (Utf8.decode s pos).1]) w')
    (h2 : ¬ pos < s.size → k (.tuple #[.bool false]) w) : SemOk P (Instr.next (.pointer (some ⟨b, 0, none⟩)) true ty) w k := by
  have hb : w.heap[b]? = some (.stringIter s pos) := H.laid (.obj b (.stringIter s pos)) (by simp)
  by_cases h : pos < s.size
  · refine .of ?_ (h1 h _ H.setObj)
    simp [Instr.next, getObj, Go.setObj, Sem.run, hb, h, goInt]
  · refine .of ?_ (h2 h)
    simp [Instr.next, getObj, Sem.run, hb, h]
end
theorem decode_high (s : ByteArray) (pos : Nat) (h : pos < s.size) (ha : 128 ≤ (s[pos]'h).toNat) : 128 ≤ (Utf8.decode s pos).1 := by
  have e : s.get! (pos + 0) = s[pos]'h := by
    show s.get! pos = _
    simp [ByteArray.get!, getElem!_pos, h]
    rfl
  have ha' : ¬ (s[pos]'h).toNat < 128 := by omega
  simp only [Utf8.decode, e, ha', if_false]
  split
  · split
    · rename_i h1; simpa using h1
    · decide
  · split
    · split
      · rename_i h1; simp at h1; dsimp only; omega
      · decide
    · split
      · split
        · rename_i h1; simp at h1; dsimp only; omega
        · decide
      · decide
end Go.Proofs.YtffaffojkfalhaaGreatDoor
namespace Go.Proofs.YtffaffojkfalhaaGreatDoor
open Go Go.RowKit

theorem Ret.ofCalls {P : Program} {f : FuncId} {fn : Func} {args : Array Value} {w : World} {K : Value → World → Prop} (hf : P.funcs[f]? = some fn) (hb : fn.body.isSome = true) (hn : (fn.name == "runtime.NumGoroutine") = false)
    (h : Calls P f args w fun e w' => ∃ v, e = .returned v ∧ K v w') : Ret P f args w K :=
  ⟨.inl ⟨enters_mk hf hb hn, Calls.mono' h fun e w' ⟨v, he, hk⟩ => by subst he; exact hk⟩⟩
theorem Ret.ofExt {P : Program} {f : FuncId} {fn : Func} {e : Array Value → Sem Value} {args : Array Value} {w w' : World} {v : Value} {K : Value → World → Prop} (hf : P.funcs[f]? = some fn) (hname : (fn.name == "runtime.NumGoroutine") = false)
    (hb : fn.body.isNone = true) (hn : Extern.findNext fn = none) (he : Extern.find fn = some e) (hr : (e args).run P w = .ok v w') (hk : K v w') : Ret P f args w K :=
  ⟨.inr ⟨v, w', by rw [run_callFunc_extern hf hname hb hn he, hr]; rfl, hk⟩⟩
set_option maxHeartbeats 1000000 in
set_option maxRecDepth 100000 in
theorem sh_stringslite_IndexByte (s : ByteArray) (c : Int) (w : World) :
    Calls Tryz.prog 114 #[.string s, .int .u8 c] w fun e w' => e = .returned (.int .i64 (Lib.indexByte s.data.toList c.toNat.toUInt8)) ∧ w' = w := by
  go_enter Tryz.func114, Tryz.ntmps114
  go_wp2
  rw [run_callFunc_extern Tryz.func130 (by kernel_rfl) (by kernel_rfl) (by kernel_rfl) (e := Extern.BytealgIndexByte.indexByte) (by kernel_rfl), Lib.run_indexByteString]
  simp only [Result.andThen]
  rw [Oper.upon_value]
  go_wp2
  go_ret
  exact ⟨rfl, rfl⟩
theorem indexByte_spec (s : List UInt8) (c : Int) (w : World) : Ret Tryz.prog 98 [str s, .int .u8 c].toArray w fun v w' => v = iv (Lib.indexByte s c.toNat.toUInt8) ∧ w = w' := by
  refine cal_of_vc tabOk Tryz.func98 rfl (by kernel_rfl) 8 rfl (by simp) [0, 1, 4] ?_
  (conv => whnf)
  refine Ret.use (Ret.ofCalls (K := fun v w' => v = iv (Lib.indexByte s c.toNat.toUInt8) ∧ w = w') Tryz.func114 rfl (by kernel_rfl) (Calls.mono' (sh_stringslite_IndexByte _ _ _) fun e w' ⟨he, hw⟩ => ⟨_, he, rfl, hw.symm⟩)) ?_
  rintro v w' ⟨rfl, rfl⟩
  (conv => whnf)
  exact ⟨rfl, rfl⟩
theorem indexByte_none {s : List UInt8} {c : UInt8} (h : ∀ b ∈ s, b ≠ c) : Lib.indexByte s c = -1 := by
  induction s with
  | nil => rfl
  | cons b l ih =>
    have h1 := h b (by simp)
    simp only [Lib.indexByte, ih fun x hx => h x (by simp [hx])]
    simp [h1]
theorem validRune_spec (r : Int) (w : World) : Ret Tryz.prog 132 [.int .i32 r].toArray w fun v w' => v = .bool (Utf8.valid r) ∧ w = w' := by
  rw [validRune_eq]
  refine cal_of_vc tabOk Tryz.func132 rfl (by kernel_rfl) 17 rfl (by simp) [0, 2, 3, 10] ?_
  by_cases h1 : 0 ≤ r ∧ r < 55296
  · have e : validRune r = true := by simp [validRune]; omega
    rw [e]
    ((repeat ((conv => whnf); first | refine And.intro (by first | omega | exact rfl) ?_ | refine condG_dec (fun _ => ?_) (fun h => False.elim (by omega)) | refine condG_dec (fun h => False.elim (by omega)) (fun _ => ?_))); (conv => whnf))
    try exact rfl
  · by_cases h2 : 57343 < r ∧ r ≤ 1114111
    · have e : validRune r = true := by simp [validRune]; omega
      rw [e]
      by_cases h3 : 0 ≤ r
      · ((repeat ((conv => whnf); first | refine And.intro (by first | omega | exact rfl) ?_ | refine condG_dec (fun _ => ?_) (fun h => False.elim (by omega)) | refine condG_dec (fun h => False.elim (by omega)) (fun _ => ?_))); (conv => whnf))
        try exact rfl
      · omega
    · have e : validRune r = false := by simp [validRune]; omega
      rw [e]
      by_cases h3 : 0 ≤ r
      · by_cases h4 : 57343 < r
        · ((repeat ((conv => whnf); first | refine And.intro (by first | omega | exact rfl) ?_ | refine condG_dec (fun _ => ?_) (fun h => False.elim (by omega)) | refine condG_dec (fun h => False.elim (by omega)) (fun _ => ?_))); (conv => whnf))
          try exact ⟨by simp; omega, rfl⟩
        · ((repeat ((conv => whnf); first | refine And.intro (by first | omega | exact rfl) ?_ | refine condG_dec (fun _ => ?_) (fun h => False.elim (by omega)) | refine condG_dec (fun h => False.elim (by omega)) (fun _ => ?_))); (conv => whnf))
          try exact rfl
      · ((repeat ((conv => whnf); first | refine And.intro (by first | omega | exact rfl) ?_ | refine condG_dec (fun _ => ?_) (fun h => False.elim (by omega)) | refine condG_dec (fun h => False.elim (by omega)) (fun _ => ?_))); (conv => whnf))
        try exact rfl
abbrev marks : List UInt8 := [45, 95, 46]
theorem indexRune_spec {V W : World} (hV : Sub V W) (r : Int) (h0 : 0 ≤ r) (h1 : r ≤ 2147483647) : Ret Tryz.prog 116 [str marks, .int .i32 r].toArray W fun v w' => (∃ i : Int, v = iv i ∧ (0 ≤ i ↔ r = 45 ∨ r = 95 ∨ r = 46)) ∧ Rel W V [] V w' := by
  have H := Rel.start hV
  by_cases h2 : r < 128
  · refine cal_of_vc tabOk Tryz.func116 rfl (by kernel_rfl) 187 rfl (by simp) [0, 1, 4, 5, 6, 7, 8, 9, 10, 11, 12, 13, 14, 15, 16, 26, 33, 43, 51, 64, 98, 108, 124, 139, 143, 156, 160, 171, 175, 176, 177, 181, 183] ?_
    (first | (refine H.wg ?_; clear H; intros; rename_i w H; constructor) | refine wk ?_)
    refine (indexByte_spec marks _ _).use ?_
    rintro v w ⟨rfl, rfl⟩
    (first | (refine H.wg ?_; clear H; intros; rename_i w H; constructor) | refine wk ?_)
    refine ⟨⟨_, rfl, ?_⟩, H⟩
    rw [show (wr IntKind.u8 r).toNat = r.toNat by show (r % 256).toNat = r.toNat; omega]
    obtain ⟨n, rfl⟩ : ∃ n : Nat, r = n := ⟨r.toNat, by omega⟩
    simp only [Int.toNat_natCast]
    have hn : n < 128 := by omega
    have key : ∀ n : Fin 128, (0 ≤ Lib.indexByte marks n.val.toUInt8 ↔ n.val = 45 ∨ n.val = 95 ∨ n.val = 46) := by decide
    have := key ⟨n, hn⟩
    dsimp only at this
    rw [this]
    omega
  by_cases h3 : r = 65533
  · subst h3
    refine cal_of_vc tabOk Tryz.func116 rfl (by kernel_rfl) 187 rfl (by simp) [0, 1, 4, 5, 6, 7, 8, 9, 10, 11, 12, 13, 14, 15, 16, 26, 33, 43, 51, 64, 98, 108, 124, 139, 143, 156, 160, 171, 175, 176, 177, 181, 183] ?_
    (first | (refine H.wg ?_; clear H; intros; rename_i w H; constructor) | refine wk ?_)
    refine Rel.range tabOk rfl rfl H ?_
    clear H
    intro w b H
    (first | (refine H.wg ?_; clear H; intros; rename_i w H; constructor) | refine wk ?_)
    refine loop_inv tabOk [0, 1, 7, 8, 9, 10, 11, 12, 13, 14, 15, 16, 26, 33, 43, 51, 64, 98, 108, 124, 139, 143, 156, 160, 171, 175, 183] (fun _ : Nat => []) (fun k w' => k ≤ 3 ∧ Rel W V [.obj b (.stringIter ⟨marks.toArray⟩ k)] V w') (fun k _ => 3 - k) 0 ?_
    (conv => whnf)
    refine ⟨trivial, ⟨by omega, H⟩, ?_⟩
    clear H
    rintro k w ⟨hk, H⟩
    (conv => whnf)
    refine Rel.next H (fun hlt w H => ?_) (fun hlt => ?_)
    · have hk3 : k < 3 := hlt
      have hd : Utf8.decode ⟨marks.toArray⟩ k = (([45, 95, 46] : List Nat)[k]'(by simpa using hk3), 1) := by
        have : k = 0 ∨ k = 1 ∨ k = 2 := by omega
        rcases this with rfl | rfl | rfl <;> rfl
      rw [hd] at H ⊢
      have hne : (([45, 95, 46] : List Nat)[k]'(by simpa using hk3)) < 128 := by
        have : k = 0 ∨ k = 1 ∨ k = 2 := by omega
        rcases this with rfl | rfl | rfl <;> simp
      generalize (([45, 95, 46] : List Nat)[k]'(by simpa using hk3)) = c at hne
      (first | (refine H.wg ?_; clear H; intros; rename_i w H; constructor) | refine wk ?_)
      exact ⟨(by repeat (first | exact trivial | refine ⟨rfl, ?_⟩)), k + 1, trivial, ⟨by omega, H⟩, by omega⟩
    · (first | (refine H.wg ?_; clear H; intros; rename_i w H; constructor) | refine wk ?_)
      exact ⟨⟨_, rfl, by omega⟩, H.sx⟩
  refine cal_of_vc tabOk Tryz.func116 rfl (by kernel_rfl) 187 rfl (by simp) [0, 1, 4, 5, 6, 7, 8, 9, 10, 11, 12, 13, 14, 15, 16, 26, 33, 43, 51, 64, 98, 108, 124, 139, 143, 156, 160, 171, 175, 176, 177, 181, 183] ?_
  (first | (refine H.wg ?_; clear H; intros; rename_i w H; constructor) | refine wk ?_)
  refine (validRune_spec r _).use ?_
  rintro v w ⟨rfl, rfl⟩
  (conv => whnf)
  cases hv : Utf8.valid r with
  | false =>
    (conv => whnf)
    exact ⟨⟨_, rfl, by omega⟩, H⟩
  | true =>
    obtain ⟨e1, e2, e3⟩ := encode_facts r hv (by omega)
    obtain ⟨es, hes⟩ : ∃ es : List UInt8, Utf8.encode r = ⟨es.toArray⟩ := ⟨(Utf8.encode r).data.toList, rfl⟩
    rw [hes] at e1 e2
    have e1' : 2 ≤ es.length := e1
    have e2' : es.length ≤ 4 := e2
    have e3' : ∃ b, es[es.length - 1]? = some b ∧ 128 ≤ b.toNat := by
      refine ⟨es[es.length - 1], by simp <;> omega, ?_⟩
      rw [hes] at e3
      exact e3 (show es.length - 1 < es.length by omega)
    obtain ⟨lb, hlb, hlb8⟩ := e3'
    (conv => whnf)
    refine scope_vc tabOk ?_
    (conv => whnf)
    refine SemOk.of (run_convert_int_string _ _ _ _ _ (by kernel_rfl) (by kernel_rfl)) ?_
    rw [hes]
    (first | (refine H.wg ?_; clear H; intros; rename_i w H; constructor) | refine wk ?_)
    have hsz : (ByteArray.mk marks.toArray).size = 3 := rfl
    have hesz : (ByteArray.mk es.toArray).size = es.length := rfl
    refine loop_inv (S := Unit) tabOk [0, 1, 5, 6, 7, 8, 13, 14, 15, 16, 108, 124, 139, 143, 156, 160, 171, 175, 176, 177, 181, 183] (fun _ => [(9, .int .i64 ((es.length : Int) - 1)), (10, .int .i64 0)]) (fun _ w' => Rel W V [] V w') (fun _ _ => 0) () ?_
    (conv => whnf)
    refine ⟨⟨rfl, rfl, trivial⟩, H, ?_⟩
    clear H
    rintro _ w H
    by_cases h5 : es.length - 1 < 3
    · (first | (refine H.wg ?_; clear H; intros; rename_i w H; constructor) | refine wk ?_)
      refine scope_vc tabOk ?_
      (conv => whnf)
      obtain ⟨mb, hmb, hmb8⟩ : ∃ mb : UInt8, marks[((es.length : Int) - 1).toNat]? = some mb ∧ mb.toNat < 128 := by
        have : ((es.length : Int) - 1).toNat = 1 ∨ ((es.length : Int) - 1).toNat = 2 := by omega
        rcases this with h | h <;> rw [h]
        · exact ⟨95, rfl, by decide⟩
        · exact ⟨46, rfl, by decide⟩
      have hlb' : es[((es.length : Int) - 1).toNat]? = some lb := by rw [show ((es.length : Int) - 1).toNat = es.length - 1 by omega]; exact hlb
      have hml : marks.length = 3 := rfl
      ((first | refine draw_vc (id := 6) tabOk mixed [] [0, 1, 2, 3, 4, 5, 6] (by kernel_rfl) ?_ | refine draw_vc (id := 7) tabOk mixed [] [0, 1, 2, 3, 4, 5, 6, 7, 8] (by kernel_rfl) ?_ | refine draw_vc (id := 14) tabOk mixed [] [0, 1, 2, 3, 4, 5, 6, 7, 8, 9, 10] (by kernel_rfl) ?_ | refine draw_vc (id := 31) tabOk mixed [] [0, 1, 2, 3, 4, 5, 6, 7, 8, 9, 10] (by kernel_rfl) ?_); intro w hdw; replace H := Rel.ext H hdw.ext)
      (first | (refine H.wg ?_; clear H; intros; rename_i w H; constructor) | refine wk ?_)
      ((first | refine draw_vc (id := 6) tabOk mixed [] [0, 1, 2, 3, 4, 5, 6] (by kernel_rfl) ?_ | refine draw_vc (id := 7) tabOk mixed [] [0, 1, 2, 3, 4, 5, 6, 7, 8] (by kernel_rfl) ?_ | refine draw_vc (id := 14) tabOk mixed [] [0, 1, 2, 3, 4, 5, 6, 7, 8, 9, 10] (by kernel_rfl) ?_ | refine draw_vc (id := 31) tabOk mixed [] [0, 1, 2, 3, 4, 5, 6, 7, 8, 9, 10] (by kernel_rfl) ?_); intro w hdw; replace H := Rel.ext H hdw.ext)
      (first | (refine H.wg ?_; clear H; intros; rename_i w H; constructor) | refine wk ?_)
      refine (indexByte_spec _ _ _).use ?_
      rintro v w ⟨rfl, rfl⟩
      rw [indexByte_none]
      rotate_left
      · intro b hb e
        have hb' := List.mem_of_mem_take (List.mem_of_mem_drop hb)
        have hlt : b.toNat < 128 := by
          simp only [marks, List.mem_cons, List.not_mem_nil, or_false] at hb'
          rcases hb' with rfl | rfl | rfl <;> decide
        have : (lb.toNat).toUInt8 = lb := by simp
        rw [Int.toNat_natCast, this] at e
        subst e
        omega
      (first | (refine H.wg ?_; clear H; intros; rename_i w H; constructor) | refine wk ?_)
      exact ⟨⟨_, rfl, by omega⟩, H⟩
    · (first | (refine H.wg ?_; clear H; intros; rename_i w H; constructor) | refine wk ?_)
      exact ⟨⟨_, rfl, by omega⟩, H⟩
end Go.Proofs.YtffaffojkfalhaaGreatDoor
namespace Go.Proofs.YtffaffojkfalhaaGreatDoor
open Go Go.RowKit

/-- a byte of a name -/
def okN (n : Nat) : Bool := decide ((97 ≤ n ∧ n ≤ 122) ∨ (48 ≤ n ∧ n ≤ 57) ∨ n = 45 ∨ n = 95 ∨ n = 46)
theorem containsRune_spec {V W : World} (hV : Sub V W) (r : Int) (h0 : 0 ≤ r) (h1 : r ≤ 2147483647) : Ret Tryz.prog 101 [str marks, .int .i32 r].toArray W fun v w' => v = .bool (decide (r = 45 ∨ r = 95 ∨ r = 46)) ∧ Rel W V [] V w' := by
  refine cal_of_vc tabOk Tryz.func101 rfl (by kernel_rfl) 9 rfl (by simp) [0, 1, 4] ?_
  (conv => whnf)
  refine (indexRune_spec hV r h0 h1).use ?_
  rintro v w ⟨⟨i, rfl, hi⟩, H⟩
  (conv => whnf)
  exact ⟨by simp only [hi], H⟩
theorem name1_spec {V W : World} (hV : Sub V W) (r : Nat) (h1 : r ≤ 2147483647) : Ret Tryz.prog 100 [.int .i32 r].toArray W fun v w' => v = .bool (!okN r) ∧ Rel W V [] V w' := by
  have H := Rel.start hV
  refine cal_of_vc tabOk Tryz.func100 rfl (by kernel_rfl) 22 rfl (by simp) [0, 2] ?_
  by_cases g1 : 97 ≤ r ∧ r ≤ 122
  · have e : okN r = true := by simp [okN]; omega
    rw [e]
    (first | (refine H.wg ?_; clear H; intros; rename_i w H; constructor) | refine wk ?_)
    exact H
  by_cases g2 : 48 ≤ r ∧ r ≤ 57
  · have e : okN r = true := by simp [okN]; omega
    rw [e]
    by_cases g3 : r < 97
    · (first | (refine H.wg ?_; clear H; intros; rename_i w H; constructor) | refine wk ?_)
      exact H
    · omega
  have e : okN r = decide ((r : Int) = 45 ∨ (r : Int) = 95 ∨ (r : Int) = 46) := by simp only [okN]; congr 1; simp only [eq_iff_iff]; omega
  rw [e]
  by_cases g3 : r < 97
  · by_cases g4 : r < 48
    · (first | (refine H.wg ?_; clear H; intros; rename_i w H; constructor) | refine wk ?_)
      refine (containsRune_spec hV r (by omega) (by omega)).use ?_
      rintro v w ⟨rfl, H⟩
      (conv => whnf)
      exact ⟨rfl, H⟩
    · (first | (refine H.wg ?_; clear H; intros; rename_i w H; constructor) | refine wk ?_)
      refine (containsRune_spec hV r (by omega) (by omega)).use ?_
      rintro v w ⟨rfl, H⟩
      (conv => whnf)
      exact ⟨rfl, H⟩
  · (first | (refine H.wg ?_; clear H; intros; rename_i w H; constructor) | refine wk ?_)
    refine (containsRune_spec hV r (by omega) (by omega)).use ?_
    rintro v w ⟨rfl, H⟩
    (conv => whnf)
    exact ⟨rfl, H⟩
theorem decode_lt (s : ByteArray) (pos : Nat) : (Utf8.decode s pos).1 ≤ 2147483647 := by
  have h : ∀ b : UInt8, b.toNat < 256 := fun b => b.toNat_lt
  have e0 := h (s.get! (pos + 0))
  have e1 := h (s.get! (pos + 1))
  have e2 := h (s.get! (pos + 2))
  have e3 := h (s.get! (pos + 3))
  unfold Utf8.decode
  dsimp only
  repeat' split
  all_goals first | (simp only [Utf8.runeError]; omega) | (dsimp only; omega)
theorem allTake {g : UInt8 → Bool} {s : List UInt8} {k : Nat} (hk : k < s.length) : (s.take (k + 1)).all g = ((s.take k).all g && g s[k]) := by
  rw [List.take_succ_eq_append_getElem hk, List.all_append]
  simp
/-- over a string, for the names' test -/
theorem indexFunc_spec {V W : World} (hV : Sub V W) (s : List UInt8) : Ret Tryz.prog 131 [str s, .func (.func 100) #[] #[], .bool true].toArray W fun v w' => (∃ i : Int, v = iv i ∧ (0 ≤ i ↔ s.all (fun b => okN b.toNat) = false)) ∧ Rel W V [] V w' := by
  have H := Rel.start hV
  have hsz : (ByteArray.mk s.toArray).size = s.length := rfl
  refine cal_of_vc tabOk Tryz.func131 rfl (by kernel_rfl) 21 rfl (by simp) [0, 1, 2, 6, 7, 8, 10, 11, 12, 19] ?_
  (first | (refine H.wg ?_; clear H; intros; rename_i w H; constructor) | refine wk ?_)
  refine Rel.range tabOk rfl rfl H ?_
  clear H
  intro w b H
  (first | (refine H.wg ?_; clear H; intros; rename_i w H; constructor) | refine wk ?_)
  refine loop_inv tabOk [0, 1, 2, 10] (fun _ : Nat => []) (fun k w' => k ≤ s.length ∧ (s.take k).all (fun b => okN b.toNat) = true ∧ Rel W V [.obj b (.stringIter ⟨s.toArray⟩ k)] V w') (fun k _ => s.length - k) 0 ?_
  (conv => whnf)
  refine ⟨trivial, ⟨by omega, by simp, H⟩, ?_⟩
  clear H
  rintro k w ⟨hk, hall, H⟩
  (conv => whnf)
  refine Rel.next H (fun hlt w H => ?_) (fun hlt => ?_)
  · have hk3 : k < s.length := hlt
    have hat : allTake (g := fun b => okN b.toNat) hk3 = allTake (g := fun b => okN b.toNat) hk3 := rfl
    have hcl := decode_lt ⟨s.toArray⟩ k
    have hsk : (ByteArray.mk s.toArray)[k]'hlt = s[k] := rfl
    (first | (refine H.wg ?_; clear H; intros; rename_i w H; constructor) | refine wk ?_)
    refine (name1_spec H.data _ hcl).use ?_
    rintro v w ⟨rfl, K⟩
    replace H := H.call K
    by_cases ha : (s[k]).toNat < 128
    · rw [decode_ascii _ k hlt ha] at H ⊢
      dsimp only at H ⊢
      rw [hsk]
      cases hok : okN (s[k]).toNat with
      | true =>
        (conv => whnf)
        refine ⟨rfl, (by repeat (first | exact trivial | refine ⟨rfl, ?_⟩)), k + 1, trivial, ⟨by omega, ?_, H⟩, by omega⟩
        rw [allTake hk3, hall, hok]
        rfl
      | false =>
        (first | (refine H.wg ?_; clear H; intros; rename_i w H; constructor) | refine wk ?_)
        refine ⟨⟨_, rfl, ?_⟩, H.sx⟩
        refine ⟨fun _ => ?_, fun _ => by omega⟩
        rw [← Bool.not_eq_true, List.all_eq_true]
        intro h
        have := h s[k] (List.getElem_mem hk3)
        rw [hok] at this
        cases this
    · have hh := decode_high _ k hlt (by rw [hsk]; omega)
      have hok : okN (Utf8.decode ⟨s.toArray⟩ k).1 = false := by simp [okN]; omega
      rw [hok]
      (first | (refine H.wg ?_; clear H; intros; rename_i w H; constructor) | refine wk ?_)
      refine ⟨⟨_, rfl, ?_⟩, H.sx⟩
      refine ⟨fun _ => ?_, fun _ => by omega⟩
      rw [← Bool.not_eq_true, List.all_eq_true]
      intro h
      have := h s[k] (List.getElem_mem hk3)
      simp [okN] at this
      omega
  · (first | (refine H.wg ?_; clear H; intros; rename_i w H; constructor) | refine wk ?_)
    have hkl : k = s.length := by have : ¬ k < s.length := hlt; omega
    rw [hkl, List.take_length] at hall
    refine ⟨⟨_, rfl, ?_⟩, H.sx⟩
    rw [hall]
    simp
theorem containsFunc_spec {V W : World} (hV : Sub V W) (s : List UInt8) : Ret Tryz.prog 99 [str s, .func (.func 100) #[] #[]].toArray W fun v w' => v = .bool (!s.all (fun b => okN b.toNat)) ∧ Rel W V [] V w' := by
  refine cal_of_vc tabOk Tryz.func99 rfl (by kernel_rfl) 9 rfl (by simp) [0, 1, 4] ?_
  (conv => whnf)
  have key : Ret Tryz.prog 115 [str s, .func (.func 100) #[] #[]].toArray W fun v w' => (∃ i : Int, v = iv i ∧ (0 ≤ i ↔ s.all (fun b => okN b.toNat) = false)) ∧ Rel W V [] V w' := by
    refine cal_of_vc tabOk Tryz.func115 rfl (by kernel_rfl) 8 rfl (by simp) [0, 1, 4] ?_
    (conv => whnf)
    refine (indexFunc_spec hV s).use ?_
    rintro v w ⟨⟨i, rfl, hi⟩, H⟩
    (conv => whnf)
    exact ⟨⟨_, rfl, hi⟩, H⟩
  refine key.use ?_
  rintro v w ⟨⟨i, rfl, hi⟩, H⟩
  (conv => whnf)
  refine ⟨?_, H⟩
  cases h : s.all (fun b => okN b.toNat) with
  | true => simp [h] at hi; simp; omega
  | false => simp [h] at hi; simp [hi]
/-- a name -/
def nameOk (s : List UInt8) : Bool := decide (1 ≤ s.length ∧ s.length ≤ 32) && (decide (97 ≤ (s[0]?.getD 0).toNat ∧ (s[0]?.getD 0).toNat ≤ 122) && s.all fun b => okN b.toNat)
theorem name_spec {V W : World} (hV : Sub V W) (s : List UInt8) : Ret Tryz.prog 91 [str s].toArray W fun v w' => v = .bool (nameOk s) ∧ Rel W V [] V w' := by
  have H := Rel.start hV
  have hsz : (ByteArray.mk s.toArray).size = s.length := rfl
  refine cal_of_vc tabOk Tryz.func91 rfl (by kernel_rfl) 23 rfl (by simp) [0, 2, 19] ?_
  rcases s with _ | ⟨c, s⟩
  · (first | (refine H.wg ?_; clear H; intros; rename_i w H; constructor) | refine wk ?_)
    exact H
  have hc0 : (c :: s)[(0 : Int).toNat]? = some c := rfl
  by_cases g1 : 32 < (c :: s).length
  · (first | (refine H.wg ?_; clear H; intros; rename_i w H; constructor) | refine wk ?_)
    refine ⟨?_, H⟩
    have : ¬ (c :: s).length ≤ 32 := by omega
    simp only [nameOk, this, and_false, decide_false, Bool.false_and]
  have e1 : nameOk (c :: s) = (decide (97 ≤ c.toNat ∧ c.toNat ≤ 122) && (c :: s).all fun b => okN b.toNat) := by
    have : 1 ≤ (c :: s).length ∧ (c :: s).length ≤ 32 := ⟨by simp, by omega⟩
    simp only [nameOk, this, and_self, decide_true, Bool.true_and]
    rfl
  rw [e1]
  by_cases g2 : c.toNat < 97
  · (first | (refine H.wg ?_; clear H; intros; rename_i w H; constructor) | refine wk ?_)
    refine ⟨?_, H⟩
    simp [show ¬ 97 ≤ c.toNat by omega]
  by_cases g3 : 122 < c.toNat
  · (first | (refine H.wg ?_; clear H; intros; rename_i w H; constructor) | refine wk ?_)
    refine ⟨?_, H⟩
    simp [show ¬ c.toNat ≤ 122 by omega]
  (first | (refine H.wg ?_; clear H; intros; rename_i w H; constructor) | refine wk ?_)
  refine (containsFunc_spec hV (c :: s)).use ?_
  rintro v w ⟨rfl, H⟩
  (conv => whnf)
  refine ⟨?_, H⟩
  simp [show 97 ≤ c.toNat by omega, show c.toNat ≤ 122 by omega]
theorem in_ref (n a b : Int) (w : World) : Ret Tryz.prog 18 [iv n, iv a, iv b].toArray w fun v w' => v = .bool (decide (a ≤ n ∧ n ≤ b)) ∧ w = w' := by
  refine cal_of_vc tabOk Tryz.func18 rfl (by kernel_rfl) 15 rfl (by simp) [0, 1, 2, 6] ?_
  (conv => whnf)
  refine condG_dec (fun h => ?_) (fun h => ?_)
  · (conv => whnf)
    exact ⟨by simp [h], rfl⟩
  · (conv => whnf)
    exact ⟨by simp [h], rfl⟩
theorem name_ref (w : World) (s : List UInt8) : Ret Tryz.prog 56 [str s].toArray w fun v w' => v = .bool (nameOk s) ∧ w = w' := by
  have hsz : (ByteArray.mk s.toArray).size = s.length := rfl
  refine cal_of_vc tabOk Tryz.func56 rfl (by kernel_rfl) 46 rfl (by simp) [0, 2, 3, 4, 15, 19, 45] ?_
  (conv => whnf)
  refine (in_ref _ _ _ _).use ?_
  rintro v w ⟨rfl, rfl⟩
  (conv => whnf)
  refine condG_ndec (fun h1 => ?_) (fun h1 => ?_)
  · (conv => whnf)
    refine ⟨?_, rfl⟩
    have : ¬ (1 ≤ s.length ∧ s.length ≤ 32) := by omega
    simp only [nameOk, this, decide_false, Bool.false_and]
  rcases s with _ | ⟨c, s⟩
  · have : (ByteArray.mk #[]).size = 0 := rfl
    omega
  have hc0 : (c :: s)[(0 : Int).toNat]? = some c := rfl
  have e1 : nameOk (c :: s) = (decide (97 ≤ c.toNat ∧ c.toNat ≤ 122) && (c :: s).all fun b => okN b.toNat) := by
    have : 1 ≤ (c :: s).length ∧ (c :: s).length ≤ 32 := by omega
    simp only [nameOk, this, and_self, decide_true, Bool.true_and]
    rfl
  rw [e1]
  have hcl := c.toNat_lt
  ((repeat ((conv => whnf); first | refine And.intro (by first | omega | assumption | exact rfl) ?_ | refine Exists.intro _ (And.intro (by assumption) ?_) | refine Exists.intro _ (Exists.intro _ (And.intro (by assumption) ?_)) | refine Exists.intro _ (And.intro (Blk.cel (by assumption) (by rfl)) ?_))); (conv => whnf))
  refine (in_ref _ _ _ _).use ?_
  rintro v w ⟨rfl, rfl⟩
  (conv => whnf)
  refine condG_ndec (fun h2 => ?_) (fun h2 => ?_)
  · (conv => whnf)
    refine ⟨?_, rfl⟩
    have : ¬ (97 ≤ c.toNat ∧ c.toNat ≤ 122) := by omega
    simp only [this, decide_false, Bool.false_and]
  have e2 : decide (97 ≤ c.toNat ∧ c.toNat ≤ 122) = true := by simp; omega
  rw [e2, Bool.true_and]
  generalize c :: s = s at *
  (conv => whnf)
  refine loop_inv (S := Nat) tabOk [0, 15] (fun k => [(3, .int .i64 k)]) (fun k w' => k ≤ s.length ∧ (s.take k).all (fun b => okN b.toNat) = true ∧ w = w') (fun k _ => s.length - k) 0 ?_
  (conv => whnf)
  refine ⟨(by repeat (first | exact trivial | refine ⟨rfl, ?_⟩)), ⟨by omega, by simp, rfl⟩, ?_⟩
  rintro k w' ⟨hk, hall, rfl⟩
  (conv => whnf)
  refine condG_dec (fun h4 => ?_) (fun h4 => ?_)
  rotate_left
  · (conv => whnf)
    rw [show k = s.length by omega, List.take_length] at hall
    exact ⟨by rw [hall], rfl⟩
  have hk3 : k < s.length := by omega
  have hsk : s[((k : Nat) : Int).toNat]? = some s[k] := by simp [hk3]
  have hcl' := (s[k]).toNat_lt
  have bad : okN (s[k]).toNat = false → s.all (fun b => okN b.toNat) = false := by
    intro hb
    rw [← Bool.not_eq_true, List.all_eq_true]
    intro h
    have := h s[k] (List.getElem_mem hk3)
    rw [hb] at this
    cases this
  have good : okN (s[k]).toNat = true → (s.take (k + 1)).all (fun b => okN b.toNat) = true := fun hg => by rw [allTake hk3, hall, hg]; rfl
  ((repeat ((conv => whnf); first | refine And.intro (by first | omega | assumption | exact rfl) ?_ | refine Exists.intro _ (And.intro (by assumption) ?_) | refine Exists.intro _ (Exists.intro _ (And.intro (by assumption) ?_)) | refine Exists.intro _ (And.intro (Blk.cel (by assumption) (by rfl)) ?_))); (conv => whnf))
  refine (in_ref _ _ _ _).use ?_
  rintro v w ⟨rfl, rfl⟩
  (conv => whnf)
  refine condG_ndec (fun h5 => ?_) (fun h5 => ?_)
  rotate_left
  · ((repeat ((conv => whnf); refine And.intro (by omega) ?_)); (conv => whnf))
    exact ⟨rfl, (by repeat (first | exact trivial | refine ⟨rfl, ?_⟩)), k + 1, (by repeat (first | exact trivial | refine ⟨rfl, ?_⟩)), ⟨by omega, good (by simp [okN]; omega), rfl⟩, by omega⟩
  (conv => whnf)
  refine (in_ref _ _ _ _).use ?_
  rintro v w ⟨rfl, rfl⟩
  (conv => whnf)
  refine condG_ndec (fun h6 => ?_) (fun h6 => ?_)
  rotate_left
  · ((repeat ((conv => whnf); refine And.intro (by omega) ?_)); (conv => whnf))
    exact ⟨rfl, (by repeat (first | exact trivial | refine ⟨rfl, ?_⟩)), k + 1, (by repeat (first | exact trivial | refine ⟨rfl, ?_⟩)), ⟨by omega, good (by simp [okN]; omega), rfl⟩, by omega⟩
  (conv => whnf)
  refine condG_dec (fun h7 => ?_) (fun h7 => ?_)
  rotate_left
  · ((repeat ((conv => whnf); refine And.intro (by omega) ?_)); (conv => whnf))
    exact ⟨rfl, (by repeat (first | exact trivial | refine ⟨rfl, ?_⟩)), k + 1, (by repeat (first | exact trivial | refine ⟨rfl, ?_⟩)), ⟨by omega, good (by simp [okN]; omega), rfl⟩, by omega⟩
  (conv => whnf)
  refine condG_dec (fun h8 => ?_) (fun h8 => ?_)
  rotate_left
  · ((repeat ((conv => whnf); refine And.intro (by omega) ?_)); (conv => whnf))
    exact ⟨rfl, (by repeat (first | exact trivial | refine ⟨rfl, ?_⟩)), k + 1, (by repeat (first | exact trivial | refine ⟨rfl, ?_⟩)), ⟨by omega, good (by simp [okN]; omega), rfl⟩, by omega⟩
  (conv => whnf)
  refine condG_dec (fun h9 => ?_) (fun h9 => ?_)
  rotate_left
  · ((repeat ((conv => whnf); refine And.intro (by omega) ?_)); (conv => whnf))
    exact ⟨rfl, (by repeat (first | exact trivial | refine ⟨rfl, ?_⟩)), k + 1, (by repeat (first | exact trivial | refine ⟨rfl, ?_⟩)), ⟨by omega, good (by simp [okN]; omega), rfl⟩, by omega⟩
  (conv => whnf)
  exact ⟨by rw [bad (by simp [okN]; omega)], rfl⟩
end Go.Proofs.YtffaffojkfalhaaGreatDoor
namespace Go.Proofs.YtffaffojkfalhaaGreatDoor
open Go Go.RowKit

/-! ### slices whose elements take n cells -/
structure SlF {α : Type} (f : α → List Value) (V : World) (s : Sl) (l : List α) : Prop where
  len : s.len = l.length
  cap : s.len ≤ s.cap
  cells : Cells V s.a (l.flatMap f)
section
variable {α : Type} {f : α → List Value} {n : Nat} {V V' : World} {s : Sl} {l : List α}
theorem SlF.up (h : SlF f V s l) (k : Sub V V') : SlF f V' s l := ⟨h.len, h.cap, h.cells.sub' k⟩
theorem SlF.nil (f : α → List Value) (V : World) : SlF f V ⟨none, 0, 0⟩ [] := ⟨rfl, Nat.le_refl _, ⟨fun h => absurd rfl h, fun j v hj => by simp at hj⟩⟩
theorem flat_len (hf : ∀ x, (f x).length = n) : ∀ l : List α, (l.flatMap f).length = l.length * n
  | [] => by simp
  | x :: l => by simp only [List.flatMap_cons, List.length_append, hf, flat_len hf l, List.length_cons, Nat.succ_mul]; omega
theorem flat_take (hf : ∀ x, (f x).length = n) (b : Nat) : (l.flatMap f).take (b * n) = (l.take b).flatMap f := by
  induction b generalizing l with
  | zero => simp
  | succ b ih =>
    cases l with
    | nil => simp
    | cons x l =>
      simp only [List.flatMap_cons, List.take_succ_cons]
      rw [List.take_append, hf, List.take_of_length_le (by rw [hf, Nat.succ_mul]; omega), show (b + 1) * n - n = b * n by rw [Nat.succ_mul]; omega, ih]
theorem flat_drop (hf : ∀ x, (f x).length = n) (b : Nat) : (l.flatMap f).drop (b * n) = (l.drop b).flatMap f := by
  induction b generalizing l with
  | zero => simp
  | succ b ih =>
    cases l with
    | nil => simp
    | cons x l =>
      simp only [List.flatMap_cons, List.drop_succ_cons]
      rw [List.drop_append, hf, List.drop_of_length_le (by rw [hf, Nat.succ_mul]; omega), show (b + 1) * n - n = b * n by rw [Nat.succ_mul]; omega, ih]
      rfl
theorem flat_get (hf : ∀ x, (f x).length = n) {i j : Nat} (hi : i < l.length) (hj : j < n) : (l.flatMap f)[i * n + j]? = (f l[i])[j]? := by
  rw [← List.getElem?_drop, flat_drop hf, List.drop_eq_getElem_cons hi, List.flatMap_cons, List.getElem?_append_left (by rw [hf]; exact hj)]
theorem SlF.get (h : SlF f V s l) (hf : ∀ x, (f x).length = n) (hn : 0 < n) {i : Nat} (hi : i < l.length) : Plain s.a ∧ ∀ j v, (f l[i])[j]? = some v → V.cell? ⟨ablk s.a, aoff s.a + i * n + j, none⟩ = some v := by
  refine ⟨h.cells.1 fun e => ?_, fun j v hj => ?_⟩
  · have := congrArg List.length e
    rw [flat_len hf] at this
    have : 0 < l.length * n := Nat.mul_pos (by omega) hn
    simp_all
  · have hjn : j < n := by
      have := (List.getElem?_eq_some_iff.1 hj).1
      rwa [hf] at this
    rw [Nat.add_assoc]
    exact h.cells.2 _ v (by rw [flat_get hf hi hjn]; exact hj)
theorem SlF.sub (h : SlF f V s l) (hf : ∀ x, (f x).length = n) {a b : Nat} (hab : a ≤ b) (hb : b ≤ l.length) : SlF f V ⟨subA s.a a s.cap n, b - a, s.cap - a⟩ ((l.take b).drop a) := by
  have h1 := h.len
  have h2 := h.cap
  refine ⟨by simp; omega, by dsimp only; omega, ?_⟩
  have := h.cells.sub (i := a) (b := b) (m := s.cap) n (by omega) hab
  rw [flat_take hf, flat_drop hf] at this
  exact this
end

theorem SlF.get1 {α : Type} {f : α → List Value} {V : World} {s : Sl} {l : List α} (h : SlF f V s l) {g : α → Value} (hf : ∀ x, f x = [g x]) {i : Nat} (hi : i < l.length) : Plain s.a ∧ V.cell? ⟨ablk s.a, aoff s.a + i, none⟩ = some (g l[i]) := by
  obtain ⟨h1, h2⟩ := h.get (n := 1) (fun x => by rw [hf]; rfl) (by omega) hi
  refine ⟨h1, ?_⟩
  have := h2 0 (g l[i]) (by rw [hf]; rfl)
  simpa using this
/-! ### strings, references, digests, entries -/
abbrev strC (l : List UInt8) : List Value := [str l]
abbrev Strs := SlF strC
structure RefD where
  name : List UInt8
  ver : Int
  deriving DecidableEq, Inhabited
abbrev refC (r : RefD) : List Value := [str r.name, iv r.ver]
abbrev Refs := SlF refC
/-- a digest: 32 bytes -/
abbrev Dig := Nat → UInt8
def digC (d : Dig) : List Value := [bv (d 0), bv (d 1), bv (d 2), bv (d 3), bv (d 4), bv (d 5), bv (d 6), bv (d 7), bv (d 8), bv (d 9), bv (d 10), bv (d 11), bv (d 12), bv (d 13), bv (d 14), bv (d 15),
  bv (d 16), bv (d 17), bv (d 18), bv (d 19), bv (d 20), bv (d 21), bv (d 22), bv (d 23), bv (d 24), bv (d 25), bv (d 26), bv (d 27), bv (d 28), bv (d 29), bv (d 30), bv (d 31)]
abbrev Digs := SlF digC
structure Ent where
  name : List UInt8
  ver : Int
  kind : Int
  day : Int
  size : Int
  sum : Dig
  sources : List RefD
  groups : List (List UInt8)
  emb : Int
  need : Int
  keep : Int
  csize : Int
  csum : Dig
  pieces : List Dig
instance : Inhabited Ent := ⟨⟨[], 0, 0, 0, 0, fun _ => 0, [], [], 0, 0, 0, 0, fun _ => 0, []⟩⟩
/-- the heads of an entry's slices -/
structure EntH where
  so : Sl
  gr : Sl
  pi : Sl
def entC (e : Ent) (h : EntH) : List Value := [str e.name, iv e.ver, iv e.kind, iv e.day, iv e.size] ++ (digC e.sum ++ ([h.so.v, h.gr.v, iv e.emb, iv e.need, iv e.keep, iv e.csize] ++ (digC e.csum ++ [h.pi.v])))
theorem entC_len (e : Ent) (h : EntH) : (entC e h).length = 76 := rfl
structure EntOk (V : World) (e : Ent) (h : EntH) : Prop where
  so : Refs V h.so e.sources
  gr : Strs V h.gr e.groups
  pi : Digs V h.pi e.pieces
theorem EntOk.up {V V' : World} {e : Ent} {h : EntH} (k : EntOk V e h) (hs : Sub V V') : EntOk V' e h := ⟨k.so.up hs, k.gr.up hs, k.pi.up hs⟩
structure Ents (V : World) (s : Sl) (l : List Ent) : Prop where
  ex : ∃ ps : List (Ent × EntH), ps.map (·.1) = l ∧ SlF (fun p : Ent × EntH => entC p.1 p.2) V s ps ∧ ∀ p ∈ ps, EntOk V p.1 p.2
section
variable {V V' : World} {s : Sl} {l : List Ent}
theorem Ents.up (h : Ents V s l) (k : Sub V V') : Ents V' s l := by
  obtain ⟨ps, h1, h2, h3⟩ := h.ex
  exact ⟨ps, h1, h2.up k, fun p hp => (h3 p hp).up k⟩
theorem Ents.len (h : Ents V s l) : s.len = l.length := by
  obtain ⟨ps, rfl, h2, h3⟩ := h.ex
  rw [h2.len]; simp
theorem Ents.cap (h : Ents V s l) : s.len ≤ s.cap := by
  obtain ⟨ps, rfl, h2, h3⟩ := h.ex
  exact h2.cap
theorem Ents.get (h : Ents V s l) {i : Nat} (hi : i < l.length) : Plain s.a ∧ ∃ e, EntOk V l[i] e ∧ ∀ j v, (entC l[i] e)[j]? = some v → V.cell? ⟨ablk s.a, aoff s.a + i * 76 + j, none⟩ = some v := by
  obtain ⟨ps, rfl, h2, h3⟩ := h.ex
  have hi' : i < ps.length := by simpa using hi
  obtain ⟨g1, g2⟩ := h2.get (n := 76) (fun _ => rfl) (by omega) hi'
  refine ⟨g1, ps[i].2, ?_, ?_⟩
  · have := h3 ps[i] (List.getElem_mem hi')
    simpa using this
  · simpa using g2
theorem Ents.sub (h : Ents V s l) {a b : Nat} (hab : a ≤ b) (hb : b ≤ l.length) : Ents V ⟨subA s.a a s.cap 76, b - a, s.cap - a⟩ ((l.take b).drop a) := by
  obtain ⟨ps, rfl, h2, h3⟩ := h.ex
  have := h2.sub (n := 76) (fun _ => rfl) hab (by simpa using hb)
  exact ⟨(ps.take b).drop a, by simp [List.map_drop, List.map_take], this, fun p hp => h3 p (List.mem_of_mem_take (List.mem_of_mem_drop hp))⟩
end
theorem Ents.ctake {V : World} {s : Sl} {l : List Ent} (h : Ents V s l) {b : Nat} (hb : b ≤ l.length) : Ents V ⟨subA s.a 0 s.cap 76, b - 0, s.cap - 0⟩ (l.take b) := by
  have := h.sub (Nat.zero_le b) hb
  simpa using this
theorem SlF.ctake {α : Type} {f : α → List Value} {n : Nat} {V : World} {s : Sl} {l : List α} (h : SlF f V s l) (hf : ∀ x, (f x).length = n) {b : Nat} (hb : b ≤ l.length) : SlF f V ⟨subA s.a 0 s.cap n, b - 0, s.cap - 0⟩ (l.take b) := by
  have := h.sub hf (Nat.zero_le b) hb
  simpa using this

/-! ### the first code -/
/-- the first of f 0, f 1, .. below n that is not 0, or 0 -/
def firstCode (f : Nat → Int) : Nat → Int
  | 0 => 0
  | k + 1 => if firstCode f k ≠ 0 then firstCode f k else f k
theorem firstCode_zero {f : Nat → Int} {k : Nat} (h : firstCode f k = 0) (hk : f k = 0) : firstCode f (k + 1) = 0 := by simp [firstCode, h, hk]
theorem firstCode_hit {f : Nat → Int} {k n : Nat} (h : firstCode f k = 0) (hk : f k ≠ 0) (hn : k < n) : firstCode f n = f k := by
  have h1 : firstCode f (k + 1) = f k := by simp [firstCode, h]
  have key : ∀ m, firstCode f (k + 1 + m) = f k := by
    intro m
    induction m with
    | zero => exact h1
    | succ m ih => rw [← Nat.add_assoc, firstCode, ih, if_pos hk]
  have := key (n - (k + 1))
  rwa [show k + 1 + (n - (k + 1)) = n by omega] at this
theorem firstCode_congr {f g : Nat → Int} {n : Nat} (h : ∀ i, i < n → f i = g i) : firstCode f n = firstCode g n := by
  induction n with
  | zero => rfl
  | succ n ih => simp only [firstCode, ih fun i hi => h i (by omega), h n (by omega)]
theorem firstCode_all {f : Nat → Int} {n : Nat} (h : firstCode f n = 0) {i : Nat} (hi : i < n) : f i = 0 := by
  refine Decidable.byContradiction fun hne => ?_
  induction n with
  | zero => omega
  | succ n ih =>
    by_cases h0 : firstCode f n = 0
    · by_cases hin : i = n
      · subst hin
        simp [firstCode, h0] at h
        exact hne h
      · exact ih h0 (by omega)
    · simp [firstCode, h0] at h
end Go.Proofs.YtffaffojkfalhaaGreatDoor
namespace Go.Proofs.YtffaffojkfalhaaGreatDoor
open Go Go.RowKit

section
variable {w0 V0 V w : World} {own : List Res}
theorem Res.off_symm {r s : Res} (h : Res.off r s) : Res.off s r := fun b hb hc => h b hc hb
theorem Rel.perm (H : Rel w0 V0 own V w) {own' : List Res} (h : own.Perm own') : Rel w0 V0 own' V w :=
  ⟨H.base, H.sub, H.old, fun r hr => H.laid r (h.mem_iff.2 hr), fun r hr => H.new r (h.mem_iff.2 hr), fun r hr => H.hid r (h.mem_iff.2 hr), (h.pairwise_iff Res.off_symm).1 H.apart, H.data⟩
theorem Rel.freezeF {α : Type} {f : α → List Value} {s : Sl} {e n : Nat} {l : List α} (H : Rel w0 V0 (.row s e n (l.flatMap f) :: own) V w) (hf : ∀ x, (f x).length = n) (hn : 0 < n) : ∃ V', Sub V V' ∧ Rel w0 V0 own V' w ∧ SlF f V' s l := by
  obtain ⟨V', h1, h2, h3, h4, h5⟩ := H.freezeRow
  refine ⟨V', h1, h2, ?_, h4, h3⟩
  rw [flat_len hf] at h5
  exact (Nat.eq_of_mul_eq_mul_right hn h5).symm
theorem Rel.rowLen {α : Type} {f : α → List Value} {s : Sl} {e n : Nat} {l : List α} {i : Nat} (H : Rel w0 V0 own V w) (hi : own[i]? = some (.row s e n (l.flatMap f))) (hf : ∀ x, (f x).length = n) (hn : 0 < n) : s.len = l.length := by
  have := (H.rowAt hi).len
  rw [flat_len hf] at this
  exact (Nat.eq_of_mul_eq_mul_right hn this).symm
theorem Rel.app1At {P : Program} {T : List TD} (hT : TabOk P T) {t ty e : TypeId} {d de : TD} (hd : T[t]? = some d) (hu : d.under = .slice e) (hde : T[e]? = some de) {z : Value} (hz : de.zero = some z) (hzs : z.cells.size = de.size) (hsz : 0 < de.size)
    {α : Type} {f : α → List Value} {l : List α} {x : α} (hf : ∀ y, (f y).length = de.size) (h1 : ∀ u ∈ f x, u.oneCell' = true) {s : Sl} {b : Nat} {t' : TypeId} (H : Rel w0 V0 (.blk b (f x) t' :: own) V w) {i : Nat} (hi : own[i]? = some (.row s e de.size (l.flatMap f)))
    (hb : (l.length + 1) * de.bytes ≤ 140737488355328) (hm : l.length + 1 ≤ 4611686018427387904)
    {k : Value → World → Prop} (hk : ∀ s' w', Rel w0 V0 (own.set i (.row s' e de.size ((l ++ [x]).flatMap f))) V w' → k s'.v w') : SemOk P (Builtin.append_ #[t, t] ty #[s.v, .slice (some ⟨b, 0, none⟩) 1 1]) w k := by
  have hx : Cells w (some ⟨b, 0, none⟩) (f x) := (H.bk_0).cells
  have hl := H.drop1.rowLen hi hf hsz
  refine Rel.appAt (x := ⟨some ⟨b, 0, none⟩, 1, 1⟩) hT hd hu hde hz hzs hsz H (i := i + 1) (by simpa using hi) hx (by rw [hf]; simp) h1 (by rw [hl]; exact hb) (by rw [hl]; exact hm) ?_
  intro s' w' H' _
  refine hk s' w' ?_
  rw [List.flatMap_append]
  simp only [List.flatMap_cons, List.flatMap_nil, List.append_nil]
  exact Rel.drop1 (by simpa using H')

theorem Rel.app1_0 {P : Program} {T : List TD} (hT : TabOk P T) {t ty e : TypeId} {d de : TD} (hd : T[t]? = some d) (hu : d.under = .slice e) (hde : T[e]? = some de) {z : Value} (hz : de.zero = some z) (hzs : z.cells.size = de.size) (hsz : 0 < de.size)
    {α : Type} {f : α → List Value} {l : List α} {x : α} (hf : ∀ y, (f y).length = de.size) (h1 : ∀ u ∈ f x, u.oneCell' = true) {s : Sl} {b : Nat} {t' : TypeId} (H : Rel w0 V0 (.blk b (f x) t' :: .row s e de.size (l.flatMap f) :: own) V w)
    (hb : (l.length + 1) * de.bytes ≤ 140737488355328) (hm : l.length + 1 ≤ 4611686018427387904)
    {k : Value → World → Prop} (hk : ∀ s' w', Rel w0 V0 (.row s' e de.size ((l ++ [x]).flatMap f) :: own) V w' → k s'.v w') : SemOk P (Builtin.append_ #[t, t] ty #[s.v, .slice (some ⟨b, 0, none⟩) 1 1]) w k :=
  Rel.app1At hT hd hu hde hz hzs hsz hf h1 H (i := 0) rfl hb hm hk
theorem Rel.app1_1 {r0 : Res} {P : Program} {T : List TD} (hT : TabOk P T) {t ty e : TypeId} {d de : TD} (hd : T[t]? = some d) (hu : d.under = .slice e) (hde : T[e]? = some de) {z : Value} (hz : de.zero = some z) (hzs : z.cells.size = de.size) (hsz : 0 < de.size)
    {α : Type} {f : α → List Value} {l : List α} {x : α} (hf : ∀ y, (f y).length = de.size) (h1 : ∀ u ∈ f x, u.oneCell' = true) {s : Sl} {b : Nat} {t' : TypeId} (H : Rel w0 V0 (.blk b (f x) t' :: r0 :: .row s e de.size (l.flatMap f) :: own) V w)
    (hb : (l.length + 1) * de.bytes ≤ 140737488355328) (hm : l.length + 1 ≤ 4611686018427387904)
    {k : Value → World → Prop} (hk : ∀ s' w', Rel w0 V0 (r0 :: .row s' e de.size ((l ++ [x]).flatMap f) :: own) V w' → k s'.v w') : SemOk P (Builtin.append_ #[t, t] ty #[s.v, .slice (some ⟨b, 0, none⟩) 1 1]) w k :=
  Rel.app1At hT hd hu hde hz hzs hsz hf h1 H (i := 1) rfl hb hm hk
theorem Rel.front_1 {r0 : Res} {r : Res} (H : Rel w0 V0 (r0 :: r :: own) V w) : Rel w0 V0 (r :: r0 :: own) V w := H.perm (List.perm_middle (l₁ := [r0]))
theorem Rel.app1_2 {r0 r1 : Res} {P : Program} {T : List TD} (hT : TabOk P T) {t ty e : TypeId} {d de : TD} (hd : T[t]? = some d) (hu : d.under = .slice e) (hde : T[e]? = some de) {z : Value} (hz : de.zero = some z) (hzs : z.cells.size = de.size) (hsz : 0 < de.size)
    {α : Type} {f : α → List Value} {l : List α} {x : α} (hf : ∀ y, (f y).length = de.size) (h1 : ∀ u ∈ f x, u.oneCell' = true) {s : Sl} {b : Nat} {t' : TypeId} (H : Rel w0 V0 (.blk b (f x) t' :: r0 :: r1 :: .row s e de.size (l.flatMap f) :: own) V w)
    (hb : (l.length + 1) * de.bytes ≤ 140737488355328) (hm : l.length + 1 ≤ 4611686018427387904)
    {k : Value → World → Prop} (hk : ∀ s' w', Rel w0 V0 (r0 :: r1 :: .row s' e de.size ((l ++ [x]).flatMap f) :: own) V w' → k s'.v w') : SemOk P (Builtin.append_ #[t, t] ty #[s.v, .slice (some ⟨b, 0, none⟩) 1 1]) w k :=
  Rel.app1At hT hd hu hde hz hzs hsz hf h1 H (i := 2) rfl hb hm hk
theorem Rel.front_2 {r0 r1 : Res} {r : Res} (H : Rel w0 V0 (r0 :: r1 :: r :: own) V w) : Rel w0 V0 (r :: r0 :: r1 :: own) V w := H.perm (List.perm_middle (l₁ := [r0, r1]))
theorem Rel.app1_3 {r0 r1 r2 : Res} {P : Program} {T : List TD} (hT : TabOk P T) {t ty e : TypeId} {d de : TD} (hd : T[t]? = some d) (hu : d.under = .slice e) (hde : T[e]? = some de) {z : Value} (hz : de.zero = some z) (hzs : z.cells.size = de.size) (hsz : 0 < de.size)
    {α : Type} {f : α → List Value} {l : List α} {x : α} (hf : ∀ y, (f y).length = de.size) (h1 : ∀ u ∈ f x, u.oneCell' = true) {s : Sl} {b : Nat} {t' : TypeId} (H : Rel w0 V0 (.blk b (f x) t' :: r0 :: r1 :: r2 :: .row s e de.size (l.flatMap f) :: own) V w)
    (hb : (l.length + 1) * de.bytes ≤ 140737488355328) (hm : l.length + 1 ≤ 4611686018427387904)
    {k : Value → World → Prop} (hk : ∀ s' w', Rel w0 V0 (r0 :: r1 :: r2 :: .row s' e de.size ((l ++ [x]).flatMap f) :: own) V w' → k s'.v w') : SemOk P (Builtin.append_ #[t, t] ty #[s.v, .slice (some ⟨b, 0, none⟩) 1 1]) w k :=
  Rel.app1At hT hd hu hde hz hzs hsz hf h1 H (i := 3) rfl hb hm hk
theorem Rel.front_3 {r0 r1 r2 : Res} {r : Res} (H : Rel w0 V0 (r0 :: r1 :: r2 :: r :: own) V w) : Rel w0 V0 (r :: r0 :: r1 :: r2 :: own) V w := H.perm (List.perm_middle (l₁ := [r0, r1, r2]))
theorem Rel.app1_4 {r0 r1 r2 r3 : Res} {P : Program} {T : List TD} (hT : TabOk P T) {t ty e : TypeId} {d de : TD} (hd : T[t]? = some d) (hu : d.under = .slice e) (hde : T[e]? = some de) {z : Value} (hz : de.zero = some z) (hzs : z.cells.size = de.size) (hsz : 0 < de.size)
    {α : Type} {f : α → List Value} {l : List α} {x : α} (hf : ∀ y, (f y).length = de.size) (h1 : ∀ u ∈ f x, u.oneCell' = true) {s : Sl} {b : Nat} {t' : TypeId} (H : Rel w0 V0 (.blk b (f x) t' :: r0 :: r1 :: r2 :: r3 :: .row s e de.size (l.flatMap f) :: own) V w)
    (hb : (l.length + 1) * de.bytes ≤ 140737488355328) (hm : l.length + 1 ≤ 4611686018427387904)
    {k : Value → World → Prop} (hk : ∀ s' w', Rel w0 V0 (r0 :: r1 :: r2 :: r3 :: .row s' e de.size ((l ++ [x]).flatMap f) :: own) V w' → k s'.v w') : SemOk P (Builtin.append_ #[t, t] ty #[s.v, .slice (some ⟨b, 0, none⟩) 1 1]) w k :=
  Rel.app1At hT hd hu hde hz hzs hsz hf h1 H (i := 4) rfl hb hm hk
theorem Rel.front_4 {r0 r1 r2 r3 : Res} {r : Res} (H : Rel w0 V0 (r0 :: r1 :: r2 :: r3 :: r :: own) V w) : Rel w0 V0 (r :: r0 :: r1 :: r2 :: r3 :: own) V w := H.perm (List.perm_middle (l₁ := [r0, r1, r2, r3]))
theorem Rel.app1_5 {r0 r1 r2 r3 r4 : Res} {P : Program} {T : List TD} (hT : TabOk P T) {t ty e : TypeId} {d de : TD} (hd : T[t]? = some d) (hu : d.under = .slice e) (hde : T[e]? = some de) {z : Value} (hz : de.zero = some z) (hzs : z.cells.size = de.size) (hsz : 0 < de.size)
    {α : Type} {f : α → List Value} {l : List α} {x : α} (hf : ∀ y, (f y).length = de.size) (h1 : ∀ u ∈ f x, u.oneCell' = true) {s : Sl} {b : Nat} {t' : TypeId} (H : Rel w0 V0 (.blk b (f x) t' :: r0 :: r1 :: r2 :: r3 :: r4 :: .row s e de.size (l.flatMap f) :: own) V w)
    (hb : (l.length + 1) * de.bytes ≤ 140737488355328) (hm : l.length + 1 ≤ 4611686018427387904)
    {k : Value → World → Prop} (hk : ∀ s' w', Rel w0 V0 (r0 :: r1 :: r2 :: r3 :: r4 :: .row s' e de.size ((l ++ [x]).flatMap f) :: own) V w' → k s'.v w') : SemOk P (Builtin.append_ #[t, t] ty #[s.v, .slice (some ⟨b, 0, none⟩) 1 1]) w k :=
  Rel.app1At hT hd hu hde hz hzs hsz hf h1 H (i := 5) rfl hb hm hk
theorem Rel.front_5 {r0 r1 r2 r3 r4 : Res} {r : Res} (H : Rel w0 V0 (r0 :: r1 :: r2 :: r3 :: r4 :: r :: own) V w) : Rel w0 V0 (r :: r0 :: r1 :: r2 :: r3 :: r4 :: own) V w := H.perm (List.perm_middle (l₁ := [r0, r1, r2, r3, r4]))
theorem Rel.app1_6 {r0 r1 r2 r3 r4 r5 : Res} {P : Program} {T : List TD} (hT : TabOk P T) {t ty e : TypeId} {d de : TD} (hd : T[t]? = some d) (hu : d.under = .slice e) (hde : T[e]? = some de) {z : Value} (hz : de.zero = some z) (hzs : z.cells.size = de.size) (hsz : 0 < de.size)
    {α : Type} {f : α → List Value} {l : List α} {x : α} (hf : ∀ y, (f y).length = de.size) (h1 : ∀ u ∈ f x, u.oneCell' = true) {s : Sl} {b : Nat} {t' : TypeId} (H : Rel w0 V0 (.blk b (f x) t' :: r0 :: r1 :: r2 :: r3 :: r4 :: r5 :: .row s e de.size (l.flatMap f) :: own) V w)
    (hb : (l.length + 1) * de.bytes ≤ 140737488355328) (hm : l.length + 1 ≤ 4611686018427387904)
    {k : Value → World → Prop} (hk : ∀ s' w', Rel w0 V0 (r0 :: r1 :: r2 :: r3 :: r4 :: r5 :: .row s' e de.size ((l ++ [x]).flatMap f) :: own) V w' → k s'.v w') : SemOk P (Builtin.append_ #[t, t] ty #[s.v, .slice (some ⟨b, 0, none⟩) 1 1]) w k :=
  Rel.app1At hT hd hu hde hz hzs hsz hf h1 H (i := 6) rfl hb hm hk
theorem Rel.front_6 {r0 r1 r2 r3 r4 r5 : Res} {r : Res} (H : Rel w0 V0 (r0 :: r1 :: r2 :: r3 :: r4 :: r5 :: r :: own) V w) : Rel w0 V0 (r :: r0 :: r1 :: r2 :: r3 :: r4 :: r5 :: own) V w := H.perm (List.perm_middle (l₁ := [r0, r1, r2, r3, r4, r5]))
theorem Rel.app1_7 {r0 r1 r2 r3 r4 r5 r6 : Res} {P : Program} {T : List TD} (hT : TabOk P T) {t ty e : TypeId} {d de : TD} (hd : T[t]? = some d) (hu : d.under = .slice e) (hde : T[e]? = some de) {z : Value} (hz : de.zero = some z) (hzs : z.cells.size = de.size) (hsz : 0 < de.size)
    {α : Type} {f : α → List Value} {l : List α} {x : α} (hf : ∀ y, (f y).length = de.size) (h1 : ∀ u ∈ f x, u.oneCell' = true) {s : Sl} {b : Nat} {t' : TypeId} (H : Rel w0 V0 (.blk b (f x) t' :: r0 :: r1 :: r2 :: r3 :: r4 :: r5 :: r6 :: .row s e de.size (l.flatMap f) :: own) V w)
    (hb : (l.length + 1) * de.bytes ≤ 140737488355328) (hm : l.length + 1 ≤ 4611686018427387904)
    {k : Value → World → Prop} (hk : ∀ s' w', Rel w0 V0 (r0 :: r1 :: r2 :: r3 :: r4 :: r5 :: r6 :: .row s' e de.size ((l ++ [x]).flatMap f) :: own) V w' → k s'.v w') : SemOk P (Builtin.append_ #[t, t] ty #[s.v, .slice (some ⟨b, 0, none⟩) 1 1]) w k :=
  Rel.app1At hT hd hu hde hz hzs hsz hf h1 H (i := 7) rfl hb hm hk
theorem Rel.front_7 {r0 r1 r2 r3 r4 r5 r6 : Res} {r : Res} (H : Rel w0 V0 (r0 :: r1 :: r2 :: r3 :: r4 :: r5 :: r6 :: r :: own) V w) : Rel w0 V0 (r :: r0 :: r1 :: r2 :: r3 :: r4 :: r5 :: r6 :: own) V w := H.perm (List.perm_middle (l₁ := [r0, r1, r2, r3, r4, r5, r6]))
end
end Go.Proofs.YtffaffojkfalhaaGreatDoor
