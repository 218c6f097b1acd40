/-
  Names: strings.IndexByte, IndexRune, ContainsRune, ContainsFunc; value.Name and the reference's.
-/
import Derived.Test.YtlhgmigoncmcaaaVcS
import Derived.Test.YtlhgmigoncmcaaaTab
import Derived.Test.YtlhgmigoncmcaaaChecked
import Derived.Laws.Runes
import Derived.Lib.Strings
import Derived.Lib.Slices
import Derived.Lib.Walk
import Derived.Lib.Bytealg
namespace Go.Proofs.Ytlhgmigoncmcaaa
open Go Go.RowKit

theorem Ret.ofCalls {P : Program} {f : FuncId} {fn : Func} {args : Array Value} {w : World} {K : Value → World → Prop} (hf : P.funcs[f]? = some fn) (hb : fn.body.isSome = true) (hn : (fn.name == "runtime.NumGoroutine") = false)
    (h : Calls P f args w fun e w' => ∃ v, e = .returned v ∧ K v w') : Ret P f args w K :=
  ⟨enters_mk hf hb hn, Calls.mono' h fun e w' ⟨v, he, hk⟩ => by subst he; exact hk⟩
set_option maxHeartbeats 1000000 in
set_option maxRecDepth 100000 in
theorem sh_stringslite_IndexByte (s : ByteArray) (c : Int) (w : World) :
    Calls Try.prog 127 #[.string s, .int .u8 c] w fun e w' => e = .returned (.int .i64 (Lib.indexByte s.data.toList c.toNat.toUInt8)) ∧ w' = w := by
  go_enter Try.func127, Try.ntmps127
  go_wp2
  rw [run_callFunc_extern Try.func128 (by kernel_rfl) (by kernel_rfl) (by kernel_rfl) (e := Extern.BytealgIndexByte.indexByte) (by kernel_rfl), Lib.run_indexByteString]
  simp only [Result.andThen]
  rw [Oper.upon_value]
  go_wp2
  go_ret
  exact ⟨rfl, rfl⟩
theorem indexByte_spec (s : List UInt8) (c : Int) (w : World) : Ret Try.prog 123 [str s, .int .u8 c].toArray w fun v w' => v = iv (Lib.indexByte s c.toNat.toUInt8) ∧ w = w' := by
  refine cal_of_vc tabOk Try.func123 rfl (by kernel_rfl) 8 rfl (by simp) [0, 1, 4] ?_
  (conv => whnf)
  refine Ret.use (Ret.ofCalls (K := fun v w' => v = iv (Lib.indexByte s c.toNat.toUInt8) ∧ w = w') Try.func127 rfl (by kernel_rfl) (Calls.mono' (sh_stringslite_IndexByte _ _ _) fun e w' ⟨he, hw⟩ => ⟨_, he, rfl, hw.symm⟩)) ?_
  rintro v w' ⟨rfl, rfl⟩
  (conv => whnf)
  exact ⟨rfl, rfl⟩
theorem indexByte_none {s : List UInt8} {c : UInt8} (h : ∀ b ∈ s, b ≠ c) : Lib.indexByte s c = -1 := by
  induction s with
  | nil => rfl
  | cons b l ih =>
    have h1 := h b (by simp)
    simp only [Lib.indexByte, ih fun x hx => h x (by simp [hx])]
    simp [h1]
theorem validRune_spec (r : Int) (w : World) : Ret Try.prog 124 [.int .i32 r].toArray w fun v w' => v = .bool (Utf8.valid r) ∧ w = w' := by
  rw [validRune_eq]
  refine cal_of_vc tabOk Try.func124 rfl (by kernel_rfl) 17 rfl (by simp) [0, 2, 3, 10] ?_
  by_cases h1 : 0 ≤ r ∧ r < 55296
  · have e : validRune r = true := by simp [validRune]; omega
    rw [e]
    ((repeat ((conv => whnf); first | refine And.intro (by first | omega | exact rfl) ?_ | refine condG_dec (fun _ => ?_) (fun h => False.elim (by omega)) | refine condG_dec (fun h => False.elim (by omega)) (fun _ => ?_))); (conv => whnf))
    try exact rfl
  · by_cases h2 : 57343 < r ∧ r ≤ 1114111
    · have e : validRune r = true := by simp [validRune]; omega
      rw [e]
      by_cases h3 : 0 ≤ r
      · ((repeat ((conv => whnf); first | refine And.intro (by first | omega | exact rfl) ?_ | refine condG_dec (fun _ => ?_) (fun h => False.elim (by omega)) | refine condG_dec (fun h => False.elim (by omega)) (fun _ => ?_))); (conv => whnf))
        try exact rfl
      · omega
    · have e : validRune r = false := by simp [validRune]; omega
      rw [e]
      by_cases h3 : 0 ≤ r
      · by_cases h4 : 57343 < r
        · ((repeat ((conv => whnf); first | refine And.intro (by first | omega | exact rfl) ?_ | refine condG_dec (fun _ => ?_) (fun h => False.elim (by omega)) | refine condG_dec (fun h => False.elim (by omega)) (fun _ => ?_))); (conv => whnf))
          try exact ⟨by simp; omega, rfl⟩
        · ((repeat ((conv => whnf); first | refine And.intro (by first | omega | exact rfl) ?_ | refine condG_dec (fun _ => ?_) (fun h => False.elim (by omega)) | refine condG_dec (fun h => False.elim (by omega)) (fun _ => ?_))); (conv => whnf))
          try exact rfl
      · ((repeat ((conv => whnf); first | refine And.intro (by first | omega | exact rfl) ?_ | refine condG_dec (fun _ => ?_) (fun h => False.elim (by omega)) | refine condG_dec (fun h => False.elim (by omega)) (fun _ => ?_))); (conv => whnf))
        try exact rfl
abbrev marks : List UInt8 := [45, 95, 46]
theorem indexRune_spec {V W : World} (hV : Sub V W) (r : Int) (h0 : 0 ≤ r) (h1 : r ≤ 2147483647) : Ret Try.prog 110 [str marks, .int .i32 r].toArray W fun v w' => (∃ i : Int, v = iv i ∧ (0 ≤ i ↔ r = 45 ∨ r = 95 ∨ r = 46)) ∧ Rel W V [] V w' := by
  have H := Rel.start hV
  by_cases h2 : r < 128
  · refine cal_of_vc tabOk Try.func110 rfl (by kernel_rfl) 187 rfl (by simp) [0, 1, 4, 5, 6, 7, 8, 9, 10, 11, 12, 13, 14, 15, 16, 26, 33, 43, 51, 64, 98, 108, 124, 139, 143, 156, 160, 171, 175, 176, 177, 181, 183] ?_
    ((repeat ((conv => whnf); first | refine an ?_ | ((first | refine H.nwD ?_ | refine H.nw ?_); clear H; intro w _ H) | refine H.ce ?_ | refine H.db ?_ | refine ea ?_ | ((first | refine H.store_0 ?_ | refine H.store_1 ?_ | refine H.store_2 ?_ | refine H.store_3 ?_ | refine H.store_4 ?_ | refine H.store_5 ?_ | refine H.store_6 ?_ | refine H.store_7 ?_ | refine H.store_8 ?_ | refine H.store_9 ?_); (conv => whnf); clear H; intro w H) | refine condT fun _ => ?_ | refine condF fun _ => ?_ | refine condNT fun _ => ?_ | refine condNF fun _ => ?_ | refine H.lw ?_ | refine H.ll ?_)); (conv => whnf))
    refine (indexByte_spec marks _ _).use ?_
    rintro v w ⟨rfl, rfl⟩
    ((repeat ((conv => whnf); first | refine an ?_ | ((first | refine H.nwD ?_ | refine H.nw ?_); clear H; intro w _ H) | refine H.ce ?_ | refine H.db ?_ | refine ea ?_ | ((first | refine H.store_0 ?_ | refine H.store_1 ?_ | refine H.store_2 ?_ | refine H.store_3 ?_ | refine H.store_4 ?_ | refine H.store_5 ?_ | refine H.store_6 ?_ | refine H.store_7 ?_ | refine H.store_8 ?_ | refine H.store_9 ?_); (conv => whnf); clear H; intro w H) | refine condT fun _ => ?_ | refine condF fun _ => ?_ | refine condNT fun _ => ?_ | refine condNF fun _ => ?_ | refine H.lw ?_ | refine H.ll ?_)); (conv => whnf))
    refine ⟨⟨_, rfl, ?_⟩, H⟩
    rw [show (wr IntKind.u8 r).toNat = r.toNat by show (r % 256).toNat = r.toNat; omega]
    obtain ⟨n, rfl⟩ : ∃ n : Nat, r = n := ⟨r.toNat, by omega⟩
    simp only [Int.toNat_natCast]
    have hn : n < 128 := by omega
    have key : ∀ n : Fin 128, (0 ≤ Lib.indexByte marks n.val.toUInt8 ↔ n.val = 45 ∨ n.val = 95 ∨ n.val = 46) := by decide
    have := key ⟨n, hn⟩
    dsimp only at this
    rw [this]
    omega
  by_cases h3 : r = 65533
  · subst h3
    refine cal_of_vc tabOk Try.func110 rfl (by kernel_rfl) 187 rfl (by simp) [0, 1, 4, 5, 6, 7, 8, 9, 10, 11, 12, 13, 14, 15, 16, 26, 33, 43, 51, 64, 98, 108, 124, 139, 143, 156, 160, 171, 175, 176, 177, 181, 183] ?_
    ((repeat ((conv => whnf); first | refine an ?_ | ((first | refine H.nwD ?_ | refine H.nw ?_); clear H; intro w _ H) | refine H.ce ?_ | refine H.db ?_ | refine ea ?_ | ((first | refine H.store_0 ?_ | refine H.store_1 ?_ | refine H.store_2 ?_ | refine H.store_3 ?_ | refine H.store_4 ?_ | refine H.store_5 ?_ | refine H.store_6 ?_ | refine H.store_7 ?_ | refine H.store_8 ?_ | refine H.store_9 ?_); (conv => whnf); clear H; intro w H) | refine condT fun _ => ?_ | refine condF fun _ => ?_ | refine condNT fun _ => ?_ | refine condNF fun _ => ?_ | refine H.lw ?_ | refine H.ll ?_)); (conv => whnf))
    refine Rel.range tabOk rfl rfl H ?_
    clear H
    intro w b H
    ((repeat ((conv => whnf); first | refine an ?_ | ((first | refine H.nwD ?_ | refine H.nw ?_); clear H; intro w _ H) | refine H.ce ?_ | refine H.db ?_ | refine ea ?_ | ((first | refine H.store_0 ?_ | refine H.store_1 ?_ | refine H.store_2 ?_ | refine H.store_3 ?_ | refine H.store_4 ?_ | refine H.store_5 ?_ | refine H.store_6 ?_ | refine H.store_7 ?_ | refine H.store_8 ?_ | refine H.store_9 ?_); (conv => whnf); clear H; intro w H) | refine condT fun _ => ?_ | refine condF fun _ => ?_ | refine condNT fun _ => ?_ | refine condNF fun _ => ?_ | refine H.lw ?_ | refine H.ll ?_)); (conv => whnf))
    refine loop_inv tabOk [0, 1, 7, 8, 9, 10, 11, 12, 13, 14, 15, 16, 26, 33, 43, 51, 64, 98, 108, 124, 139, 143, 156, 160, 171, 175, 183] (fun _ : Nat => []) (fun k w' => k ≤ 3 ∧ Rel W V [.obj b (.stringIter ⟨marks.toArray⟩ k)] V w') (fun k _ => 3 - k) 0 ?_
    (conv => whnf)
    refine ⟨trivial, ⟨by omega, H⟩, ?_⟩
    clear H
    rintro k w ⟨hk, H⟩
    (conv => whnf)
    refine Rel.next H (fun hlt w H => ?_) (fun hlt => ?_)
    · have hk3 : k < 3 := hlt
      have hd : Utf8.decode ⟨marks.toArray⟩ k = (([45, 95, 46] : List Nat)[k]'(by simpa using hk3), 1) := by
        have : k = 0 ∨ k = 1 ∨ k = 2 := by omega
        rcases this with rfl | rfl | rfl <;> rfl
      rw [hd] at H ⊢
      have hne : (([45, 95, 46] : List Nat)[k]'(by simpa using hk3)) < 128 := by
        have : k = 0 ∨ k = 1 ∨ k = 2 := by omega
        rcases this with rfl | rfl | rfl <;> simp
      generalize (([45, 95, 46] : List Nat)[k]'(by simpa using hk3)) = c at hne
      ((repeat ((conv => whnf); first | refine an ?_ | ((first | refine H.nwD ?_ | refine H.nw ?_); clear H; intro w _ H) | refine H.ce ?_ | refine H.db ?_ | refine ea ?_ | ((first | refine H.store_0 ?_ | refine H.store_1 ?_ | refine H.store_2 ?_ | refine H.store_3 ?_ | refine H.store_4 ?_ | refine H.store_5 ?_ | refine H.store_6 ?_ | refine H.store_7 ?_ | refine H.store_8 ?_ | refine H.store_9 ?_); (conv => whnf); clear H; intro w H) | refine condT fun _ => ?_ | refine condF fun _ => ?_ | refine condNT fun _ => ?_ | refine condNF fun _ => ?_ | refine H.lw ?_ | refine H.ll ?_)); (conv => whnf))
      exact ⟨(by repeat (first | exact trivial | refine ⟨rfl, ?_⟩)), k + 1, trivial, ⟨by omega, H⟩, by omega⟩
    · ((repeat ((conv => whnf); first | refine an ?_ | ((first | refine H.nwD ?_ | refine H.nw ?_); clear H; intro w _ H) | refine H.ce ?_ | refine H.db ?_ | refine ea ?_ | ((first | refine H.store_0 ?_ | refine H.store_1 ?_ | refine H.store_2 ?_ | refine H.store_3 ?_ | refine H.store_4 ?_ | refine H.store_5 ?_ | refine H.store_6 ?_ | refine H.store_7 ?_ | refine H.store_8 ?_ | refine H.store_9 ?_); (conv => whnf); clear H; intro w H) | refine condT fun _ => ?_ | refine condF fun _ => ?_ | refine condNT fun _ => ?_ | refine condNF fun _ => ?_ | refine H.lw ?_ | refine H.ll ?_)); (conv => whnf))
      exact ⟨⟨_, rfl, by omega⟩, H.sx⟩
  refine cal_of_vc tabOk Try.func110 rfl (by kernel_rfl) 187 rfl (by simp) [0, 1, 4, 5, 6, 7, 8, 9, 10, 11, 12, 13, 14, 15, 16, 26, 33, 43, 51, 64, 98, 108, 124, 139, 143, 156, 160, 171, 175, 176, 177, 181, 183] ?_
  ((repeat ((conv => whnf); first | refine an ?_ | ((first | refine H.nwD ?_ | refine H.nw ?_); clear H; intro w _ H) | refine H.ce ?_ | refine H.db ?_ | refine ea ?_ | ((first | refine H.store_0 ?_ | refine H.store_1 ?_ | refine H.store_2 ?_ | refine H.store_3 ?_ | refine H.store_4 ?_ | refine H.store_5 ?_ | refine H.store_6 ?_ | refine H.store_7 ?_ | refine H.store_8 ?_ | refine H.store_9 ?_); (conv => whnf); clear H; intro w H) | refine condT fun _ => ?_ | refine condF fun _ => ?_ | refine condNT fun _ => ?_ | refine condNF fun _ => ?_ | refine H.lw ?_ | refine H.ll ?_)); (conv => whnf))
  refine (validRune_spec r _).use ?_
  rintro v w ⟨rfl, rfl⟩
  (conv => whnf)
  cases hv : Utf8.valid r with
  | false =>
    (conv => whnf)
    exact ⟨⟨_, rfl, by omega⟩, H⟩
  | true =>
    obtain ⟨e1, e2, e3⟩ := encode_facts r hv (by omega)
    obtain ⟨es, hes⟩ : ∃ es : List UInt8, Utf8.encode r = ⟨es.toArray⟩ := ⟨(Utf8.encode r).data.toList, rfl⟩
    rw [hes] at e1 e2
    have e1' : 2 ≤ es.length := e1
    have e2' : es.length ≤ 4 := e2
    have e3' : ∃ b, es[es.length - 1]? = some b ∧ 128 ≤ b.toNat := by
      refine ⟨es[es.length - 1], by simp <;> omega, ?_⟩
      rw [hes] at e3
      exact e3 (show es.length - 1 < es.length by omega)
    obtain ⟨lb, hlb, hlb8⟩ := e3'
    (conv => whnf)
    refine scope_vc tabOk ?_
    (conv => whnf)
    refine SemOk.of (run_convert_int_string _ _ _ _ _ (by kernel_rfl) (by kernel_rfl)) ?_
    rw [hes]
    ((repeat ((conv => whnf); first | refine an ?_ | ((first | refine H.nwD ?_ | refine H.nw ?_); clear H; intro w _ H) | refine H.ce ?_ | refine H.db ?_ | refine ea ?_ | ((first | refine H.store_0 ?_ | refine H.store_1 ?_ | refine H.store_2 ?_ | refine H.store_3 ?_ | refine H.store_4 ?_ | refine H.store_5 ?_ | refine H.store_6 ?_ | refine H.store_7 ?_ | refine H.store_8 ?_ | refine H.store_9 ?_); (conv => whnf); clear H; intro w H) | refine condT fun _ => ?_ | refine condF fun _ => ?_ | refine condNT fun _ => ?_ | refine condNF fun _ => ?_ | refine H.lw ?_ | refine H.ll ?_)); (conv => whnf))
    have hsz : (ByteArray.mk marks.toArray).size = 3 := rfl
    have hesz : (ByteArray.mk es.toArray).size = es.length := rfl
    refine loop_inv (S := Unit) tabOk [0, 1, 5, 6, 7, 8, 13, 14, 15, 16, 108, 124, 139, 143, 156, 160, 171, 175, 176, 177, 181, 183] (fun _ => [(9, .int .i64 ((es.length : Int) - 1)), (10, .int .i64 0)]) (fun _ w' => Rel W V [] V w') (fun _ _ => 0) () ?_
    (conv => whnf)
    refine ⟨⟨rfl, rfl, trivial⟩, H, ?_⟩
    clear H
    rintro _ w H
    by_cases h5 : es.length - 1 < 3
    · ((repeat ((conv => whnf); first | refine an ?_ | ((first | refine H.nwD ?_ | refine H.nw ?_); clear H; intro w _ H) | refine H.ce ?_ | refine H.db ?_ | refine ea ?_ | ((first | refine H.store_0 ?_ | refine H.store_1 ?_ | refine H.store_2 ?_ | refine H.store_3 ?_ | refine H.store_4 ?_ | refine H.store_5 ?_ | refine H.store_6 ?_ | refine H.store_7 ?_ | refine H.store_8 ?_ | refine H.store_9 ?_); (conv => whnf); clear H; intro w H) | refine condT fun _ => ?_ | refine condF fun _ => ?_ | refine condNT fun _ => ?_ | refine condNF fun _ => ?_ | refine H.lw ?_ | refine H.ll ?_)); (conv => whnf))
      refine scope_vc tabOk ?_
      (conv => whnf)
      obtain ⟨mb, hmb, hmb8⟩ : ∃ mb : UInt8, marks[((es.length : Int) - 1).toNat]? = some mb ∧ mb.toNat < 128 := by
        have : ((es.length : Int) - 1).toNat = 1 ∨ ((es.length : Int) - 1).toNat = 2 := by omega
        rcases this with h | h <;> rw [h]
        · exact ⟨95, rfl, by decide⟩
        · exact ⟨46, rfl, by decide⟩
      have hlb' : es[((es.length : Int) - 1).toNat]? = some lb := by rw [show ((es.length : Int) - 1).toNat = es.length - 1 by omega]; exact hlb
      have hml : marks.length = 3 := rfl
      ((first | refine draw_vc (id := 6) tabOk mixed [] [0, 1, 2, 3, 4, 5, 6] (by kernel_rfl) ?_ | refine draw_vc (id := 7) tabOk mixed [] [0, 1, 2, 3, 4, 5, 6, 7, 8] (by kernel_rfl) ?_ | refine draw_vc (id := 14) tabOk mixed [] [0, 1, 2, 3, 4, 5, 6, 7, 8, 9, 10] (by kernel_rfl) ?_ | refine draw_vc (id := 31) tabOk mixed [] [0, 1, 2, 3, 4, 5, 6, 7, 8, 9, 10] (by kernel_rfl) ?_); intro w hdw; replace H := Rel.ext H hdw.ext)
      ((repeat ((conv => whnf); first | refine an ?_ | ((first | refine H.nwD ?_ | refine H.nw ?_); clear H; intro w _ H) | refine H.ce ?_ | refine H.db ?_ | refine ea ?_ | ((first | refine H.store_0 ?_ | refine H.store_1 ?_ | refine H.store_2 ?_ | refine H.store_3 ?_ | refine H.store_4 ?_ | refine H.store_5 ?_ | refine H.store_6 ?_ | refine H.store_7 ?_ | refine H.store_8 ?_ | refine H.store_9 ?_); (conv => whnf); clear H; intro w H) | refine condT fun _ => ?_ | refine condF fun _ => ?_ | refine condNT fun _ => ?_ | refine condNF fun _ => ?_ | refine H.lw ?_ | refine H.ll ?_)); (conv => whnf))
      ((first | refine draw_vc (id := 6) tabOk mixed [] [0, 1, 2, 3, 4, 5, 6] (by kernel_rfl) ?_ | refine draw_vc (id := 7) tabOk mixed [] [0, 1, 2, 3, 4, 5, 6, 7, 8] (by kernel_rfl) ?_ | refine draw_vc (id := 14) tabOk mixed [] [0, 1, 2, 3, 4, 5, 6, 7, 8, 9, 10] (by kernel_rfl) ?_ | refine draw_vc (id := 31) tabOk mixed [] [0, 1, 2, 3, 4, 5, 6, 7, 8, 9, 10] (by kernel_rfl) ?_); intro w hdw; replace H := Rel.ext H hdw.ext)
      ((repeat ((conv => whnf); first | refine an ?_ | ((first | refine H.nwD ?_ | refine H.nw ?_); clear H; intro w _ H) | refine H.ce ?_ | refine H.db ?_ | refine ea ?_ | ((first | refine H.store_0 ?_ | refine H.store_1 ?_ | refine H.store_2 ?_ | refine H.store_3 ?_ | refine H.store_4 ?_ | refine H.store_5 ?_ | refine H.store_6 ?_ | refine H.store_7 ?_ | refine H.store_8 ?_ | refine H.store_9 ?_); (conv => whnf); clear H; intro w H) | refine condT fun _ => ?_ | refine condF fun _ => ?_ | refine condNT fun _ => ?_ | refine condNF fun _ => ?_ | refine H.lw ?_ | refine H.ll ?_)); (conv => whnf))
      refine (indexByte_spec _ _ _).use ?_
      rintro v w ⟨rfl, rfl⟩
      rw [indexByte_none]
      rotate_left
      · intro b hb e
        have hb' := List.mem_of_mem_take (List.mem_of_mem_drop hb)
        have hlt : b.toNat < 128 := by
          simp only [marks, List.mem_cons, List.not_mem_nil, or_false] at hb'
          rcases hb' with rfl | rfl | rfl <;> decide
        have : (lb.toNat).toUInt8 = lb := by simp
        rw [Int.toNat_natCast, this] at e
        subst e
        omega
      ((repeat ((conv => whnf); first | refine an ?_ | ((first | refine H.nwD ?_ | refine H.nw ?_); clear H; intro w _ H) | refine H.ce ?_ | refine H.db ?_ | refine ea ?_ | ((first | refine H.store_0 ?_ | refine H.store_1 ?_ | refine H.store_2 ?_ | refine H.store_3 ?_ | refine H.store_4 ?_ | refine H.store_5 ?_ | refine H.store_6 ?_ | refine H.store_7 ?_ | refine H.store_8 ?_ | refine H.store_9 ?_); (conv => whnf); clear H; intro w H) | refine condT fun _ => ?_ | refine condF fun _ => ?_ | refine condNT fun _ => ?_ | refine condNF fun _ => ?_ | refine H.lw ?_ | refine H.ll ?_)); (conv => whnf))
      exact ⟨⟨_, rfl, by omega⟩, H⟩
    · ((repeat ((conv => whnf); first | refine an ?_ | ((first | refine H.nwD ?_ | refine H.nw ?_); clear H; intro w _ H) | refine H.ce ?_ | refine H.db ?_ | refine ea ?_ | ((first | refine H.store_0 ?_ | refine H.store_1 ?_ | refine H.store_2 ?_ | refine H.store_3 ?_ | refine H.store_4 ?_ | refine H.store_5 ?_ | refine H.store_6 ?_ | refine H.store_7 ?_ | refine H.store_8 ?_ | refine H.store_9 ?_); (conv => whnf); clear H; intro w H) | refine condT fun _ => ?_ | refine condF fun _ => ?_ | refine condNT fun _ => ?_ | refine condNF fun _ => ?_ | refine H.lw ?_ | refine H.ll ?_)); (conv => whnf))
      exact ⟨⟨_, rfl, by omega⟩, H⟩
end Go.Proofs.Ytlhgmigoncmcaaa
