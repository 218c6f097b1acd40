/-
  Names: strings.IndexByte, IndexRune, ContainsRune, ContainsFunc; value.Name and the reference's.
-/
import Derived.Test.YtlhgmigoncmcaaaGreatVcS
import Derived.Test.YtlhgmigoncmcaaaGreatTab
import Derived.Test.YtlhgmigoncmcaaaGreatChecked
import Derived.Laws.Runes
import Derived.Lib.Strings
import Derived.Lib.Slices
import Derived.Lib.Walk
import Derived.Lib.Bytealg
namespace Go.Proofs.YtlhgmigoncmcaaaGreat
open Go Go.RowKit

theorem Ret.ofCalls {P : Program} {f : FuncId} {fn : Func} {args : Array Value} {w : World} {K : Value → World → Prop} (hf : P.funcs[f]? = some fn) (hb : fn.body.isSome = true) (hn : (fn.name == "runtime.NumGoroutine") = false)
    (h : Calls P f args w fun e w' => ∃ v, e = .returned v ∧ K v w') : Ret P f args w K :=
  ⟨enters_mk hf hb hn, Calls.mono' h fun e w' ⟨v, he, hk⟩ => by subst he; exact hk⟩
set_option maxHeartbeats 1000000 in
set_option maxRecDepth 100000 in
theorem sh_stringslite_IndexByte (s : ByteArray) (c : Int) (w : World) :
    Calls Tryz.prog 107 #[.string s, .int .u8 c] w fun e w' => e = .returned (.int .i64 (Lib.indexByte s.data.toList c.toNat.toUInt8)) ∧ w' = w := by
  go_enter Tryz.func107, Tryz.ntmps107
  go_wp2
  rw [run_callFunc_extern Tryz.func108 (by kernel_rfl) (by kernel_rfl) (by kernel_rfl) (e := Extern.BytealgIndexByte.indexByte) (by kernel_rfl), Lib.run_indexByteString]
  simp only [Result.andThen]
  rw [Oper.upon_value]
  go_wp2
  go_ret
  exact ⟨rfl, rfl⟩
theorem indexByte_spec (s : List UInt8) (c : Int) (w : World) : Ret Tryz.prog 103 [str s, .int .u8 c].toArray w fun v w' => v = iv (Lib.indexByte s c.toNat.toUInt8) ∧ w = w' := by
  refine cal_of_vc tabOk Tryz.func103 rfl (by kernel_rfl) 8 rfl (by simp) [0, 1, 4] ?_
  (conv => whnf)
  refine Ret.use (Ret.ofCalls (K := fun v w' => v = iv (Lib.indexByte s c.toNat.toUInt8) ∧ w = w') Tryz.func107 rfl (by kernel_rfl) (Calls.mono' (sh_stringslite_IndexByte _ _ _) fun e w' ⟨he, hw⟩ => ⟨_, he, rfl, hw.symm⟩)) ?_
  rintro v w' ⟨rfl, rfl⟩
  (conv => whnf)
  exact ⟨rfl, rfl⟩
theorem indexByte_none {s : List UInt8} {c : UInt8} (h : ∀ b ∈ s, b ≠ c) : Lib.indexByte s c = -1 := by
  induction s with
  | nil => rfl
  | cons b l ih =>
    have h1 := h b (by simp)
    simp only [Lib.indexByte, ih fun x hx => h x (by simp [hx])]
    simp [h1]
theorem validRune_spec (r : Int) (w : World) : Ret Tryz.prog 104 [.int .i32 r].toArray w fun v w' => v = .bool (Utf8.valid r) ∧ w = w' := by
  rw [validRune_eq]
  refine cal_of_vc tabOk Tryz.func104 rfl (by kernel_rfl) 17 rfl (by simp) [0, 2, 3, 10] ?_
  by_cases h1 : 0 ≤ r ∧ r < 55296
  · have e : validRune r = true := by simp [validRune]; omega
    rw [e]
    ((repeat ((conv => whnf); first | refine And.intro (by first | omega | exact rfl) ?_ | refine condG_dec (fun _ => ?_) (fun h => False.elim (by omega)) | refine condG_dec (fun h => False.elim (by omega)) (fun _ => ?_))); (conv => whnf))
    try exact rfl
  · by_cases h2 : 57343 < r ∧ r ≤ 1114111
    · have e : validRune r = true := by simp [validRune]; omega
      rw [e]
      by_cases h3 : 0 ≤ r
      · ((repeat ((conv => whnf); first | refine And.intro (by first | omega | exact rfl) ?_ | refine condG_dec (fun _ => ?_) (fun h => False.elim (by omega)) | refine condG_dec (fun h => False.elim (by omega)) (fun _ => ?_))); (conv => whnf))
        try exact rfl
      · omega
    · have e : validRune r = false := by simp [validRune]; omega
      rw [e]
      by_cases h3 : 0 ≤ r
      · by_cases h4 : 57343 < r
        · ((repeat ((conv => whnf); first | refine And.intro (by first | omega | exact rfl) ?_ | refine condG_dec (fun _ => ?_) (fun h => False.elim (by omega)) | refine condG_dec (fun h => False.elim (by omega)) (fun _ => ?_))); (conv => whnf))
          try exact ⟨by simp; omega, rfl⟩
        · ((repeat ((conv => whnf); first | refine And.intro (by first | omega | exact rfl) ?_ | refine condG_dec (fun _ => ?_) (fun h => False.elim (by omega)) | refine condG_dec (fun h => False.elim (by omega)) (fun _ => ?_))); (conv => whnf))
          try exact rfl
      · ((repeat ((conv => whnf); first | refine And.intro (by first | omega | exact rfl) ?_ | refine condG_dec (fun _ => ?_) (fun h => False.elim (by omega)) | refine condG_dec (fun h => False.elim (by omega)) (fun _ => ?_))); (conv => whnf))
        try exact rfl
abbrev marks : List UInt8 := [45, 95, 46]
theorem indexRune_spec {V W : World} (hV : Sub V W) (r : Int) (h0 : 0 ≤ r) (h1 : r ≤ 2147483647) : Ret Tryz.prog 101 [str marks, .int .i32 r].toArray W fun v w' => (∃ i : Int, v = iv i ∧ (0 ≤ i ↔ r = 45 ∨ r = 95 ∨ r = 46)) ∧ Rel W V [] V w' := by
  have H := Rel.start hV
  by_cases h2 : r < 128
  · refine cal_of_vc tabOk Tryz.func101 rfl (by kernel_rfl) 187 rfl (by simp) [0, 1, 4, 5, 6, 7, 8, 9, 10, 11, 12, 13, 14, 15, 16, 26, 33, 43, 51, 64, 98, 108, 124, 139, 143, 156, 160, 171, 175, 176, 177, 181, 183] ?_
    ((repeat ((conv => whnf); first | refine an ?_ | ((first | refine H.nwD ?_ | refine H.nw ?_); clear H; intro w _ H) | refine H.ce ?_ | refine H.db ?_ | refine ea ?_ | (refine H.st ?_; (conv => whnf); clear H; intro w H) | refine condT fun _ => ?_ | refine condF fun _ => ?_ | refine condNT fun _ => ?_ | refine condNF fun _ => ?_ | refine H.lw ?_ | refine H.ll ?_)); (conv => whnf))
    refine (indexByte_spec marks _ _).use ?_
    rintro v w ⟨rfl, rfl⟩
    ((repeat ((conv => whnf); first | refine an ?_ | ((first | refine H.nwD ?_ | refine H.nw ?_); clear H; intro w _ H) | refine H.ce ?_ | refine H.db ?_ | refine ea ?_ | (refine H.st ?_; (conv => whnf); clear H; intro w H) | refine condT fun _ => ?_ | refine condF fun _ => ?_ | refine condNT fun _ => ?_ | refine condNF fun _ => ?_ | refine H.lw ?_ | refine H.ll ?_)); (conv => whnf))
    refine ⟨⟨_, rfl, ?_⟩, H⟩
    rw [show (wr IntKind.u8 r).toNat = r.toNat by show (r % 256).toNat = r.toNat; omega]
    obtain ⟨n, rfl⟩ : ∃ n : Nat, r = n := ⟨r.toNat, by omega⟩
    simp only [Int.toNat_natCast]
    have hn : n < 128 := by omega
    have key : ∀ n : Fin 128, (0 ≤ Lib.indexByte marks n.val.toUInt8 ↔ n.val = 45 ∨ n.val = 95 ∨ n.val = 46) := by decide
    have := key ⟨n, hn⟩
    dsimp only at this
    rw [this]
    omega
  by_cases h3 : r = 65533
  · subst h3
    refine cal_of_vc tabOk Tryz.func101 rfl (by kernel_rfl) 187 rfl (by simp) [0, 1, 4, 5, 6, 7, 8, 9, 10, 11, 12, 13, 14, 15, 16, 26, 33, 43, 51, 64, 98, 108, 124, 139, 143, 156, 160, 171, 175, 176, 177, 181, 183] ?_
    ((repeat ((conv => whnf); first | refine an ?_ | ((first | refine H.nwD ?_ | refine H.nw ?_); clear H; intro w _ H) | refine H.ce ?_ | refine H.db ?_ | refine ea ?_ | (refine H.st ?_; (conv => whnf); clear H; intro w H) | refine condT fun _ => ?_ | refine condF fun _ => ?_ | refine condNT fun _ => ?_ | refine condNF fun _ => ?_ | refine H.lw ?_ | refine H.ll ?_)); (conv => whnf))
    refine Rel.range tabOk rfl rfl H ?_
    clear H
    intro w b H
    ((repeat ((conv => whnf); first | refine an ?_ | ((first | refine H.nwD ?_ | refine H.nw ?_); clear H; intro w _ H) | refine H.ce ?_ | refine H.db ?_ | refine ea ?_ | (refine H.st ?_; (conv => whnf); clear H; intro w H) | refine condT fun _ => ?_ | refine condF fun _ => ?_ | refine condNT fun _ => ?_ | refine condNF fun _ => ?_ | refine H.lw ?_ | refine H.ll ?_)); (conv => whnf))
    refine loop_inv tabOk [0, 1, 7, 8, 9, 10, 11, 12, 13, 14, 15, 16, 26, 33, 43, 51, 64, 98, 108, 124, 139, 143, 156, 160, 171, 175, 183] (fun _ : Nat => []) (fun k w' => k ≤ 3 ∧ Rel W V [.obj b (.stringIter ⟨marks.toArray⟩ k)] V w') (fun k _ => 3 - k) 0 ?_
    (conv => whnf)
    refine ⟨trivial, ⟨by omega, H⟩, ?_⟩
    clear H
    rintro k w ⟨hk, H⟩
    (conv => whnf)
    refine Rel.next H (fun hlt w H => ?_) (fun hlt => ?_)
    · have hk3 : k < 3 := hlt
      have hd : Utf8.decode ⟨marks.toArray⟩ k = (([45, 95, 46] : List Nat)[k]'(by simpa using hk3), 1) := by
        have : k = 0 ∨ k = 1 ∨ k = 2 := by omega
        rcases this with rfl | rfl | rfl <;> rfl
      rw [hd] at H ⊢
      have hne : (([45, 95, 46] : List Nat)[k]'(by simpa using hk3)) < 128 := by
        have : k = 0 ∨ k = 1 ∨ k = 2 := by omega
        rcases this with rfl | rfl | rfl <;> simp
      generalize (([45, 95, 46] : List Nat)[k]'(by simpa using hk3)) = c at hne
      ((repeat ((conv => whnf); first | refine an ?_ | ((first | refine H.nwD ?_ | refine H.nw ?_); clear H; intro w _ H) | refine H.ce ?_ | refine H.db ?_ | refine ea ?_ | (refine H.st ?_; (conv => whnf); clear H; intro w H) | refine condT fun _ => ?_ | refine condF fun _ => ?_ | refine condNT fun _ => ?_ | refine condNF fun _ => ?_ | refine H.lw ?_ | refine H.ll ?_)); (conv => whnf))
      exact ⟨(by repeat (first | exact trivial | refine ⟨rfl, ?_⟩)), k + 1, trivial, ⟨by omega, H⟩, by omega⟩
    · ((repeat ((conv => whnf); first | refine an ?_ | ((first | refine H.nwD ?_ | refine H.nw ?_); clear H; intro w _ H) | refine H.ce ?_ | refine H.db ?_ | refine ea ?_ | (refine H.st ?_; (conv => whnf); clear H; intro w H) | refine condT fun _ => ?_ | refine condF fun _ => ?_ | refine condNT fun _ => ?_ | refine condNF fun _ => ?_ | refine H.lw ?_ | refine H.ll ?_)); (conv => whnf))
      exact ⟨⟨_, rfl, by omega⟩, H.sx⟩
  refine cal_of_vc tabOk Tryz.func101 rfl (by kernel_rfl) 187 rfl (by simp) [0, 1, 4, 5, 6, 7, 8, 9, 10, 11, 12, 13, 14, 15, 16, 26, 33, 43, 51, 64, 98, 108, 124, 139, 143, 156, 160, 171, 175, 176, 177, 181, 183] ?_
  ((repeat ((conv => whnf); first | refine an ?_ | ((first | refine H.nwD ?_ | refine H.nw ?_); clear H; intro w _ H) | refine H.ce ?_ | refine H.db ?_ | refine ea ?_ | (refine H.st ?_; (conv => whnf); clear H; intro w H) | refine condT fun _ => ?_ | refine condF fun _ => ?_ | refine condNT fun _ => ?_ | refine condNF fun _ => ?_ | refine H.lw ?_ | refine H.ll ?_)); (conv => whnf))
  refine (validRune_spec r _).use ?_
  rintro v w ⟨rfl, rfl⟩
  (conv => whnf)
  cases hv : Utf8.valid r with
  | false =>
    (conv => whnf)
    exact ⟨⟨_, rfl, by omega⟩, H⟩
  | true =>
    obtain ⟨e1, e2, e3⟩ := encode_facts r hv (by omega)
    obtain ⟨es, hes⟩ : ∃ es : List UInt8, Utf8.encode r = ⟨es.toArray⟩ := ⟨(Utf8.encode r).data.toList, rfl⟩
    rw [hes] at e1 e2
    have e1' : 2 ≤ es.length := e1
    have e2' : es.length ≤ 4 := e2
    have e3' : ∃ b, es[es.length - 1]? = some b ∧ 128 ≤ b.toNat := by
      refine ⟨es[es.length - 1], by simp <;> omega, ?_⟩
      rw [hes] at e3
      exact e3 (show es.length - 1 < es.length by omega)
    obtain ⟨lb, hlb, hlb8⟩ := e3'
    (conv => whnf)
    refine scope_vc tabOk ?_
    (conv => whnf)
    refine SemOk.of (run_convert_int_string _ _ _ _ _ (by kernel_rfl) (by kernel_rfl)) ?_
    rw [hes]
    ((repeat ((conv => whnf); first | refine an ?_ | ((first | refine H.nwD ?_ | refine H.nw ?_); clear H; intro w _ H) | refine H.ce ?_ | refine H.db ?_ | refine ea ?_ | (refine H.st ?_; (conv => whnf); clear H; intro w H) | refine condT fun _ => ?_ | refine condF fun _ => ?_ | refine condNT fun _ => ?_ | refine condNF fun _ => ?_ | refine H.lw ?_ | refine H.ll ?_)); (conv => whnf))
    have hsz : (ByteArray.mk marks.toArray).size = 3 := rfl
    have hesz : (ByteArray.mk es.toArray).size = es.length := rfl
    refine loop_inv (S := Unit) tabOk [0, 1, 5, 6, 7, 8, 13, 14, 15, 16, 108, 124, 139, 143, 156, 160, 171, 175, 176, 177, 181, 183] (fun _ => [(9, .int .i64 ((es.length : Int) - 1)), (10, .int .i64 0)]) (fun _ w' => Rel W V [] V w') (fun _ _ => 0) () ?_
    (conv => whnf)
    refine ⟨⟨rfl, rfl, trivial⟩, H, ?_⟩
    clear H
    rintro _ w H
    by_cases h5 : es.length - 1 < 3
    · ((repeat ((conv => whnf); first | refine an ?_ | ((first | refine H.nwD ?_ | refine H.nw ?_); clear H; intro w _ H) | refine H.ce ?_ | refine H.db ?_ | refine ea ?_ | (refine H.st ?_; (conv => whnf); clear H; intro w H) | refine condT fun _ => ?_ | refine condF fun _ => ?_ | refine condNT fun _ => ?_ | refine condNF fun _ => ?_ | refine H.lw ?_ | refine H.ll ?_)); (conv => whnf))
      refine scope_vc tabOk ?_
      (conv => whnf)
      obtain ⟨mb, hmb, hmb8⟩ : ∃ mb : UInt8, marks[((es.length : Int) - 1).toNat]? = some mb ∧ mb.toNat < 128 := by
        have : ((es.length : Int) - 1).toNat = 1 ∨ ((es.length : Int) - 1).toNat = 2 := by omega
        rcases this with h | h <;> rw [h]
        · exact ⟨95, rfl, by decide⟩
        · exact ⟨46, rfl, by decide⟩
      have hlb' : es[((es.length : Int) - 1).toNat]? = some lb := by rw [show ((es.length : Int) - 1).toNat = es.length - 1 by omega]; exact hlb
      have hml : marks.length = 3 := rfl
      ((first | refine draw_vc (id := 6) tabOk mixed [] [0, 1, 2, 3, 4, 5, 6] (by kernel_rfl) ?_ | refine draw_vc (id := 7) tabOk mixed [] [0, 1, 2, 3, 4, 5, 6, 7, 8] (by kernel_rfl) ?_ | refine draw_vc (id := 14) tabOk mixed [] [0, 1, 2, 3, 4, 5, 6, 7, 8, 9, 10] (by kernel_rfl) ?_ | refine draw_vc (id := 31) tabOk mixed [] [0, 1, 2, 3, 4, 5, 6, 7, 8, 9, 10] (by kernel_rfl) ?_); intro w hdw; replace H := Rel.ext H hdw.ext)
      ((repeat ((conv => whnf); first | refine an ?_ | ((first | refine H.nwD ?_ | refine H.nw ?_); clear H; intro w _ H) | refine H.ce ?_ | refine H.db ?_ | refine ea ?_ | (refine H.st ?_; (conv => whnf); clear H; intro w H) | refine condT fun _ => ?_ | refine condF fun _ => ?_ | refine condNT fun _ => ?_ | refine condNF fun _ => ?_ | refine H.lw ?_ | refine H.ll ?_)); (conv => whnf))
      ((first | refine draw_vc (id := 6) tabOk mixed [] [0, 1, 2, 3, 4, 5, 6] (by kernel_rfl) ?_ | refine draw_vc (id := 7) tabOk mixed [] [0, 1, 2, 3, 4, 5, 6, 7, 8] (by kernel_rfl) ?_ | refine draw_vc (id := 14) tabOk mixed [] [0, 1, 2, 3, 4, 5, 6, 7, 8, 9, 10] (by kernel_rfl) ?_ | refine draw_vc (id := 31) tabOk mixed [] [0, 1, 2, 3, 4, 5, 6, 7, 8, 9, 10] (by kernel_rfl) ?_); intro w hdw; replace H := Rel.ext H hdw.ext)
      ((repeat ((conv => whnf); first | refine an ?_ | ((first | refine H.nwD ?_ | refine H.nw ?_); clear H; intro w _ H) | refine H.ce ?_ | refine H.db ?_ | refine ea ?_ | (refine H.st ?_; (conv => whnf); clear H; intro w H) | refine condT fun _ => ?_ | refine condF fun _ => ?_ | refine condNT fun _ => ?_ | refine condNF fun _ => ?_ | refine H.lw ?_ | refine H.ll ?_)); (conv => whnf))
      refine (indexByte_spec _ _ _).use ?_
      rintro v w ⟨rfl, rfl⟩
      rw [indexByte_none]
      rotate_left
      · intro b hb e
        have hb' := List.mem_of_mem_take (List.mem_of_mem_drop hb)
        have hlt : b.toNat < 128 := by
          simp only [marks, List.mem_cons, List.not_mem_nil, or_false] at hb'
          rcases hb' with rfl | rfl | rfl <;> decide
        have : (lb.toNat).toUInt8 = lb := by simp
        rw [Int.toNat_natCast, this] at e
        subst e
        omega
      ((repeat ((conv => whnf); first | refine an ?_ | ((first | refine H.nwD ?_ | refine H.nw ?_); clear H; intro w _ H) | refine H.ce ?_ | refine H.db ?_ | refine ea ?_ | (refine H.st ?_; (conv => whnf); clear H; intro w H) | refine condT fun _ => ?_ | refine condF fun _ => ?_ | refine condNT fun _ => ?_ | refine condNF fun _ => ?_ | refine H.lw ?_ | refine H.ll ?_)); (conv => whnf))
      exact ⟨⟨_, rfl, by omega⟩, H⟩
    · ((repeat ((conv => whnf); first | refine an ?_ | ((first | refine H.nwD ?_ | refine H.nw ?_); clear H; intro w _ H) | refine H.ce ?_ | refine H.db ?_ | refine ea ?_ | (refine H.st ?_; (conv => whnf); clear H; intro w H) | refine condT fun _ => ?_ | refine condF fun _ => ?_ | refine condNT fun _ => ?_ | refine condNF fun _ => ?_ | refine H.lw ?_ | refine H.ll ?_)); (conv => whnf))
      exact ⟨⟨_, rfl, by omega⟩, H⟩
end Go.Proofs.YtlhgmigoncmcaaaGreat
namespace Go.Proofs.YtlhgmigoncmcaaaGreat
open Go Go.RowKit

/-- a byte of a name -/
def okN (n : Nat) : Bool := decide ((97 ≤ n ∧ n ≤ 122) ∨ (48 ≤ n ∧ n ≤ 57) ∨ n = 45 ∨ n = 95 ∨ n = 46)
theorem containsRune_spec {V W : World} (hV : Sub V W) (r : Int) (h0 : 0 ≤ r) (h1 : r ≤ 2147483647) : Ret Tryz.prog 95 [str marks, .int .i32 r].toArray W fun v w' => v = .bool (decide (r = 45 ∨ r = 95 ∨ r = 46)) ∧ Rel W V [] V w' := by
  refine cal_of_vc tabOk Tryz.func95 rfl (by kernel_rfl) 9 rfl (by simp) [0, 1, 4] ?_
  (conv => whnf)
  refine (indexRune_spec hV r h0 h1).use ?_
  rintro v w ⟨⟨i, rfl, hi⟩, H⟩
  (conv => whnf)
  exact ⟨by simp only [hi], H⟩
theorem name1_spec {V W : World} (hV : Sub V W) (r : Nat) (h1 : r ≤ 2147483647) : Ret Tryz.prog 94 [.int .i32 r].toArray W fun v w' => v = .bool (!okN r) ∧ Rel W V [] V w' := by
  have H := Rel.start hV
  refine cal_of_vc tabOk Tryz.func94 rfl (by kernel_rfl) 22 rfl (by simp) [0, 2] ?_
  by_cases g1 : 97 ≤ r ∧ r ≤ 122
  · have e : okN r = true := by simp [okN]; omega
    rw [e]
    ((repeat ((conv => whnf); first | refine an ?_ | ((first | refine H.nwD ?_ | refine H.nw ?_); clear H; intro w _ H) | refine H.ce ?_ | refine H.db ?_ | refine ea ?_ | (refine H.st ?_; (conv => whnf); clear H; intro w H) | refine condT fun _ => ?_ | refine condF fun _ => ?_ | refine condNT fun _ => ?_ | refine condNF fun _ => ?_ | refine H.lw ?_ | refine H.ll ?_)); (conv => whnf))
    exact H
  by_cases g2 : 48 ≤ r ∧ r ≤ 57
  · have e : okN r = true := by simp [okN]; omega
    rw [e]
    by_cases g3 : r < 97
    · ((repeat ((conv => whnf); first | refine an ?_ | ((first | refine H.nwD ?_ | refine H.nw ?_); clear H; intro w _ H) | refine H.ce ?_ | refine H.db ?_ | refine ea ?_ | (refine H.st ?_; (conv => whnf); clear H; intro w H) | refine condT fun _ => ?_ | refine condF fun _ => ?_ | refine condNT fun _ => ?_ | refine condNF fun _ => ?_ | refine H.lw ?_ | refine H.ll ?_)); (conv => whnf))
      exact H
    · omega
  have e : okN r = decide ((r : Int) = 45 ∨ (r : Int) = 95 ∨ (r : Int) = 46) := by simp only [okN]; congr 1; simp only [eq_iff_iff]; omega
  rw [e]
  by_cases g3 : r < 97
  · by_cases g4 : r < 48
    · ((repeat ((conv => whnf); first | refine an ?_ | ((first | refine H.nwD ?_ | refine H.nw ?_); clear H; intro w _ H) | refine H.ce ?_ | refine H.db ?_ | refine ea ?_ | (refine H.st ?_; (conv => whnf); clear H; intro w H) | refine condT fun _ => ?_ | refine condF fun _ => ?_ | refine condNT fun _ => ?_ | refine condNF fun _ => ?_ | refine H.lw ?_ | refine H.ll ?_)); (conv => whnf))
      refine (containsRune_spec hV r (by omega) (by omega)).use ?_
      rintro v w ⟨rfl, H⟩
      (conv => whnf)
      exact ⟨rfl, H⟩
    · ((repeat ((conv => whnf); first | refine an ?_ | ((first | refine H.nwD ?_ | refine H.nw ?_); clear H; intro w _ H) | refine H.ce ?_ | refine H.db ?_ | refine ea ?_ | (refine H.st ?_; (conv => whnf); clear H; intro w H) | refine condT fun _ => ?_ | refine condF fun _ => ?_ | refine condNT fun _ => ?_ | refine condNF fun _ => ?_ | refine H.lw ?_ | refine H.ll ?_)); (conv => whnf))
      refine (containsRune_spec hV r (by omega) (by omega)).use ?_
      rintro v w ⟨rfl, H⟩
      (conv => whnf)
      exact ⟨rfl, H⟩
  · ((repeat ((conv => whnf); first | refine an ?_ | ((first | refine H.nwD ?_ | refine H.nw ?_); clear H; intro w _ H) | refine H.ce ?_ | refine H.db ?_ | refine ea ?_ | (refine H.st ?_; (conv => whnf); clear H; intro w H) | refine condT fun _ => ?_ | refine condF fun _ => ?_ | refine condNT fun _ => ?_ | refine condNF fun _ => ?_ | refine H.lw ?_ | refine H.ll ?_)); (conv => whnf))
    refine (containsRune_spec hV r (by omega) (by omega)).use ?_
    rintro v w ⟨rfl, H⟩
    (conv => whnf)
    exact ⟨rfl, H⟩
theorem decode_lt (s : ByteArray) (pos : Nat) : (Utf8.decode s pos).1 ≤ 2147483647 := by
  have h : ∀ b : UInt8, b.toNat < 256 := fun b => b.toNat_lt
  have e0 := h (s.get! (pos + 0))
  have e1 := h (s.get! (pos + 1))
  have e2 := h (s.get! (pos + 2))
  have e3 := h (s.get! (pos + 3))
  unfold Utf8.decode
  dsimp only
  repeat' split
  all_goals first | (simp only [Utf8.runeError]; omega) | (dsimp only; omega)
theorem allTake {g : UInt8 → Bool} {s : List UInt8} {k : Nat} (hk : k < s.length) : (s.take (k + 1)).all g = ((s.take k).all g && g s[k]) := by
  rw [List.take_succ_eq_append_getElem hk, List.all_append]
  simp
/-- over a string, for the names' test -/
theorem indexFunc_spec {V W : World} (hV : Sub V W) (s : List UInt8) : Ret Tryz.prog 102 [str s, .func (.func 94) #[] #[], .bool true].toArray W fun v w' => (∃ i : Int, v = iv i ∧ (0 ≤ i ↔ s.all (fun b => okN b.toNat) = false)) ∧ Rel W V [] V w' := by
  have H := Rel.start hV
  have hsz : (ByteArray.mk s.toArray).size = s.length := rfl
  refine cal_of_vc tabOk Tryz.func102 rfl (by kernel_rfl) 21 rfl (by simp) [0, 1, 2, 6, 7, 8, 10, 11, 12, 19] ?_
  ((repeat ((conv => whnf); first | refine an ?_ | ((first | refine H.nwD ?_ | refine H.nw ?_); clear H; intro w _ H) | refine H.ce ?_ | refine H.db ?_ | refine ea ?_ | (refine H.st ?_; (conv => whnf); clear H; intro w H) | refine condT fun _ => ?_ | refine condF fun _ => ?_ | refine condNT fun _ => ?_ | refine condNF fun _ => ?_ | refine H.lw ?_ | refine H.ll ?_)); (conv => whnf))
  refine Rel.range tabOk rfl rfl H ?_
  clear H
  intro w b H
  ((repeat ((conv => whnf); first | refine an ?_ | ((first | refine H.nwD ?_ | refine H.nw ?_); clear H; intro w _ H) | refine H.ce ?_ | refine H.db ?_ | refine ea ?_ | (refine H.st ?_; (conv => whnf); clear H; intro w H) | refine condT fun _ => ?_ | refine condF fun _ => ?_ | refine condNT fun _ => ?_ | refine condNF fun _ => ?_ | refine H.lw ?_ | refine H.ll ?_)); (conv => whnf))
  refine loop_inv tabOk [0, 1, 2, 10] (fun _ : Nat => []) (fun k w' => k ≤ s.length ∧ (s.take k).all (fun b => okN b.toNat) = true ∧ Rel W V [.obj b (.stringIter ⟨s.toArray⟩ k)] V w') (fun k _ => s.length - k) 0 ?_
  (conv => whnf)
  refine ⟨trivial, ⟨by omega, by simp, H⟩, ?_⟩
  clear H
  rintro k w ⟨hk, hall, H⟩
  (conv => whnf)
  refine Rel.next H (fun hlt w H => ?_) (fun hlt => ?_)
  · have hk3 : k < s.length := hlt
    have hat : allTake (g := fun b => okN b.toNat) hk3 = allTake (g := fun b => okN b.toNat) hk3 := rfl
    have hcl := decode_lt ⟨s.toArray⟩ k
    have hsk : (ByteArray.mk s.toArray)[k]'hlt = s[k] := rfl
    ((repeat ((conv => whnf); first | refine an ?_ | ((first | refine H.nwD ?_ | refine H.nw ?_); clear H; intro w _ H) | refine H.ce ?_ | refine H.db ?_ | refine ea ?_ | (refine H.st ?_; (conv => whnf); clear H; intro w H) | refine condT fun _ => ?_ | refine condF fun _ => ?_ | refine condNT fun _ => ?_ | refine condNF fun _ => ?_ | refine H.lw ?_ | refine H.ll ?_)); (conv => whnf))
    refine (name1_spec H.data _ hcl).use ?_
    rintro v w ⟨rfl, K⟩
    replace H := H.call K
    by_cases ha : (s[k]).toNat < 128
    · rw [decode_ascii _ k hlt ha] at H ⊢
      dsimp only at H ⊢
      rw [hsk]
      cases hok : okN (s[k]).toNat with
      | true =>
        (conv => whnf)
        refine ⟨rfl, (by repeat (first | exact trivial | refine ⟨rfl, ?_⟩)), k + 1, trivial, ⟨by omega, ?_, H⟩, by omega⟩
        rw [allTake hk3, hall, hok]
        rfl
      | false =>
        ((repeat ((conv => whnf); first | refine an ?_ | ((first | refine H.nwD ?_ | refine H.nw ?_); clear H; intro w _ H) | refine H.ce ?_ | refine H.db ?_ | refine ea ?_ | (refine H.st ?_; (conv => whnf); clear H; intro w H) | refine condT fun _ => ?_ | refine condF fun _ => ?_ | refine condNT fun _ => ?_ | refine condNF fun _ => ?_ | refine H.lw ?_ | refine H.ll ?_)); (conv => whnf))
        refine ⟨⟨_, rfl, ?_⟩, H.sx⟩
        refine ⟨fun _ => ?_, fun _ => by omega⟩
        rw [← Bool.not_eq_true, List.all_eq_true]
        intro h
        have := h s[k] (List.getElem_mem hk3)
        rw [hok] at this
        cases this
    · have hh := decode_high _ k hlt (by rw [hsk]; omega)
      have hok : okN (Utf8.decode ⟨s.toArray⟩ k).1 = false := by simp [okN]; omega
      rw [hok]
      ((repeat ((conv => whnf); first | refine an ?_ | ((first | refine H.nwD ?_ | refine H.nw ?_); clear H; intro w _ H) | refine H.ce ?_ | refine H.db ?_ | refine ea ?_ | (refine H.st ?_; (conv => whnf); clear H; intro w H) | refine condT fun _ => ?_ | refine condF fun _ => ?_ | refine condNT fun _ => ?_ | refine condNF fun _ => ?_ | refine H.lw ?_ | refine H.ll ?_)); (conv => whnf))
      refine ⟨⟨_, rfl, ?_⟩, H.sx⟩
      refine ⟨fun _ => ?_, fun _ => by omega⟩
      rw [← Bool.not_eq_true, List.all_eq_true]
      intro h
      have := h s[k] (List.getElem_mem hk3)
      simp [okN] at this
      omega
  · ((repeat ((conv => whnf); first | refine an ?_ | ((first | refine H.nwD ?_ | refine H.nw ?_); clear H; intro w _ H) | refine H.ce ?_ | refine H.db ?_ | refine ea ?_ | (refine H.st ?_; (conv => whnf); clear H; intro w H) | refine condT fun _ => ?_ | refine condF fun _ => ?_ | refine condNT fun _ => ?_ | refine condNF fun _ => ?_ | refine H.lw ?_ | refine H.ll ?_)); (conv => whnf))
    have hkl : k = s.length := by have : ¬ k < s.length := hlt; omega
    rw [hkl, List.take_length] at hall
    refine ⟨⟨_, rfl, ?_⟩, H.sx⟩
    rw [hall]
    simp
theorem containsFunc_spec {V W : World} (hV : Sub V W) (s : List UInt8) : Ret Tryz.prog 93 [str s, .func (.func 94) #[] #[]].toArray W fun v w' => v = .bool (!s.all (fun b => okN b.toNat)) ∧ Rel W V [] V w' := by
  refine cal_of_vc tabOk Tryz.func93 rfl (by kernel_rfl) 9 rfl (by simp) [0, 1, 4] ?_
  (conv => whnf)
  have key : Ret Tryz.prog 100 [str s, .func (.func 94) #[] #[]].toArray W fun v w' => (∃ i : Int, v = iv i ∧ (0 ≤ i ↔ s.all (fun b => okN b.toNat) = false)) ∧ Rel W V [] V w' := by
    refine cal_of_vc tabOk Tryz.func100 rfl (by kernel_rfl) 8 rfl (by simp) [0, 1, 4] ?_
    (conv => whnf)
    refine (indexFunc_spec hV s).use ?_
    rintro v w ⟨⟨i, rfl, hi⟩, H⟩
    (conv => whnf)
    exact ⟨⟨_, rfl, hi⟩, H⟩
  refine key.use ?_
  rintro v w ⟨⟨i, rfl, hi⟩, H⟩
  (conv => whnf)
  refine ⟨?_, H⟩
  cases h : s.all (fun b => okN b.toNat) with
  | true => simp [h] at hi; simp; omega
  | false => simp [h] at hi; simp [hi]
/-- a name -/
def nameOk (s : List UInt8) : Bool := decide (1 ≤ s.length ∧ s.length ≤ 32) && (decide (97 ≤ (s[0]?.getD 0).toNat ∧ (s[0]?.getD 0).toNat ≤ 122) && s.all fun b => okN b.toNat)
theorem name_spec {V W : World} (hV : Sub V W) (s : List UInt8) : Ret Tryz.prog 71 [str s].toArray W fun v w' => v = .bool (nameOk s) ∧ Rel W V [] V w' := by
  have H := Rel.start hV
  have hsz : (ByteArray.mk s.toArray).size = s.length := rfl
  refine cal_of_vc tabOk Tryz.func71 rfl (by kernel_rfl) 23 rfl (by simp) [0, 2, 19] ?_
  rcases s with _ | ⟨c, s⟩
  · ((repeat ((conv => whnf); first | refine an ?_ | ((first | refine H.nwD ?_ | refine H.nw ?_); clear H; intro w _ H) | refine H.ce ?_ | refine H.db ?_ | refine ea ?_ | (refine H.st ?_; (conv => whnf); clear H; intro w H) | refine condT fun _ => ?_ | refine condF fun _ => ?_ | refine condNT fun _ => ?_ | refine condNF fun _ => ?_ | refine H.lw ?_ | refine H.ll ?_)); (conv => whnf))
    exact H
  have hc0 : (c :: s)[(0 : Int).toNat]? = some c := rfl
  by_cases g1 : 32 < (c :: s).length
  · ((repeat ((conv => whnf); first | refine an ?_ | ((first | refine H.nwD ?_ | refine H.nw ?_); clear H; intro w _ H) | refine H.ce ?_ | refine H.db ?_ | refine ea ?_ | (refine H.st ?_; (conv => whnf); clear H; intro w H) | refine condT fun _ => ?_ | refine condF fun _ => ?_ | refine condNT fun _ => ?_ | refine condNF fun _ => ?_ | refine H.lw ?_ | refine H.ll ?_)); (conv => whnf))
    refine ⟨?_, H⟩
    have : ¬ (c :: s).length ≤ 32 := by omega
    simp only [nameOk, this, and_false, decide_false, Bool.false_and]
  have e1 : nameOk (c :: s) = (decide (97 ≤ c.toNat ∧ c.toNat ≤ 122) && (c :: s).all fun b => okN b.toNat) := by
    have : 1 ≤ (c :: s).length ∧ (c :: s).length ≤ 32 := ⟨by simp, by omega⟩
    simp only [nameOk, this, and_self, decide_true, Bool.true_and]
    rfl
  rw [e1]
  by_cases g2 : c.toNat < 97
  · ((repeat ((conv => whnf); first | refine an ?_ | ((first | refine H.nwD ?_ | refine H.nw ?_); clear H; intro w _ H) | refine H.ce ?_ | refine H.db ?_ | refine ea ?_ | (refine H.st ?_; (conv => whnf); clear H; intro w H) | refine condT fun _ => ?_ | refine condF fun _ => ?_ | refine condNT fun _ => ?_ | refine condNF fun _ => ?_ | refine H.lw ?_ | refine H.ll ?_)); (conv => whnf))
    refine ⟨?_, H⟩
    simp [show ¬ 97 ≤ c.toNat by omega]
  by_cases g3 : 122 < c.toNat
  · ((repeat ((conv => whnf); first | refine an ?_ | ((first | refine H.nwD ?_ | refine H.nw ?_); clear H; intro w _ H) | refine H.ce ?_ | refine H.db ?_ | refine ea ?_ | (refine H.st ?_; (conv => whnf); clear H; intro w H) | refine condT fun _ => ?_ | refine condF fun _ => ?_ | refine condNT fun _ => ?_ | refine condNF fun _ => ?_ | refine H.lw ?_ | refine H.ll ?_)); (conv => whnf))
    refine ⟨?_, H⟩
    simp [show ¬ c.toNat ≤ 122 by omega]
  ((repeat ((conv => whnf); first | refine an ?_ | ((first | refine H.nwD ?_ | refine H.nw ?_); clear H; intro w _ H) | refine H.ce ?_ | refine H.db ?_ | refine ea ?_ | (refine H.st ?_; (conv => whnf); clear H; intro w H) | refine condT fun _ => ?_ | refine condF fun _ => ?_ | refine condNT fun _ => ?_ | refine condNF fun _ => ?_ | refine H.lw ?_ | refine H.ll ?_)); (conv => whnf))
  refine (containsFunc_spec hV (c :: s)).use ?_
  rintro v w ⟨rfl, H⟩
  (conv => whnf)
  refine ⟨?_, H⟩
  simp [show 97 ≤ c.toNat by omega, show c.toNat ≤ 122 by omega]
theorem in_ref (n a b : Int) (w : World) : Ret Tryz.prog 49 [iv n, iv a, iv b].toArray w fun v w' => v = .bool (decide (a ≤ n ∧ n ≤ b)) ∧ w = w' := by
  refine cal_of_vc tabOk Tryz.func49 rfl (by kernel_rfl) 15 rfl (by simp) [0, 1, 2, 6] ?_
  (conv => whnf)
  refine condG_dec (fun h => ?_) (fun h => ?_)
  · (conv => whnf)
    exact ⟨by simp [h], rfl⟩
  · (conv => whnf)
    exact ⟨by simp [h], rfl⟩
theorem name_ref (w : World) (s : List UInt8) : Ret Tryz.prog 48 [str s].toArray w fun v w' => v = .bool (nameOk s) ∧ w = w' := by
  have hsz : (ByteArray.mk s.toArray).size = s.length := rfl
  refine cal_of_vc tabOk Tryz.func48 rfl (by kernel_rfl) 46 rfl (by simp) [0, 2, 3, 4, 15, 19, 45] ?_
  (conv => whnf)
  refine (in_ref _ _ _ _).use ?_
  rintro v w ⟨rfl, rfl⟩
  (conv => whnf)
  refine condG_ndec (fun h1 => ?_) (fun h1 => ?_)
  · (conv => whnf)
    refine ⟨?_, rfl⟩
    have : ¬ (1 ≤ s.length ∧ s.length ≤ 32) := by omega
    simp only [nameOk, this, decide_false, Bool.false_and]
  rcases s with _ | ⟨c, s⟩
  · have : (ByteArray.mk #[]).size = 0 := rfl
    omega
  have hc0 : (c :: s)[(0 : Int).toNat]? = some c := rfl
  have e1 : nameOk (c :: s) = (decide (97 ≤ c.toNat ∧ c.toNat ≤ 122) && (c :: s).all fun b => okN b.toNat) := by
    have : 1 ≤ (c :: s).length ∧ (c :: s).length ≤ 32 := by omega
    simp only [nameOk, this, and_self, decide_true, Bool.true_and]
    rfl
  rw [e1]
  have hcl := c.toNat_lt
  ((repeat ((conv => whnf); first | refine And.intro (by first | omega | assumption | exact rfl) ?_ | refine Exists.intro _ (And.intro (by assumption) ?_) | refine Exists.intro _ (Exists.intro _ (And.intro (by assumption) ?_)) | refine Exists.intro _ (And.intro (Blk.cel (by assumption) (by rfl)) ?_))); (conv => whnf))
  refine (in_ref _ _ _ _).use ?_
  rintro v w ⟨rfl, rfl⟩
  (conv => whnf)
  refine condG_ndec (fun h2 => ?_) (fun h2 => ?_)
  · (conv => whnf)
    refine ⟨?_, rfl⟩
    have : ¬ (97 ≤ c.toNat ∧ c.toNat ≤ 122) := by omega
    simp only [this, decide_false, Bool.false_and]
  have e2 : decide (97 ≤ c.toNat ∧ c.toNat ≤ 122) = true := by simp; omega
  rw [e2, Bool.true_and]
  generalize c :: s = s at *
  (conv => whnf)
  refine loop_inv (S := Nat) tabOk [0, 15] (fun k => [(3, .int .i64 k)]) (fun k w' => k ≤ s.length ∧ (s.take k).all (fun b => okN b.toNat) = true ∧ w = w') (fun k _ => s.length - k) 0 ?_
  (conv => whnf)
  refine ⟨(by repeat (first | exact trivial | refine ⟨rfl, ?_⟩)), ⟨by omega, by simp, rfl⟩, ?_⟩
  rintro k w' ⟨hk, hall, rfl⟩
  (conv => whnf)
  refine condG_dec (fun h4 => ?_) (fun h4 => ?_)
  rotate_left
  · (conv => whnf)
    rw [show k = s.length by omega, List.take_length] at hall
    exact ⟨by rw [hall], rfl⟩
  have hk3 : k < s.length := by omega
  have hsk : s[((k : Nat) : Int).toNat]? = some s[k] := by simp [hk3]
  have hcl' := (s[k]).toNat_lt
  have bad : okN (s[k]).toNat = false → s.all (fun b => okN b.toNat) = false := by
    intro hb
    rw [← Bool.not_eq_true, List.all_eq_true]
    intro h
    have := h s[k] (List.getElem_mem hk3)
    rw [hb] at this
    cases this
  have good : okN (s[k]).toNat = true → (s.take (k + 1)).all (fun b => okN b.toNat) = true := fun hg => by rw [allTake hk3, hall, hg]; rfl
  ((repeat ((conv => whnf); first | refine And.intro (by first | omega | assumption | exact rfl) ?_ | refine Exists.intro _ (And.intro (by assumption) ?_) | refine Exists.intro _ (Exists.intro _ (And.intro (by assumption) ?_)) | refine Exists.intro _ (And.intro (Blk.cel (by assumption) (by rfl)) ?_))); (conv => whnf))
  refine (in_ref _ _ _ _).use ?_
  rintro v w ⟨rfl, rfl⟩
  (conv => whnf)
  refine condG_ndec (fun h5 => ?_) (fun h5 => ?_)
  rotate_left
  · ((repeat ((conv => whnf); refine And.intro (by omega) ?_)); (conv => whnf))
    exact ⟨rfl, (by repeat (first | exact trivial | refine ⟨rfl, ?_⟩)), k + 1, (by repeat (first | exact trivial | refine ⟨rfl, ?_⟩)), ⟨by omega, good (by simp [okN]; omega), rfl⟩, by omega⟩
  (conv => whnf)
  refine (in_ref _ _ _ _).use ?_
  rintro v w ⟨rfl, rfl⟩
  (conv => whnf)
  refine condG_ndec (fun h6 => ?_) (fun h6 => ?_)
  rotate_left
  · ((repeat ((conv => whnf); refine And.intro (by omega) ?_)); (conv => whnf))
    exact ⟨rfl, (by repeat (first | exact trivial | refine ⟨rfl, ?_⟩)), k + 1, (by repeat (first | exact trivial | refine ⟨rfl, ?_⟩)), ⟨by omega, good (by simp [okN]; omega), rfl⟩, by omega⟩
  (conv => whnf)
  refine condG_dec (fun h7 => ?_) (fun h7 => ?_)
  rotate_left
  · ((repeat ((conv => whnf); refine And.intro (by omega) ?_)); (conv => whnf))
    exact ⟨rfl, (by repeat (first | exact trivial | refine ⟨rfl, ?_⟩)), k + 1, (by repeat (first | exact trivial | refine ⟨rfl, ?_⟩)), ⟨by omega, good (by simp [okN]; omega), rfl⟩, by omega⟩
  (conv => whnf)
  refine condG_dec (fun h8 => ?_) (fun h8 => ?_)
  rotate_left
  · ((repeat ((conv => whnf); refine And.intro (by omega) ?_)); (conv => whnf))
    exact ⟨rfl, (by repeat (first | exact trivial | refine ⟨rfl, ?_⟩)), k + 1, (by repeat (first | exact trivial | refine ⟨rfl, ?_⟩)), ⟨by omega, good (by simp [okN]; omega), rfl⟩, by omega⟩
  (conv => whnf)
  refine condG_dec (fun h9 => ?_) (fun h9 => ?_)
  rotate_left
  · ((repeat ((conv => whnf); refine And.intro (by omega) ?_)); (conv => whnf))
    exact ⟨rfl, (by repeat (first | exact trivial | refine ⟨rfl, ?_⟩)), k + 1, (by repeat (first | exact trivial | refine ⟨rfl, ?_⟩)), ⟨by omega, good (by simp [okN]; omega), rfl⟩, by omega⟩
  (conv => whnf)
  exact ⟨by rw [bad (by simp [okN]; omega)], rfl⟩
end Go.Proofs.YtlhgmigoncmcaaaGreat
